/- The document's reader: value, all but a list with elements. -/
import Derived.Test.YtkhpfghehjcfoaaDoorVa
namespace Go.Proofs.YtkhpfghehjcfoaaDoor
open Go.RowKit

theorem RRd.dec {w : World} {p : Nat} {s : ByteArray} {i m : Nat} {st : Bool} (h : RRd w p s i st ((m : Int) + 1)) : RRd (w.setCell ⟨p, 3, Option.none⟩ (.int .i64 m)) p s i st m := by
  have := BlkN.set h 3 (.int .i64 m)
  unfold RRd
  simpa using this
theorem RRd.but {w w' : World} {p b : Nat} {s : ByteArray} {i : Nat} {st : Bool} {room : Int} (h : RRd w p s i st room) (hb : But b w w') (hn : p ≠ b) : RRd w' p s i st room := (hb.other p hn).trans h
/-- What value answers. -/
def RvP (r : Va × L8 × Bool × Nat) (s : ByteArray) (i m : Nat) (p lo : Nat) (e : Ending) (w' : World) : Prop :=
  ∃ j v, i ≤ j ∧ j ≤ s.size ∧ r.2.1 = rest s j ∧ e = .returned v ∧ IsVaR w' (Own34 w' lo) v r.1 ∧ RRd w' p s j r.2.2.1 (r.2.2.2 : Nat) ∧ r.2.2.2 ≤ m
def RdC (nest : Nat) : Prop := ∀ (s : ByteArray) (i m : Nat) (w : World) (p : Nat), RRd w p s i false (m : Nat) → i ≤ s.size → s.size ≤ 140737488351232 → m ≤ 512 →
  Calls Tryd.prog 42 #[.pointer (some ⟨p, 0, Option.none⟩), .int .i64 (nest : Nat)] w fun e w' => Upd p w w' ∧ RvP (rdR nest (rest s i) m) s i m p w.heap.size e w'
theorem rdR_zero (nest : Nat) (t : L8) : rdR nest t 0 = (zVa, t, true, 0) := by cases nest <;> rfl
theorem rdR_nil (nest m : Nat) : rdR nest [] (m + 1) = (zVa, [], true, m) := by cases nest <;> rfl
theorem rdR_none (t : L8) (m : Nat) : rdR 0 (95 :: t) (m + 1) = (zVa, t, false, m) := rfl
theorem rdR_95 (nest : Nat) (t : L8) (m : Nat) : rdR nest (95 :: t) (m + 1) = (zVa, t, false, m) := by cases nest <;> rfl
theorem rdR_35 (nest : Nat) (t : L8) (m : Nat) : rdR nest (35 :: t) (m + 1) = (.mk 4 0 ⟨#[]⟩ [] ((cntV posM true t).1 : Nat), (cntV posM true t).2.1, (cntV posM true t).2.2, m) := by cases nest <;> rfl
theorem rdR_45 (nest : Nat) (t : L8) (m : Nat) : rdR nest (45 :: t) (m + 1) = (.mk 1 (-((cntV (posM + 1) true t).1 : Nat)) ⟨#[]⟩ [] 0, (cntV (posM + 1) true t).2.1, (cntV (posM + 1) true t).2.2, m) := by cases nest <;> rfl
theorem rdR_dig (nest : Nat) (c : UInt8) (t : L8) (m : Nat) (h95 : c ≠ 95) (h35 : c ≠ 35) (h45 : c ≠ 45) (hd : digB c = true) : rdR nest (c :: t) (m + 1) = (.mk 1 ((cntV posM false (c :: t)).1 : Nat) ⟨#[]⟩ [] 0, (cntV posM false (c :: t)).2.1, (cntV posM false (c :: t)).2.2, m) := by
  cases nest <;> (unfold rdR; rw [if_neg h95, if_neg h35, if_neg h45, if_pos hd])
theorem rdR_34 (nest : Nat) (t : L8) (m : Nat) : rdR nest (34 :: t) (m + 1) = (match quo 256 (34 :: t) with | .ok b r => (.mk 2 0 (txtV b) [] 0, r, false, m) | .no r => (.mk 2 0 ⟨#[]⟩ [] 0, r, true, m)) := by cases nest <;> rfl
theorem rdR_other (nest : Nat) (c : UInt8) (t : L8) (m : Nat) (h95 : c ≠ 95) (h35 : c ≠ 35) (h45 : c ≠ 45) (hd : ¬ digB c = true) (h34 : c ≠ 34) (h91 : ¬ (c = 91 ∧ 0 < nest)) : rdR nest (c :: t) (m + 1) = (zVa, c :: t, true, m) := by
  unfold rdR
  rw [if_neg h95, if_neg h35, if_neg h45, if_neg hd, if_neg h34]
  by_cases h : c = 91
  · rw [if_pos h]
    cases nest with
    | zero => rfl
    | succ n => exact absurd ⟨h, by omega⟩ h91
  · rw [if_neg h]
theorem leafR (w : World) (R : Nat → Nat → Prop) (k n r : Int) (s : ByteArray) (h0 : 0 ≤ k) (h1 : k < 256) (h2 : s.size ≤ 140737488351232) (v : Value) (hv : v = .agg #[.int .u8 k, .int .i64 n, .string s, .slice Option.none 0 0, .int .i64 r]) : IsVaR w R v (.mk k n s [] r) := by
  subst hv
  exact leafV w R k n r s h0 h1 h2
theorem wrap_pos {n : Nat} (h : n ≤ 9223372036854775807) : wrap64 (n : Nat) = n := by unfold wrap64; omega
theorem wrap_neg {n : Nat} (h : n ≤ 9223372036854775808) : wrap64 (-(wrap64 (n : Nat))) = -(n : Int) := by unfold wrap64; omega
attribute [local irreducible] wpList
set_option maxRecDepth 100000 in
set_option maxHeartbeats 8000000 in
theorem rval_leaf (nest : Nat) (hn : nest ≤ 16) (s : ByteArray) (i m : Nat) (w : World) (p : Nat) (h : RRd w p s i false (m : Nat)) (hi : i ≤ s.size) (hs : s.size ≤ 140737488351232) (hm : m ≤ 512) (hno : ¬ (0 < m ∧ 0 < nest ∧ ∃ t, rest s i = 91 :: t)) :
    Calls Tryd.prog 42 #[.pointer (some ⟨p, 0, Option.none⟩), .int .i64 (nest : Nat)] w fun e w' => Upd p w w' ∧ RvP (rdR nest (rest s i) m) s i m p w.heap.size e w' := by
  obtain ⟨i0, hi0, hz0, hz1, hz2⟩ := info_parts info34
  have hp0 := h.lt
  obtain ⟨c, hc⟩ : ∃ c : UInt8, c = nxS false (rest s i) := ⟨_, rfl⟩
  have hc0 : c.toNat < 256 := c.toNat_lt
  have HNO := Lib.hid hno
  clear hno
  go_enter Tryd.func42, Tryd.ntmps42
  go_upto_region 1 with fail
  obtain ⟨W, hW⟩ : ∃ W, W = w.alloc (.cells #[.int .u8 0, .int .i64 0, .string ⟨#[]⟩, .slice Option.none 0 0, .int .i64 0] 26) := ⟨_, rfl⟩
  have HR : Hid (RRd W p s i false (m : Nat)) := Lib.hid (by rw [hW]; exact BlkN.alloc h _)
  have HZ : Hid (BlkN W w.heap.size 26 #[.int .u8 0, .int .i64 0, .string ⟨#[]⟩, .slice Option.none 0 0, .int .i64 0]) := Lib.hid (by rw [hW]; exact BlkN.at_ rfl _ _)
  have HU : Hid (Upd p w W) := Lib.hid (by rw [hW]; exact (Upd.refl p w).alloc _)
  rw [← hW]
  clear hW h
  have hpW := HR.out.lt
  have hRW := HZ.out.lt
  have CD : Hid (Calls Tryd.prog 67 #[.pointer (some ⟨p, 0, Option.none⟩)] W fun e w' => e = .returned (.int .u8 (c.toNat : Nat)) ∧ Below W.heap.size W w') := Lib.hid (by rw [hc]; exact rnext_any s i false _ W p HR.out)
  have HC := Lib.hid hc
  clear hc
  cases m with
  | zero =>
    go_wp2_with (first | (go_at_call 67; refine CD.out.mono ?_; rintro e w2 ⟨rfl, hb2⟩; have hr2 := HR.out.below hb2; have hz2 := HZ.out.below hb2; have hp2 := hr2.lt; have hq2 := hz2.lt; have c1 := hr2.cell 1 rfl; have f1 := hr2.free 1; have c2 := hr2.cell 2 rfl; have f2 := hr2.free 2; have c3 := hr2.cell 3 rfl; have f3 := hr2.free 3; have d0 := hz2.cell 0 rfl; have x0 := hz2.free 0; have d1 := hz2.cell 1 rfl; have x1 := hz2.free 1; have d2 := hz2.cell 2 rfl; have x2 := hz2.free 2; have d3 := hz2.cell 3 rfl; have x3 := hz2.free 3; have d4 := hz2.cell 4 rfl; have x4 := hz2.free 4; have HR2 := Lib.hid hr2; have HZ2 := Lib.hid hz2; have HB2 := Lib.hid hb2; clear hb2 hr2 hz2))
    obtain ⟨V', hV', hB3, hbut3⟩ := set5_done (BlkN.setOther HZ2.out (q := ⟨p, 2, Option.none⟩) (by show w.heap.size ≠ p; omega) (.bool true)) (.int .u8 0) (.int .i64 0) (.string ⟨#[]⟩) (.slice Option.none 0 0) (.int .i64 0)
    rw [hV']
    refine bodyPost_ret (results_cell1 (s := 4) (b := w.heap.size) rfl Tryd.underlying26 hi0 rfl hB3 (by rw [hz1]; rfl)) rfl ⟨hbut3.upd (Nat.le_refl _) ((HU.out.below HB2.out).set 2 _), ?_⟩
    rw [rdR_zero]
    exact ⟨i, _, Nat.le_refl _, hi, rfl, rfl, leafR _ _ 0 0 0 ⟨#[]⟩ (by decide) (by decide) (by decide) _ rfl, (RRd.stop HR2.out).but hbut3 (by omega), Nat.le_refl _⟩
  | succ m =>
    have HRm : Hid (RRd W p s i false ((m : Int) + 1)) := Lib.hid (show RRd W p s i false ((m + 1 : Nat) : Int) from HR.out)
    clear HR
    have HR := HRm
    clear HRm
    go_upto_region 6 with (first | (go_at_call 67; refine CD.out.mono ?_; rintro e w2 ⟨rfl, hb2⟩; have hr2 := HR.out.below hb2; have hz2 := HZ.out.below hb2; have hp2 := hr2.lt; have hq2 := hz2.lt; have c1 := hr2.cell 1 rfl; have f1 := hr2.free 1; have c2 := hr2.cell 2 rfl; have f2 := hr2.free 2; have c3 := hr2.cell 3 rfl; have f3 := hr2.free 3; have d0 := hz2.cell 0 rfl; have x0 := hz2.free 0; have d1 := hz2.cell 1 rfl; have x1 := hz2.free 1; have d2 := hz2.cell 2 rfl; have x2 := hz2.free 2; have d3 := hz2.cell 3 rfl; have x3 := hz2.free 3; have d4 := hz2.cell 4 rfl; have x4 := hz2.free 4; have HR2 := Lib.hid hr2; have HZ2 := Lib.hid hz2; have HB2 := Lib.hid hb2; clear hb2 hr2 hz2))
    obtain ⟨V, hV⟩ : ∃ V, V = w2.setCell ⟨p, 3, Option.none⟩ (.int .i64 (m : Nat)) := ⟨_, rfl⟩
    have HRV : Hid (RRd V p s i false (m : Nat)) := Lib.hid (by rw [hV]; exact RRd.dec HR2.out)
    have HZV : Hid (BlkN V w.heap.size 26 #[.int .u8 0, .int .i64 0, .string ⟨#[]⟩, .slice Option.none 0 0, .int .i64 0]) := Lib.hid (by rw [hV]; exact BlkN.setOther HZ2.out (q := ⟨p, 3, Option.none⟩) (by show w.heap.size ≠ p; omega) _)
    have HUV : Hid (Upd p w V) := Lib.hid (by rw [hV]; exact (HU.out.below HB2.out).set 3 _)
    rw [← hV]
    clear hV c1 f1 c2 f2 c3 f3 d0 d1 d2 d3 d4 x0 x1 x2 x3 x4 HR2 HZ2 HB2 CD
    have hr := HRV.out
    have hz := HZV.out
    have hpV := hr.lt
    have hqV := hz.lt
    have c1 := hr.cell 1 rfl
    have f1 := hr.free 1
    have d0 := hz.cell 0 rfl
    have x0 := hz.free 0
    have d1 := hz.cell 1 rfl
    have x1 := hz.free 1
    have d2 := hz.cell 2 rfl
    have x2 := hz.free 2
    have d3 := hz.cell 3 rfl
    have x3 := hz.free 3
    have d4 := hz.cell 4 rfl
    have x4 := hz.free 4
    clear hr hz
    by_cases hsp : c = 95 ∨ c = 35 ∨ c = 45 ∨ digB c = true ∨ c = 34
    rotate_left
    · have hrd : rdR nest (rest s i) (m + 1) = (zVa, rest s i, true, m) := by
        by_cases hh : i < s.size
        · have e := HC.out
          rw [rest_cons hh] at e ⊢
          have e2 : c = s[i] := e
          rw [← e2]
          refine rdR_other nest c _ m (fun e => hsp (.inl e)) (fun e => hsp (.inr (.inl e))) (fun e => hsp (.inr (.inr (.inl e)))) (fun e => hsp (.inr (.inr (.inr (.inl e))))) (fun e => hsp (.inr (.inr (.inr (.inr e))))) (fun e => HNO.out ⟨by omega, e.2, _, by rw [rest_cons hh, ← e2, e.1]⟩)
        · rw [rest_end (by omega)]; exact rdR_nil nest m
      have HRD := Lib.hid hrd
      clear hrd
      have b95 : ((c.toNat : Int) == 95) = false := u8_beq (n := 95) (by decide) (fun e => hsp (.inl e))
      have b35 : ((c.toNat : Int) == 35) = false := u8_beq (n := 35) (by decide) (fun e => hsp (.inr (.inl e)))
      have b45 : ((c.toNat : Int) == 45) = false := u8_beq (n := 45) (by decide) (fun e => hsp (.inr (.inr (.inl e))))
      have b34 : ((c.toNat : Int) == 34) = false := u8_beq (n := 34) (by decide) (fun e => hsp (.inr (.inr (.inr (.inr e)))))
      have hdg : ¬ (48 ≤ c.toNat ∧ c.toNat ≤ 57) := fun e => hsp (.inr (.inr (.inr (.inl (by simp only [digB, Bool.and_eq_true, decide_eq_true_eq]; exact e)))))
      have hlow : decide ((48 : Int) ≤ c.toNat) = false ∨ (decide ((48 : Int) ≤ c.toNat) = true ∧ decide ((c.toNat : Int) ≤ 57) = false) := by
        by_cases h48 : (48 : Int) ≤ c.toNat
        · exact .inr ⟨decide_eq_true h48, decide_eq_false (by omega)⟩
        · exact .inl (decide_eq_false h48)
      have hb91 : ((c.toNat : Int) == 91) = false ∨ (((c.toNat : Int) == 91) = true ∧ nest = 0) := by
        by_cases h91 : c = 91
        · refine .inr ⟨u8_beqt (n := 91) (by decide) h91, Nat.eq_zero_of_not_pos ?_⟩
          intro hn0
          have hh : i < s.size := by
            by_cases hh : i < s.size
            · exact hh
            · have e := HC.out
              rw [rest_end (by omega), h91] at e
              exact absurd e (by decide)
          have e := HC.out
          rw [rest_cons hh] at e
          have e2 : c = s[i] := e
          exact HNO.out ⟨by omega, by omega, _, by rw [rest_cons hh, ← e2, h91]⟩
        · exact .inl (u8_beq (n := 91) (by decide) h91)
      clear hsp hdg
      rcases hlow with l1 | ⟨l1, l2⟩
      all_goals rcases hb91 with k1 | ⟨k1, rfl⟩
      all_goals
        go_wp2_with (first | (go_at_call 69; refine (ron_not HRV.out _ hi (fun _ => rfl) hs).mono ?_; rintro e w3 ⟨rfl, hr3, hu3⟩; have hz3 := BlkN.upd hu3 HZV.out (by omega); have hV3 := hz3.lt; clear d0 d1 d2 d3 d4 x0 x1 x2 x3 x4; have d0 := hz3.cell 0 rfl; have x0 := hz3.free 0; have d1 := hz3.cell 1 rfl; have x1 := hz3.free 1; have d2 := hz3.cell 2 rfl; have x2 := hz3.free 2; have d3 := hz3.cell 3 rfl; have x3 := hz3.free 3; have d4 := hz3.cell 4 rfl; have x4 := hz3.free 4; have HR3 := Lib.hid hr3; have HZ3 := Lib.hid hz3; have HU3 := Lib.hid (HUV.out.trans hu3); clear hr3 hz3 hu3))
        obtain ⟨V', hV', hB3, hbut3⟩ := set5_done HZ3.out (.int .u8 0) (.int .i64 0) (.string ⟨#[]⟩) (.slice Option.none 0 0) (.int .i64 0)
        rw [hV']
        refine bodyPost_ret (results_cell1 (s := 4) (b := w.heap.size) rfl Tryd.underlying26 hi0 rfl hB3 (by rw [hz1]; rfl)) rfl ⟨hbut3.upd (Nat.le_refl _) HU3.out, ?_⟩
        rw [HRD.out]
        exact ⟨i, _, Nat.le_refl _, hi, rfl, rfl, leafR _ _ 0 0 0 ⟨#[]⟩ (by decide) (by decide) (by decide) _ rfl, HR3.out.but hbut3 (by omega), by simp only; omega⟩
    have hh : i < s.size := by
      by_cases hh : i < s.size
      · exact hh
      · have e := HC.out
        rw [rest_end (by omega)] at e
        have e2 : c = 0 := e
        subst e2
        exact absurd hsp (by decide)
    have HRC : Hid (rest s i = c :: rest s (i + 1)) := Lib.hid (by
      have e := HC.out
      rw [rest_cons hh] at e ⊢
      have e2 : c = s[i] := e
      rw [e2])
    by_cases h95 : c = 95
    · subst h95
      go_wp2_with fail
      obtain ⟨V', hV', hB3, hbut3⟩ := set5_done (BlkN.setOther HZV.out (q := ⟨p, 1, Option.none⟩) (by show w.heap.size ≠ p; omega) (.int .i64 ((i : Int) + 1))) (.int .u8 0) (.int .i64 0) (.string ⟨#[]⟩) (.slice Option.none 0 0) (.int .i64 0)
      rw [hV']
      refine bodyPost_ret (results_cell1 (s := 4) (b := w.heap.size) rfl Tryd.underlying26 hi0 rfl hB3 (by rw [hz1]; rfl)) rfl ⟨hbut3.upd (Nat.le_refl _) (HUV.out.set 1 _), ?_⟩
      rw [HRC.out, rdR_95]
      exact ⟨i + 1, _, by omega, by omega, rfl, rfl, leafR _ _ 0 0 0 ⟨#[]⟩ (by decide) (by decide) (by decide) _ rfl, (RRd.adv HRV.out).but hbut3 (by omega), by simp only; omega⟩
    have b95 : ((c.toNat : Int) == 95) = false := u8_beq (n := 95) (by decide) h95
    by_cases h35 : c = 35
    · subst h35
      go_upto_region 11 with fail
      obtain ⟨N, hN⟩ : ∃ N, N = V.setCell ⟨p, 1, Option.none⟩ (.int .i64 ((i : Int) + 1)) := ⟨_, rfl⟩
      have HRN : Hid (RRd N p s (i + 1) false (m : Nat)) := Lib.hid (by rw [hN]; exact RRd.adv HRV.out)
      have HZN : Hid (BlkN N w.heap.size 26 #[.int .u8 0, .int .i64 0, .string ⟨#[]⟩, .slice Option.none 0 0, .int .i64 0]) := Lib.hid (by rw [hN]; exact BlkN.setOther HZV.out (q := ⟨p, 1, Option.none⟩) (by show w.heap.size ≠ p; omega) _)
      have HUN : Hid (Upd p w N) := Lib.hid (by rw [hN]; exact HUV.out.set 1 _)
      rw [← hN]
      clear hN c1 f1
      go_wp2_with (first | (go_at_call 68; refine (rcount_ref s (i + 1) _ _ p HRN.out (by omega) hs).mono ?_; rintro e w3 ⟨hu3, n, j, st, rfl, hnl, hij, hj, hcv, hr3⟩; have hz3 := BlkN.upd hu3 HZN.out (by omega); have hV3 := hz3.lt; clear d0 d1 d2 d3 d4 x0 x1 x2 x3 x4; have d0 := hz3.cell 0 rfl; have x0 := hz3.free 0; have d1 := hz3.cell 1 rfl; have x1 := hz3.free 1; have d2 := hz3.cell 2 rfl; have x2 := hz3.free 2; have d3 := hz3.cell 3 rfl; have x3 := hz3.free 3; have d4 := hz3.cell 4 rfl; have x4 := hz3.free 4; have HR3 := Lib.hid hr3; have HZ3 := Lib.hid hz3; have HU3 := Lib.hid (HUN.out.trans hu3); have HCV := Lib.hid hcv; have HNL := Lib.hid hnl; clear hr3 hz3 hu3 hcv hnl))
      obtain ⟨V', hV', hB3, hbut3⟩ := set5_done HZ3.out (.int .u8 4) (.int .i64 0) (.string ⟨#[]⟩) (.slice Option.none 0 0) (.int .i64 (wrap64 (n : Nat)))
      rw [hV']
      refine bodyPost_ret (results_cell1 (s := 4) (b := w.heap.size) rfl Tryd.underlying26 hi0 rfl hB3 (by rw [hz1]; rfl)) rfl ⟨hbut3.upd (Nat.le_refl _) HU3.out, ?_⟩
      rw [HRC.out, rdR_35, HCV.out]
      exact ⟨j, _, by omega, hj, rfl, rfl, leafR _ _ 4 0 (n : Nat) ⟨#[]⟩ (by decide) (by decide) (by decide) _ (by rw [wrap_pos HNL.out]), HR3.out.but hbut3 (by omega), by simp only; omega⟩
    have b35 : ((c.toNat : Int) == 35) = false := u8_beq (n := 35) (by decide) h35
    by_cases h45 : c = 45
    · subst h45
      go_upto_region 14 with fail
      obtain ⟨N, hN⟩ : ∃ N, N = V.setCell ⟨p, 1, Option.none⟩ (.int .i64 ((i : Int) + 1)) := ⟨_, rfl⟩
      have HRN : Hid (RRd N p s (i + 1) false (m : Nat)) := Lib.hid (by rw [hN]; exact RRd.adv HRV.out)
      have HZN : Hid (BlkN N w.heap.size 26 #[.int .u8 0, .int .i64 0, .string ⟨#[]⟩, .slice Option.none 0 0, .int .i64 0]) := Lib.hid (by rw [hN]; exact BlkN.setOther HZV.out (q := ⟨p, 1, Option.none⟩) (by show w.heap.size ≠ p; omega) _)
      have HUN : Hid (Upd p w N) := Lib.hid (by rw [hN]; exact HUV.out.set 1 _)
      rw [← hN]
      clear hN c1 f1
      go_wp2_with (first | (go_at_call 68; refine (rcount_neg s (i + 1) _ _ p HRN.out (by omega) hs).mono ?_; rintro e w3 ⟨hu3, n, j, st, rfl, hnl, hij, hj, hcv, hr3⟩; have hz3 := BlkN.upd hu3 HZN.out (by omega); have hV3 := hz3.lt; clear d0 d1 d2 d3 d4 x0 x1 x2 x3 x4; have d0 := hz3.cell 0 rfl; have x0 := hz3.free 0; have d1 := hz3.cell 1 rfl; have x1 := hz3.free 1; have d2 := hz3.cell 2 rfl; have x2 := hz3.free 2; have d3 := hz3.cell 3 rfl; have x3 := hz3.free 3; have d4 := hz3.cell 4 rfl; have x4 := hz3.free 4; have HR3 := Lib.hid hr3; have HZ3 := Lib.hid hz3; have HU3 := Lib.hid (HUN.out.trans hu3); have HCV := Lib.hid hcv; have HNL := Lib.hid hnl; clear hr3 hz3 hu3 hcv hnl))
      obtain ⟨V', hV', hB3, hbut3⟩ := set5_done HZ3.out (.int .u8 1) (.int .i64 (wrap64 (-(wrap64 (n : Nat))))) (.string ⟨#[]⟩) (.slice Option.none 0 0) (.int .i64 0)
      rw [hV']
      refine bodyPost_ret (results_cell1 (s := 4) (b := w.heap.size) rfl Tryd.underlying26 hi0 rfl hB3 (by rw [hz1]; rfl)) rfl ⟨hbut3.upd (Nat.le_refl _) HU3.out, ?_⟩
      rw [HRC.out, rdR_45, HCV.out]
      exact ⟨j, _, by omega, hj, rfl, rfl, leafR _ _ 1 (-(n : Int)) 0 ⟨#[]⟩ (by decide) (by decide) (by decide) _ (by rw [wrap_neg HNL.out]), HR3.out.but hbut3 (by omega), by simp only; omega⟩
    have b45 : ((c.toNat : Int) == 45) = false := u8_beq (n := 45) (by decide) h45
    by_cases hd : digB c = true
    · have h48 : 48 ≤ c.toNat ∧ c.toNat ≤ 57 := by simpa [digB] using hd
      have l1 : decide ((48 : Int) ≤ c.toNat) = true := decide_eq_true (by omega)
      have l2 : decide ((c.toNat : Int) ≤ 57) = true := decide_eq_true (by omega)
      have HZN := HZV
      have HUN := HUV
      go_wp2_with (first | (go_at_call 68; refine (rcount_pos s i _ _ p HRV.out (by omega) hs).mono ?_; rintro e w3 ⟨hu3, n, j, st, rfl, hnl, hij, hj, hcv, hr3⟩; have hz3 := BlkN.upd hu3 HZN.out (by omega); have hV3 := hz3.lt; clear d0 d1 d2 d3 d4 x0 x1 x2 x3 x4; have d0 := hz3.cell 0 rfl; have x0 := hz3.free 0; have d1 := hz3.cell 1 rfl; have x1 := hz3.free 1; have d2 := hz3.cell 2 rfl; have x2 := hz3.free 2; have d3 := hz3.cell 3 rfl; have x3 := hz3.free 3; have d4 := hz3.cell 4 rfl; have x4 := hz3.free 4; have HR3 := Lib.hid hr3; have HZ3 := Lib.hid hz3; have HU3 := Lib.hid (HUN.out.trans hu3); have HCV := Lib.hid hcv; have HNL := Lib.hid hnl; clear hr3 hz3 hu3 hcv hnl))
      obtain ⟨V', hV', hB3, hbut3⟩ := set5_done HZ3.out (.int .u8 1) (.int .i64 (wrap64 (n : Nat))) (.string ⟨#[]⟩) (.slice Option.none 0 0) (.int .i64 0)
      rw [hV']
      refine bodyPost_ret (results_cell1 (s := 4) (b := w.heap.size) rfl Tryd.underlying26 hi0 rfl hB3 (by rw [hz1]; rfl)) rfl ⟨hbut3.upd (Nat.le_refl _) HU3.out, ?_⟩
      have hcv := HCV.out
      rw [HRC.out] at hcv ⊢
      rw [rdR_dig nest c _ m h95 h35 h45 hd, hcv]
      exact ⟨j, _, by omega, hj, rfl, rfl, leafR _ _ 1 (n : Nat) 0 ⟨#[]⟩ (by decide) (by decide) (by decide) _ (by rw [wrap_pos HNL.out]), HR3.out.but hbut3 (by omega), by simp only; omega⟩
    obtain rfl : c = 34 := by
      rcases hsp with h | h | h | h | h
      · exact absurd h h95
      · exact absurd h h35
      · exact absurd h h45
      · exact absurd h hd
      · exact h
    have hrd : rdR nest (rest s i) (m + 1) = (match quo 256 (rest s i) with | .ok b r => (.mk 2 0 (txtV b) [] 0, r, false, m) | .no r => (.mk 2 0 ⟨#[]⟩ [] 0, r, true, m)) := by rw [HRC.out, rdR_34]
    have hql : ∀ b t, quo 256 (rest s i) = .ok b t → (txtV b).size ≤ 140737488351232 := fun b t h => by
      rw [HRC.out] at h
      have := qa_len 256 (rest s (i + 1)) .run [] b t (by simpa [quo] using h)
      have h2 : (rest s (i + 1)).length ≤ s.size := by simp [rest]
      simp only [txtV, ByteArray.size, List.size_toArray, List.length_nil] at this ⊢
      omega
    have CN := rquoted_lim 256 (by omega) s i _ V p HRV.out hi hs
    cases hE : quo 256 (rest s i) with
    | no t =>
      rw [hE] at CN hrd
      have HCN := Lib.hid CN
      have HRD := Lib.hid hrd
      clear CN hE hrd hql
      go_wp2_with (first | (go_at_call 45; refine HCN.out.mono ?_; rintro e w3 ⟨hu3, j, hij, hj, rfl, rfl, hr3⟩; have hz3 := BlkN.upd hu3 HZV.out (by omega); have hV3 := hz3.lt; clear d0 d1 d2 d3 d4 x0 x1 x2 x3 x4; have d0 := hz3.cell 0 rfl; have x0 := hz3.free 0; have d1 := hz3.cell 1 rfl; have x1 := hz3.free 1; have d2 := hz3.cell 2 rfl; have x2 := hz3.free 2; have d3 := hz3.cell 3 rfl; have x3 := hz3.free 3; have d4 := hz3.cell 4 rfl; have x4 := hz3.free 4; have HR3 := Lib.hid hr3; have HZ3 := Lib.hid hz3; have HU3 := Lib.hid (HUV.out.trans hu3); clear hr3 hz3 hu3))
      obtain ⟨V', hV', hB3, hbut3⟩ := set5_done HZ3.out (.int .u8 2) (.int .i64 0) (.string ⟨#[]⟩) (.slice Option.none 0 0) (.int .i64 0)
      rw [hV']
      refine bodyPost_ret (results_cell1 (s := 4) (b := w.heap.size) rfl Tryd.underlying26 hi0 rfl hB3 (by rw [hz1]; rfl)) rfl ⟨hbut3.upd (Nat.le_refl _) HU3.out, ?_⟩
      rw [HRD.out]
      exact ⟨j, _, hij, hj, rfl, rfl, leafR _ _ 2 0 0 ⟨#[]⟩ (by decide) (by decide) (by decide) _ rfl, HR3.out.but hbut3 (by omega), by simp only; omega⟩
    | ok b t =>
      have hq := hql b t hE
      rw [hE] at CN hrd
      have HCN := Lib.hid CN
      have HRD := Lib.hid hrd
      clear CN hE hrd hql
      go_wp2_with (first | (go_at_call 45; refine HCN.out.mono ?_; rintro e w3 ⟨hu3, j, hij, hj, rfl, rfl, hr3⟩; have hz3 := BlkN.upd hu3 HZV.out (by omega); have hV3 := hz3.lt; clear d0 d1 d2 d3 d4 x0 x1 x2 x3 x4; have d0 := hz3.cell 0 rfl; have x0 := hz3.free 0; have d1 := hz3.cell 1 rfl; have x1 := hz3.free 1; have d2 := hz3.cell 2 rfl; have x2 := hz3.free 2; have d3 := hz3.cell 3 rfl; have x3 := hz3.free 3; have d4 := hz3.cell 4 rfl; have x4 := hz3.free 4; have HR3 := Lib.hid hr3; have HZ3 := Lib.hid hz3; have HU3 := Lib.hid (HUV.out.trans hu3); clear hr3 hz3 hu3))
      obtain ⟨V', hV', hB3, hbut3⟩ := set5_done HZ3.out (.int .u8 2) (.int .i64 0) (.string (txtV b)) (.slice Option.none 0 0) (.int .i64 0)
      rw [hV']
      refine bodyPost_ret (results_cell1 (s := 4) (b := w.heap.size) rfl Tryd.underlying26 hi0 rfl hB3 (by rw [hz1]; rfl)) rfl ⟨hbut3.upd (Nat.le_refl _) HU3.out, ?_⟩
      rw [HRD.out]
      exact ⟨j, _, by omega, hj, rfl, rfl, leafR _ _ 2 0 0 (txtV b) (by decide) (by decide) hq _ rfl, HR3.out.but hbut3 (by omega), by simp only; omega⟩
end Go.Proofs.YtkhpfghehjcfoaaDoor
