/- Rows of bytes that a call appends to; the reader of package word: quoted. -/
import Derived.Test.YtjmelamllapmiaaGreatDoorD
import Derived.Deep.Cut
namespace Go.Proofs.YtjmelamllapmiaaGreatDoor
open Go.RowKit

theorem u8_beq {c : UInt8} {n : Nat} (hn : n < 256) (h : c ≠ UInt8.ofNat n) : ((c.toNat : Int) == (n : Int)) = false := by
  cases e : ((c.toNat : Int) == (n : Int)) with
  | false => rfl
  | true => exact absurd (u8_eq hn e) h
theorem u8_bne {c : UInt8} {n : Nat} (hn : n < 256) (h : c ≠ UInt8.ofNat n) : ((c.toNat : Int) != (n : Int)) = true := by rw [bne, u8_beq hn h]; rfl
def byt (c : UInt8) : Value := .int .u8 (c.toNat : Nat)
/-- v is a row of bytes of the call's own. -/
def BRow (w : World) (lo : Nat) (v : Value) (b : L8) : Prop := w.ownsRow lo 5 1 v b.length (b.map byt)
theorem BRow.nil (w : World) (lo : Nat) : BRow w lo (.slice Option.none 0 0) [] := World.ownsRow_nil _ _ _ _
theorem info5 : (Tryz.prog.info? 5).map (fun i => (i.zero, i.size, i.bytes)) = some (some (.int .u8 0), 1, 1) := by kernel_rfl
theorem BRow.slice {w : World} {lo : Nat} {v : Value} {b : L8} (h : BRow w lo v b) : ∃ A cap, v = .slice A b.length cap ∧ b.length ≤ cap := by
  rcases h.2 with ⟨rfl, h0⟩ | ⟨g, cap, cur, rfl, hb, hg, hc, _⟩
  · exact ⟨_, 0, by rw [h0], by omega⟩
  · exact ⟨_, cap, rfl, hc⟩
theorem brow_string {w : World} {lo : Nat} {v : Value} {b : L8} (h : BRow w lo v b) : (convert 143 9 v).run Tryz.prog w = .ok (.string (txtV b)) w := by
  rcases h.2 with ⟨rfl, h0⟩ | ⟨g, cap, cur, rfl, hb, hg, hc, _⟩
  · have : b = [] := List.eq_nil_of_length_eq_zero h0
    subst this
    rw [run_convert_bytes_string w 143 9 5 Option.none 0 0 Tryz.underlying143 Tryz.underlying5 Tryz.underlying9]
    simp [Conv.bytesToString, txtV]
    rfl
  · refine run_convert_bytes_back w 143 9 5 ⟨g, 0, Option.none⟩ cap b Tryz.underlying143 Tryz.underlying5 Tryz.underlying9 fun j hj => ?_
    exact h.cells rfl j (byt b[j]) (by simp [hj])
theorem wpList_append_byte (w : World) {ops : Array Oper} {rest : List Oper} {o : Oper} {a : Act} {Q : Exit → Act → World → Prop} (hgd : o.guard = Option.none) (s x : Operand)
    (ho : o.op = .call { callee := .builtin .append, args := #[s, x], argTypes := #[143, 143] }) (_hty : o.type = 143)
    (base : Nat) (v : Value) (b : L8) (hs : a.eval s = v) (hown : BRow w base v b) (g m c : Nat) (news : L8) (hx : a.eval x = .slice (some ⟨g, 0, Option.none⟩) m c) (hm : m = news.length)
    (hnews : ∀ j u, (news.map byt)[j]? = some u → w.cell? ((⟨g, 0, Option.none⟩ : Addr).add j) = some u) (hlen : b.length + news.length ≤ 140737488355328) (hbase : base ≤ w.heap.size)
    (h : ∀ v' w', BRow w' base v' (b ++ news) → w.grownBy w' v.ownBlock → (v'.ownBlock = v.ownBlock ∨ ∃ g, v'.ownBlock = some g ∧ w.heap.size ≤ g) → wpList Tryz.prog ops Q rest (a.put o.dst v') w') : wpList Tryz.prog ops Q (o :: rest) a w := by
  obtain ⟨i0, hi, hz0, hz1, hz2⟩ := info_parts info5
  subst hm
  refine wpList_append_row w hgd s x 143 ho base 5 i0 (.int .u8 0) 1 1 Tryz.underlying143 hi hz0 hz1 hz2 rfl (by decide) v b.length (b.map byt) hs hown ⟨g, 0, Option.none⟩ news.length c (news.map byt) hx (by simp) hnews (fun u hu => ?_) (by unfold maxLen; omega) (by omega) hbase ?_
  · obtain ⟨c, _, rfl⟩ := List.mem_map.1 hu
    rfl
  · intro v' w' h1 h2 h3
    refine h v' w' ?_ h2 h3
    unfold BRow
    rw [List.length_append, List.map_append]
    exact h1
theorem Rdr.grown {w w' : World} {p : Nat} {s : ByteArray} {i k : Nat} {row : Option Nat} (h : Rdr w p s i k) (hg : w.grownBy w' row) (hne : ∀ g, row = some g → p < g) : Rdr w' p s i k :=
  (hg.block p h.lt (fun e => by have := hne p e.symm; omega)).trans h
def posOf (w : World) (p : Nat) : Nat := match w.cell? ⟨p, 1, Option.none⟩ with | some (.int _ n) => n.toNat | _ => 0
theorem Rdr.pos {w : World} {p : Nat} {s : ByteArray} {i k : Nat} (h : Rdr w p s i k) : posOf w p = i := by
  have := h.cell 1 (v := .int .i64 i) rfl
  simp [posOf, this]
/-- A quoted form, whole. -/
def quo (most : Nat) : L8 → Rs L8
  | [] => .no []
  | c :: t => if c = 34 then qa most .run t [] else .no (c :: t)
theorem next_at {s : ByteArray} {i k : Nat} {w : World} {p : Nat} (h : Rdr w p s i k) (hh : i < s.size) {c : UInt8} (hc : c = s[i]) :
    Calls Tryz.prog 161 #[.pointer (some ⟨p, 0, Option.none⟩)] w fun e w' => e = .returned (.int .u8 (c.toNat : Nat)) ∧ Below w.heap.size w w' := (next_any s i k w p h (by omega)).mono fun e w' h => by
  obtain ⟨h1, ⟨h2, _⟩ | ⟨_, rfl⟩⟩ := h
  · omega
  · exact ⟨by rw [hc], h1⟩
theorem next_end {s : ByteArray} {i k : Nat} {w : World} {p : Nat} (h : Rdr w p s i k) (hi : i ≤ s.size) (hh : s.size ≤ i) :
    Calls Tryz.prog 161 #[.pointer (some ⟨p, 0, Option.none⟩)] w fun e w' => e = stuckE s.size ∧ Below w.heap.size w w' := (next_any s i k w p h hi).mono fun e w' h => by
  obtain ⟨h1, ⟨_, rfl⟩ | ⟨h2, _⟩⟩ := h
  · exact ⟨rfl, h1⟩
  · omega
set_option maxRecDepth 100000 in
set_option maxHeartbeats 4000000 in
theorem quoted_any (most : Nat) (s : ByteArray) (i k : Nat) (w : World) (p : Nat) (h : Rdr w p s i k) (hi : i ≤ s.size) (hs : s.size ≤ 140737488351232) :
    Calls Tryz.prog 107 #[.pointer (some ⟨p, 0, Option.none⟩), .int .i64 (most : Nat)] w fun e w' => Upd p w w' ∧ RsP (quo most (rest s i)) s i e (fun b j => e = .returned (.string (txtV b)) ∧ Rdr w' p s j k) := by
  by_cases hh : i < s.size
  rotate_left
  · have C := Lib.hid (next_end h hi (by omega))
    clear h
    go_enter Tryz.func107, Tryz.ntmps107
    go_wp2_with (first | (go_at_call 161; refine C.out.mono ?_; rintro e w1 ⟨rfl, hb1⟩))
    refine ⟨rfl, Upd.ofBelow hb1 p, ?_⟩
    rw [rest_end (by omega)]
    exact ⟨s.size, Nat.le_refl _, (rest_end (Nat.le_refl _)).symm, rfl⟩
  obtain ⟨c, hc⟩ : ∃ c, c = s[i] := ⟨_, rfl⟩
  have hrc : rest s i = c :: rest s (i + 1) := by rw [rest_cons hh, hc]
  have C := Lib.hid (next_at h hh hc)
  have HR := Lib.hid h
  have HRC := Lib.hid hrc
  clear hc h hrc
  have hp0 := HR.out.lt
  have hc0 : c.toNat < 256 := c.toNat_lt
  by_cases hq : c = 34
  rotate_left
  · have hne : ((c.toNat : Int) != 34) = true := u8_bne (n := 34) (by decide) hq
    go_enter Tryz.func107, Tryz.ntmps107
    go_wp2_with (first | (go_at_call 161; refine C.out.mono ?_; rintro e w1 ⟨rfl, hb1⟩) | (go_at_call 81; refine (wrong_any s i k _ p (HR.out.below hb1)).mono ?_; rintro e w2 ⟨hb2, rfl⟩))
    refine ⟨rfl, Upd.ofBelow (bnext hb1 hb2) p, ?_⟩
    rw [HRC.out]
    simp only [quo, if_neg hq]
    exact ⟨i, hi, HRC.out.symm, rfl⟩
  subst hq
  obtain ⟨R, hR⟩ : ∃ R, R = qa most .run (rest s (i + 1)) [] := ⟨_, rfl⟩
  have HQ : Hid (quo most (rest s i) = R) := Lib.hid (by rw [HRC.out, hR]; simp [quo])
  have hR' := Lib.hid hR
  clear hR
  go_enter Tryz.func107, Tryz.ntmps107
  go_wp2_with (first | (go_at_call 161; refine C.out.mono ?_; rintro e w1 ⟨rfl, hb1⟩; have hr1 := HR.out.below hb1; have hp := hr1.lt; have c1 := hr1.cell 1 rfl; have f1 := hr1.free 1; have HR1 := Lib.hid hr1; have HB1 := Lib.hid hb1; clear hb1 hr1))
  clear c1 f1 C
  go_loopw [5, 6] (fun v c wr => ∃ (j : Nat) (b : L8), i < j ∧ j ≤ s.size ∧ Rdr wr p s j k ∧ BRow wr w.heap.size v b ∧ b.length ≤ j ∧ Upd p w wr ∧ qa most .run (rest s j) b = R) (fun _ _ wr => s.size - posOf wr p)
  case atStart => exact ⟨i + 1, [], by omega, by omega, Rdr.adv HR1.out, BRow.nil _ _, by simp, (Upd.ofBelow HB1.out p).set 1 _, hR'.out.symm⟩
  case round =>
    obtain ⟨j, b, hij, hj, hr, hv, hbl, hu, hq⟩ := hrel
    have HRJ := Lib.hid hr
    have HVJ := Lib.hid hv
    have HUJ := Lib.hid hu
    have HQJ := Lib.hid hq
    clear hr hu hq
    obtain ⟨A, cap, rfl, hcap⟩ := hv.slice
    clear hv
    have hpr := HRJ.out.lt
    by_cases hjl : j < s.size
    rotate_left
    · have CE := Lib.hid (next_end HRJ.out hj (by omega))
      go_wp2_with (first | (go_at_call 161; refine CE.out.mono ?_; rintro e w2 ⟨rfl, hb2⟩))
      refine ⟨rfl, HUJ.out.below hb2, ?_⟩
      rw [HQ.out, ← HQJ.out, rest_end (by omega)]
      exact ⟨s.size, Nat.le_refl _, (rest_end (Nat.le_refl _)).symm, rfl⟩
    obtain ⟨d, hd⟩ : ∃ d, d = s[j] := ⟨_, rfl⟩
    have hrd : rest s j = d :: rest s (j + 1) := by rw [rest_cons hjl, hd]
    have CD := Lib.hid (next_at HRJ.out hjl hd)
    have HRD := Lib.hid hrd
    clear hd hrd
    have hd0 : d.toNat < 256 := d.toNat_lt
    by_cases hq : d = 34
    · subst hq
      go_upto_region 10 with (first | (go_at_call 161; refine CD.out.mono ?_; rintro e w2 ⟨rfl, hb2⟩; have hr2 := HRJ.out.below hb2; have hp2 := hr2.lt; have c1 := hr2.cell 1 rfl; have f1 := hr2.free 1; have HR2 := Lib.hid hr2; have HB2 := Lib.hid hb2; clear hb2 hr2))
      obtain ⟨W, hW⟩ : ∃ W, W = w2.setCell ⟨p, 1, Option.none⟩ (.int .i64 ((j : Int) + 1)) := ⟨_, rfl⟩
      have HR3 : Hid (Rdr W p s (j + 1) k) := Lib.hid (by rw [hW]; exact Rdr.adv HR2.out)
      have hu2 := HUJ.out.below HB2.out
      have HU3 : Hid (Upd p w W) := Lib.hid (by rw [hW]; exact hu2.set 1 _)
      have hconv : (convert 143 9 (.slice A b.length cap)).run Tryz.prog W = .ok (.string (txtV b)) W := by
        refine brow_string (lo := w.heap.size) ?_
        rw [hW]
        exact own_upd (own_below HVJ.out HB2.out) ((Upd.refl p w2).set 1 _) hp0
      rw [← hW]
      clear hW hu2
      go_wp2_with fail
      go_ret
      refine ⟨HU3.out, ?_⟩
      rw [HQ.out, ← HQJ.out, HRD.out]
      exact ⟨j + 1, by omega, by omega, rfl, rfl, HR3.out⟩
    have hne : ((d.toNat : Int) == 34) = false := u8_beq (n := 34) (by decide) hq
    by_cases hbad : most ≤ b.length ∨ d.toNat < 32 ∨ 126 < d.toNat
    · have HBAD := Lib.hid hbad
      go_wp2_with (first | (go_at_call 161; refine CD.out.mono ?_; rintro e w2 ⟨rfl, hb2⟩; have HR2 := Lib.hid (HRJ.out.below hb2); have HB2 := Lib.hid hb2; clear hb2) | (go_at_call 81; refine (wrong_any s j k _ p HR2.out).mono ?_; rintro e w3 ⟨hb3, rfl⟩))
      all_goals first
        | (refine ⟨rfl, HUJ.out.below (bnext HB2.out hb3), ?_⟩
           rw [HQ.out, ← HQJ.out, HRD.out]
           simp only [qa, if_neg hq, if_pos HBAD.out]
           exact ⟨j, hj, HRD.out.symm, rfl⟩)
        | (exfalso; have := HBAD.out; omega)
    have hb1 : ¬ most ≤ b.length := by omega
    have hb2 : ¬ d.toNat < 32 := by omega
    have hb3 : ¬ 126 < d.toNat := by omega
    have HBAD := Lib.hid hbad
    clear hbad
    by_cases h92 : d = 92
    rotate_left
    · have hne2 : ((d.toNat : Int) != 92) = true := u8_bne (n := 92) (by decide) h92
      have hlt : b.length < most := by omega
      go_upto_region 14 with (first | (go_at_call 161; refine CD.out.mono ?_; rintro e w2 ⟨rfl, hb2⟩; have HR2 := Lib.hid (HRJ.out.below hb2); have HB2 := Lib.hid hb2; clear hb2))
      have hne3 : ∀ g, (Value.slice A b.length cap).ownBlock = some g → p < g := fun g hx => by have := HVJ.out.lt g hx; omega
      go_wp2_with (first
        | (refine wpList_append_byte _ rfl (.tmp 63) (.tmp 65) rfl rfl w.heap.size (.slice A b.length cap) b rfl (own_below (own_below HVJ.out HB2.out) ((Below.refl _ w2).alloc (Nat.le_refl _) (.cells #[byt d] 5))) w2.heap.size 1 1 [d] rfl rfl (row_new w2 [byt d] 5) (by simp; omega) (by have := HUJ.out.size; have := HB2.out.size; simp; omega) ?_
           intro v' w3 hv3 hg3 ho3
           have hr3 := Rdr.grown (BlkN.alloc HR2.out (.cells #[byt d] 5)) hg3 hne3
           have hp3 := hr3.lt
           have c1 := hr3.cell 1 rfl
           have f1 := hr3.free 1
           have HR3 := Lib.hid hr3
           have HV3 := Lib.hid hv3
           have HU3 := Lib.hid (Upd.grown ((HUJ.out.below HB2.out).alloc (.cells #[byt d] 5)) hg3 (fun g hx => by have := HVJ.out.lt g hx; omega))
           clear hr3 hv3 hg3 ho3))
      go_roundw
      case rel => exact ⟨j + 1, b ++ [d], by omega, by omega, Rdr.adv HR3.out, own_upd HV3.out ((Upd.refl p w3).set 1 _) hp0, by simp; omega, HU3.out.set 1 _, by rw [← HQJ.out, HRD.out]; simp only [qa, if_neg hq, if_neg HBAD.out, if_neg h92]⟩
      case measure => rw [(Rdr.adv HR3.out).pos, HRJ.out.pos]; omega
    · subst h92
      have CX := Lib.hid (fun w' (hr : Rdr w' p s (j + 1) k) => escape_any s (j + 1) k w' p hr (by omega) hs)
      go_upto_region 7 with (first | (go_at_call 161; refine CD.out.mono ?_; rintro e w2 ⟨rfl, hb2⟩; have hr2 := HRJ.out.below hb2; have hp2 := hr2.lt; have c1 := hr2.cell 1 rfl; have f1 := hr2.free 1; have HR2 := Lib.hid hr2; have HB2 := Lib.hid hb2; clear hb2 hr2))
      obtain ⟨W, hW⟩ : ∃ W, W = w2.setCell ⟨p, 1, Option.none⟩ (.int .i64 ((j : Int) + 1)) := ⟨_, rfl⟩
      have HR3 : Hid (Rdr W p s (j + 1) k) := Lib.hid (by rw [hW]; exact Rdr.adv HR2.out)
      have hu2 := HUJ.out.below HB2.out
      have HU3 : Hid (Upd p w W) := Lib.hid (by rw [hW]; exact hu2.set 1 _)
      have HV3 : Hid (BRow W w.heap.size (.slice A b.length cap) b) := Lib.hid (by rw [hW]; exact own_upd (own_below HVJ.out HB2.out) ((Upd.refl p w2).set 1 _) hp0)
      have HQS : Hid (R = match esc (rest s (j + 1)) with | .ok x r => qa most .run r (b ++ [x]) | .no r => .no r) := Lib.hid (by
        have e : qa most .run (92 :: rest s (j + 1)) b = qa most .bs (rest s (j + 1)) b := by simp only [qa, if_neg hq, if_neg HBAD.out, if_true]
        rw [← HQJ.out, HRD.out, e]; exact qa_bs _ _ _)
      rw [← hW]
      clear hW hu2 c1 f1 hp2 HR2 HB2
      have CE := CX.out W HR3.out
      cases hE : esc (rest s (j + 1)) with
      | no t =>
        rw [hE] at CE HQS
        have HCE := Lib.hid CE
        clear CE CX hE
        go_wp2_with (first | (go_at_call 164; refine HCE.out.mono ?_; rintro e w3 ⟨hu3, j2, hj2, rfl, rfl⟩))
        refine ⟨rfl, HU3.out.trans hu3, ?_⟩
        rw [HQ.out, HQS.out]
        exact ⟨j2, hj2, rfl, rfl⟩
      | ok x t =>
        rw [hE] at CE HQS
        have HCE := Lib.hid CE
        clear CE CX hE
        have hne3 : ∀ g, (Value.slice A b.length cap).ownBlock = some g → p < g := fun g hx => by have := HVJ.out.lt g hx; omega
        go_wp2_with (first
          | (go_at_call 164; refine HCE.out.mono ?_; rintro e w3 ⟨hu3, j2, hjj, hj2, rfl, rfl, hr3⟩; have HR4 := Lib.hid hr3; have HU4 := Lib.hid (HU3.out.trans hu3); have HV4 : Hid (BRow w3 w.heap.size (.slice A b.length cap) b) := Lib.hid (own_upd HV3.out hu3 hp0); have hs4 := HU4.out.size; clear hr3 hu3)
          | (refine wpList_append_byte _ rfl (.tmp 28) (.tmp 31) rfl rfl w.heap.size (.slice A b.length cap) b rfl (own_below HV4.out ((Below.refl _ w3).alloc (Nat.le_refl _) (.cells #[byt x] 5))) w3.heap.size 1 1 [x] rfl rfl (row_new w3 [byt x] 5) (by simp; omega) (by simp; omega) ?_
             intro v' w4 hv5 hg5 ho5
             have HR5 := Lib.hid (Rdr.grown (BlkN.alloc HR4.out (.cells #[byt x] 5)) hg5 hne3)
             have HV5 := Lib.hid hv5
             have HU5 := Lib.hid (Upd.grown (HU4.out.alloc (.cells #[byt x] 5)) hg5 (fun g hx => by have := HVJ.out.lt g hx; omega))
             clear hv5 hg5 ho5))
        go_roundw
        case rel => exact ⟨j2, b ++ [x], by omega, hj2, HR5.out, HV5.out, by simp; omega, HU5.out, HQS.out.symm⟩
        case measure => rw [HR5.out.pos, HRJ.out.pos]; omega
end Go.Proofs.YtjmelamllapmiaaGreatDoor
