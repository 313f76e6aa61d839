/- The document's reader: quoted. -/
import Derived.Test.YtjmelamllapmiaaGreatDoorU
namespace Go.Proofs.YtjmelamllapmiaaGreatDoor
open Go.RowKit

theorem rnext_at {s : ByteArray} {i : Nat} {room : Int} {w : World} {p : Nat} (h : RRd w p s i false room) (hh : i < s.size) {c : UInt8} (hc : c = s[i]) :
    Calls Tryz.prog 219 #[.pointer (some ⟨p, 0, Option.none⟩)] w fun e w' => e = .returned (.int .u8 (c.toNat : Nat)) ∧ Below w.heap.size w w' := (rnext_any s i false room w p h).mono fun e w' h => by
  obtain ⟨rfl, h2⟩ := h
  exact ⟨by rw [rest_cons hh, hc]; rfl, h2⟩
theorem rnext_end {s : ByteArray} {i : Nat} {room : Int} {w : World} {p : Nat} (h : RRd w p s i false room) (hh : s.size ≤ i) :
    Calls Tryz.prog 219 #[.pointer (some ⟨p, 0, Option.none⟩)] w fun e w' => e = .returned (.int .u8 0) ∧ Below w.heap.size w w' := (rnext_any s i false room w p h).mono fun e w' h => by
  obtain ⟨rfl, h2⟩ := h
  exact ⟨by rw [rest_end hh]; rfl, h2⟩
theorem ron_yes {s : ByteArray} {i : Nat} {room : Int} {w : World} {p : Nat} (h : RRd w p s i false room) (hh : i < s.size) (hs : s.size ≤ 140737488351232) :
    Calls Tryz.prog 221 #[.pointer (some ⟨p, 0, Option.none⟩), .bool true] w fun e w' => e = .returned (.bool true) ∧ RRd w' p s (i + 1) false room ∧ Upd p w w' := (ron_any s i false true room w p h (by omega) hs).mono fun e w' h => by
  obtain ⟨h1, ⟨_, _, _, h2, h3⟩ | ⟨h2, _⟩⟩ := h
  · exact ⟨h2, h3, h1⟩
  · exact absurd ⟨rfl, hh, rfl⟩ h2
theorem ron_not {s : ByteArray} {i : Nat} {room : Int} {w : World} {p : Nat} (h : RRd w p s i false room) (ok : Bool) (hi : i ≤ s.size) (hn : i < s.size → ok = false) (hs : s.size ≤ 140737488351232) :
    Calls Tryz.prog 221 #[.pointer (some ⟨p, 0, Option.none⟩), .bool ok] w fun e w' => e = .returned (.bool false) ∧ RRd w' p s i true room ∧ Upd p w w' := (ron_any s i false ok room w p h hi hs).mono fun e w' h => by
  obtain ⟨h1, ⟨_, hh, h0, h2, h3⟩ | ⟨_, h2, h3⟩⟩ := h
  · exact absurd h0 (by rw [hn hh]; decide)
  · exact ⟨h2, h3, h1⟩
def offOf (w : World) (p : Nat) (n : Nat) : Nat := match w.cell? ⟨p, 2, Option.none⟩ with | some (.bool true) => 0 | _ => n - posOf w p + 1
theorem RRd.pos {w : World} {p : Nat} {s : ByteArray} {i : Nat} {st : Bool} {room : Int} (h : RRd w p s i st room) (n : Nat) : offOf w p n = if st then 0 else n - i + 1 := by
  have h1 := h.cell 1 (v := .int .i64 i) rfl
  have h2 := h.cell 2 (v := .bool st) rfl
  cases st <;> simp [offOf, posOf, h1, h2]
/-- What quoted answers. -/
def RqP (r : Rs L8) (s : ByteArray) (i : Nat) (room : Int) (p : Nat) (e : Ending) (w' : World) : Prop :=
  match r with
  | .ok b t => ∃ j, i < j ∧ j ≤ s.size ∧ t = rest s j ∧ e = .returned (.string (txtV b)) ∧ RRd w' p s j false room
  | .no t => ∃ j, i ≤ j ∧ j ≤ s.size ∧ t = rest s j ∧ e = .returned (.string ⟨#[]⟩) ∧ RRd w' p s j true room
theorem RRd.grown {w w' : World} {p : Nat} {s : ByteArray} {i : Nat} {st : Bool} {room : Int} {row : Option Nat} (h : RRd w p s i st room) (hg : w.grownBy w' row) (hne : ∀ g, row = some g → p < g) : RRd w' p s i st room :=
  (hg.block p h.lt (fun e => by have := hne p e.symm; omega)).trans h
theorem lowN_lt {c : UInt8} {a : Nat} (h : hexD c = some a) : lowN c = a ∧ a < 16 := by
  refine ⟨by simp [lowN, h], ?_⟩
  unfold hexD at h
  split at h
  · injection h; omega
  · split at h
    · injection h; omega
    · cases h
theorem lowN_none {c : UInt8} (h : hexD c = Option.none) : lowN c = 16 := by simp [lowN, h]
theorem low_none16 {c : UInt8} (h : hexD c = Option.none) (w : World) : Calls Tryz.prog 222 #[.int .u8 (c.toNat : Nat)] w fun e w' => e = .returned (.int .i64 16) ∧ w' = w := (low_any c w).mono fun e w' h' => ⟨by rw [h'.1, lowN_none h]; rfl, h'.2⟩
theorem low_zero16 (w : World) : Calls Tryz.prog 222 #[.int .u8 0] w fun e w' => e = .returned (.int .i64 16) ∧ w' = w := low_none16 (c := 0) rfl w
theorem low_some {c : UInt8} {a : Nat} (h : hexD c = some a) (w : World) : Calls Tryz.prog 222 #[.int .u8 (c.toNat : Nat)] w fun e w' => e = .returned (.int .i64 (a : Nat)) ∧ w' = w := (low_any c w).mono fun e w' h' => ⟨by rw [h'.1, (lowN_lt h).1], h'.2⟩
theorem u8_beqt {c : UInt8} {n : Nat} (hn : n < 256) (h : c = UInt8.ofNat n) : ((c.toNat : Int) == (n : Int)) = true := by
  subst h
  rw [UInt8.toNat_ofNat', Nat.mod_eq_of_lt hn]
  simp
set_option maxRecDepth 100000 in
set_option maxHeartbeats 4000000 in
/-- A quoted form of at most so many bytes. -/
theorem rquoted_lim (most : Nat) (hmost : most ≤ 4096) (s : ByteArray) (i : Nat) (room : Int) (w : World) (p : Nat) (h : RRd w p s i false room) (hi : i ≤ s.size) (hs : s.size ≤ 140737488351232) :
    Calls Tryz.prog 173 #[.pointer (some ⟨p, 0, Option.none⟩), .int .i64 (most : Nat)] w fun e w' => Upd p w w' ∧ RqP (quo most (rest s i)) s i room p e w' := by
  have HR := Lib.hid h
  have hp0 := h.lt
  clear h
  by_cases hq0 : ∃ hh : i < s.size, s[i] = 34
  rotate_left
  · have HNO : Hid (quo most (rest s i) = .no (rest s i)) := Lib.hid (by
      by_cases hh : i < s.size
      · rw [rest_cons hh]
        simp only [quo]
        rw [if_neg (fun e => hq0 ⟨hh, e⟩)]
      · rw [rest_end (by omega)]; rfl)
    obtain ⟨c, hc⟩ : ∃ c : UInt8, c = nxS false (rest s i) := ⟨_, rfl⟩
    have hc34 : c ≠ 34 := by
      by_cases hh : i < s.size
      · rw [rest_cons hh] at hc
        exact fun e => hq0 ⟨hh, by rw [← e, hc]; rfl⟩
      · rw [rest_end (by omega)] at hc
        rw [hc]; decide
    have hne : ((c.toNat : Int) == 34) = false := u8_beq (n := 34) (by decide) hc34
    have C : Hid (Calls Tryz.prog 219 #[.pointer (some ⟨p, 0, Option.none⟩)] w fun e w' => e = .returned (.int .u8 (c.toNat : Nat)) ∧ Below w.heap.size w w') := Lib.hid (by rw [hc]; exact rnext_any s i false room w p HR.out)
    clear hc hc34 hq0
    go_enter Tryz.func173, Tryz.ntmps173
    go_wp2_with (first
      | (go_at_call 219; refine C.out.mono ?_; rintro e w1 ⟨rfl, hb1⟩; have HB1 := Lib.hid hb1; clear hb1)
      | (go_at_call 221; refine (ron_not (HR.out.below HB1.out) _ hi (fun _ => rfl) hs).mono ?_; rintro e w2 ⟨rfl, hr2, hu2⟩; have HR2 := Lib.hid hr2; have HU2 := Lib.hid ((Upd.ofBelow HB1.out p).trans hu2); clear hr2 hu2))
    clear C
    have hp2 := HR2.out.lt
    have c2 := HR2.out.cell 2 rfl
    go_loopw [5, 6, 7, 8, 9] (fun _ _ _ _ _ wr => wr = w2) (fun _ _ _ _ _ _ => 0)
    case atStart => rfl
    case round =>
      obtain rfl := hrel
      go_wp2_with fail
      go_ret
      refine ⟨HU2.out, ?_⟩
      rw [HNO.out]
      exact ⟨i, Nat.le_refl _, hi, rfl, rfl, HR2.out⟩
  obtain ⟨hh, hq⟩ := hq0
  obtain ⟨R, hR⟩ : ∃ R, R = qa most .run (rest s (i + 1)) [] := ⟨_, rfl⟩
  have HQ : Hid (quo most (rest s i) = R) := Lib.hid (by rw [rest_cons hh, hR, hq]; simp [quo])
  have hR' := Lib.hid hR
  clear hR
  have C := Lib.hid (rnext_at HR.out hh hq.symm)
  clear hq
  go_enter Tryz.func173, Tryz.ntmps173
  go_wp2_with (first
    | (go_at_call 219; refine C.out.mono ?_; rintro e w1 ⟨rfl, hb1⟩; have HB1 := Lib.hid hb1; clear hb1)
    | (go_at_call 221; refine (ron_yes (HR.out.below HB1.out) hh hs).mono ?_; rintro e w2 ⟨rfl, hr2, hu2⟩; have HR2 := Lib.hid hr2; have HU2 := Lib.hid ((Upd.ofBelow HB1.out p).trans hu2); clear hr2 hu2))
  clear C
  go_loopw [5, 6, 7, 8, 9] (fun v _ _ _ _ wr => ∃ (j : Nat) (b : L8), i < j ∧ j ≤ s.size ∧ RRd wr p s j false room ∧ BRow wr w.heap.size v b ∧ b.length < j ∧ Upd p w wr ∧ qa most .run (rest s j) b = R) (fun _ _ _ _ _ wr => offOf wr p s.size)
  case atStart => exact ⟨i + 1, [], by omega, by omega, HR2.out, BRow.nil _ _, by simp, HU2.out, hR'.out.symm⟩
  case round =>
    obtain ⟨j, b, hij, hj, hr, hv, hbl, hu, hq⟩ := hrel
    have HRJ := Lib.hid hr
    have HVJ := Lib.hid hv
    have HUJ := Lib.hid hu
    have HQJ := Lib.hid hq
    clear hu hq
    obtain ⟨A, cap, rfl, hcap⟩ := hv.slice
    clear hv
    have hpr := hr.lt
    have c2 := hr.cell 2 rfl
    have f2 := hr.free 2
    clear hr
    have hne3 : ∀ g, (Value.slice A b.length cap).ownBlock = some g → p < g := fun g hx => by have := HVJ.out.lt g hx; omega
    by_cases hjl : j < s.size
    rotate_left
    · have CD := Lib.hid (rnext_end HRJ.out (by omega))
      have hpz : plainB 0 = false := by decide
      have CP : Hid (∀ w', Calls Tryz.prog 217 #[.int .u8 0] w' fun e w'' => e = .returned (.bool false) ∧ w'' = w') := Lib.hid (fun w' => plain_any 0 w')
      by_cases hmb : most ≤ b.length
      · have hmb' : decide ((most : Int) ≤ (b.length : Nat)) = true := decide_eq_true (by omega)
        go_wp2_with (first | (go_at_call 219; refine CD.out.mono ?_; rintro e w2 ⟨rfl, hb2⟩; have hr2 := HRJ.out.below hb2; have hp2 := hr2.lt; have c1 := hr2.cell 1 rfl; have f1 := hr2.free 1; have d2 := hr2.cell 2 rfl; have g2 := hr2.free 2; have HR2' := Lib.hid hr2; have HB2 := Lib.hid hb2; have HU2' := Lib.hid (HUJ.out.below hb2); have HV2 : Hid (BRow w2 w.heap.size (.slice A b.length cap) b) := Lib.hid (own_below HVJ.out hb2); clear hb2 hr2) | fail)
        go_ret
        refine ⟨HU2'.out.set 2 _, ?_⟩
        rw [HQ.out, ← HQJ.out, rest_end (by omega)]
        exact ⟨j, by omega, hj, (rest_end (by omega)).symm, rfl, RRd.stop HR2'.out⟩
      have hmb' : decide ((most : Int) ≤ (b.length : Nat)) = false := decide_eq_false (by omega)
      go_wp2_with (first | (go_at_call 219; refine CD.out.mono ?_; rintro e w2 ⟨rfl, hb2⟩; have hr2 := HRJ.out.below hb2; have hp2 := hr2.lt; have c1 := hr2.cell 1 rfl; have f1 := hr2.free 1; have d2 := hr2.cell 2 rfl; have g2 := hr2.free 2; have HR2' := Lib.hid hr2; have HB2 := Lib.hid hb2; have HU2' := Lib.hid (HUJ.out.below hb2); have HV2 : Hid (BRow w2 w.heap.size (.slice A b.length cap) b) := Lib.hid (own_below HVJ.out hb2); clear hb2 hr2) | (go_at_call 217; refine (CP.out _).mono ?_; rintro e w0 ⟨rfl, hw0⟩; rw [hw0]; clear hw0) | (go_at_call 221; refine (ron_not HR2'.out _ hj (fun h => absurd h hjl) hs).mono ?_; rintro e w3 ⟨rfl, hr3, hu3⟩))
      go_ret
      refine ⟨HU2'.out.trans hu3, ?_⟩
      rw [HQ.out, ← HQJ.out, rest_end (by omega)]
      exact ⟨j, by omega, hj, (rest_end (by omega)).symm, rfl, hr3⟩
    obtain ⟨d, hd⟩ : ∃ d, d = s[j] := ⟨_, rfl⟩
    have hrd : rest s j = d :: rest s (j + 1) := by rw [rest_cons hjl, hd]
    have CD := Lib.hid (rnext_at HRJ.out hjl hd)
    have HRD := Lib.hid hrd
    clear hd hrd
    have hd0 : d.toNat < 256 := d.toNat_lt
    by_cases hq : d = 34
    · subst hq
      go_upto_region 7 with (first | (go_at_call 219; refine CD.out.mono ?_; rintro e w2 ⟨rfl, hb2⟩; have hr2 := HRJ.out.below hb2; have hp2 := hr2.lt; have c1 := hr2.cell 1 rfl; have f1 := hr2.free 1; have d2 := hr2.cell 2 rfl; have g2 := hr2.free 2; have HR2' := Lib.hid hr2; have HB2 := Lib.hid hb2; have HU2' := Lib.hid (HUJ.out.below hb2); have HV2 : Hid (BRow w2 w.heap.size (.slice A b.length cap) b) := Lib.hid (own_below HVJ.out hb2); clear hb2 hr2))
      obtain ⟨W, hW⟩ : ∃ W, W = w2.setCell ⟨p, 1, Option.none⟩ (.int .i64 ((j : Int) + 1)) := ⟨_, rfl⟩
      have HR3 : Hid (RRd W p s (j + 1) false room) := Lib.hid (by rw [hW]; exact RRd.adv HR2'.out)
      have HU3 : Hid (Upd p w W) := Lib.hid (by rw [hW]; exact HU2'.out.set 1 _)
      have hconv : (convert 143 9 (.slice A b.length cap)).run Tryz.prog W = .ok (.string (txtV b)) W := by
        refine brow_string (lo := w.heap.size) ?_
        rw [hW]
        exact own_upd HV2.out ((Upd.refl p w2).set 1 _) hp0
      rw [← hW]
      clear hW
      go_wp2_with fail
      go_ret
      refine ⟨HU3.out, ?_⟩
      rw [HQ.out, ← HQJ.out, HRD.out]
      exact ⟨j + 1, by omega, by omega, rfl, rfl, HR3.out⟩
    have hne : ((d.toNat : Int) == 34) = false := u8_beq (n := 34) (by decide) hq
    by_cases hmb : most ≤ b.length
    · have hmb' : decide ((most : Int) ≤ (b.length : Nat)) = true := decide_eq_true (by omega)
      go_wp2_with (first | (go_at_call 219; refine CD.out.mono ?_; rintro e w2 ⟨rfl, hb2⟩; have hr2 := HRJ.out.below hb2; have hp2 := hr2.lt; have c1 := hr2.cell 1 rfl; have f1 := hr2.free 1; have d2 := hr2.cell 2 rfl; have g2 := hr2.free 2; have HR2' := Lib.hid hr2; have HB2 := Lib.hid hb2; have HU2' := Lib.hid (HUJ.out.below hb2); have HV2 : Hid (BRow w2 w.heap.size (.slice A b.length cap) b) := Lib.hid (own_below HVJ.out hb2); clear hb2 hr2) | fail)
      go_ret
      refine ⟨HU2'.out.set 2 _, ?_⟩
      rw [HQ.out, ← HQJ.out, HRD.out]
      simp only [qa, if_neg hq, if_pos (Or.inl (b := d.toNat < 32 ∨ 126 < d.toNat) hmb)]
      exact ⟨j, by omega, hj, HRD.out.symm, rfl, RRd.stop HR2'.out⟩
    have hmb' : decide ((most : Int) ≤ (b.length : Nat)) = false := decide_eq_false (by omega)
    by_cases h92 : d = 92
    rotate_left
    · by_cases hpl : plainB d = true
      · have hok : ¬ (most ≤ b.length ∨ d.toNat < 32 ∨ 126 < d.toNat) := by
          simp only [plainB, Bool.and_eq_true, decide_eq_true_eq] at hpl
          omega
        have HOK := Lib.hid hok
        clear hok
        have CP : Hid (∀ w', Calls Tryz.prog 217 #[.int .u8 (d.toNat : Nat)] w' fun e w'' => e = .returned (.bool true) ∧ w'' = w') := Lib.hid (fun w' => by have := plain_any d w'; rw [hpl] at this; exact this)
        clear hpl
        go_upto_region 12 with (first | (go_at_call 219; refine CD.out.mono ?_; rintro e w2 ⟨rfl, hb2⟩; have hr2 := HRJ.out.below hb2; have hp2 := hr2.lt; have c1 := hr2.cell 1 rfl; have f1 := hr2.free 1; have d2 := hr2.cell 2 rfl; have g2 := hr2.free 2; have HR2' := Lib.hid hr2; have HB2 := Lib.hid hb2; have HU2' := Lib.hid (HUJ.out.below hb2); have HV2 : Hid (BRow w2 w.heap.size (.slice A b.length cap) b) := Lib.hid (own_below HVJ.out hb2); clear hb2 hr2) | (go_at_call 217; refine (CP.out _).mono ?_; rintro e w0 ⟨rfl, hw0⟩; rw [hw0]; clear hw0))
        clear c1 f1
        go_wp2_with (first
        | (refine wpList_append_byte _ rfl (.tmp 46) (.tmp 48) rfl rfl w.heap.size (.slice A b.length cap) b rfl (own_below HV2.out ((Below.refl _ w2).alloc (Nat.le_refl _) (.cells #[byt d] 5))) w2.heap.size 1 1 [d] rfl rfl (row_new w2 [byt d] 5) (by simp; omega) (by have := HU2'.out.size; simp; omega) ?_
           intro v' w4 hv4 hg4 ho4
           have hr4 := RRd.grown (BlkN.alloc HR2'.out (.cells #[byt d] 5)) hg4 hne3
           have hp4 := hr4.lt
           have c1 := hr4.cell 1 rfl
           have f1 := hr4.free 1
           have HR4 := Lib.hid hr4
           have HV4 := Lib.hid hv4
           have HU4 := Lib.hid (Upd.grown (HU2'.out.alloc (.cells #[byt d] 5)) hg4 (fun g hx => by have := HVJ.out.lt g hx; omega))
           clear hr4 hv4 hg4 ho4))
        go_roundw
        case rel => exact ⟨j + 1, b ++ [d], by omega, by omega, RRd.adv HR4.out, own_upd HV4.out ((Upd.refl p w4).set 1 _) hp0, by simp; omega, HU4.out.set 1 _, by rw [← HQJ.out, HRD.out]; simp only [qa, if_neg hq, if_neg HOK.out, if_neg h92]⟩
        case measure => refine Nat.lt_of_le_of_lt (Nat.le_of_eq ((RRd.adv HR4.out).pos s.size)) ?_; rw [HRJ.out.pos]; simp only [Bool.false_eq_true, if_false]; omega
      · obtain hpl : plainB d = false := by simpa using hpl
        have hbad : most ≤ b.length ∨ d.toNat < 32 ∨ 126 < d.toNat := by
          by_cases hg : d.toNat < 32 ∨ 126 < d.toNat
          · exact .inr hg
          · exfalso
            have e1 : decide (32 ≤ d.toNat) = true := decide_eq_true (by omega)
            have e2 : decide (d.toNat ≤ 126) = true := decide_eq_true (by omega)
            simp [plainB, e1, e2, hq, h92] at hpl
        have HBAD := Lib.hid hbad
        clear hbad
        have n92 : ((d.toNat : Int) == 92) = false := u8_beq (n := 92) (by decide) h92
        have CP : Hid (∀ w', Calls Tryz.prog 217 #[.int .u8 (d.toNat : Nat)] w' fun e w'' => e = .returned (.bool false) ∧ w'' = w') := Lib.hid (fun w' => by have := plain_any d w'; rw [hpl] at this; exact this)
        clear hpl
        go_wp2_with (first | (go_at_call 219; refine CD.out.mono ?_; rintro e w2 ⟨rfl, hb2⟩; have hr2 := HRJ.out.below hb2; have hp2 := hr2.lt; have c1 := hr2.cell 1 rfl; have f1 := hr2.free 1; have d2 := hr2.cell 2 rfl; have g2 := hr2.free 2; have HR2' := Lib.hid hr2; have HB2 := Lib.hid hb2; have HU2' := Lib.hid (HUJ.out.below hb2); have HV2 : Hid (BRow w2 w.heap.size (.slice A b.length cap) b) := Lib.hid (own_below HVJ.out hb2); clear hb2 hr2) | (go_at_call 217; refine (CP.out _).mono ?_; rintro e w0 ⟨rfl, hw0⟩; rw [hw0]; clear hw0) | (go_at_call 221; refine (ron_not HR2'.out _ hj (fun _ => rfl) hs).mono ?_; rintro e w3 ⟨rfl, hr3, hu3⟩))
        go_ret
        refine ⟨HU2'.out.trans hu3, ?_⟩
        rw [HQ.out, ← HQJ.out, HRD.out]
        simp only [qa, if_neg hq, if_pos HBAD.out]
        exact ⟨j, by omega, hj, HRD.out.symm, rfl, hr3⟩
    subst h92
    have hok : ¬ (most ≤ b.length ∨ (92 : UInt8).toNat < 32 ∨ 126 < (92 : UInt8).toNat) := by
      rintro (h | h | h)
      · exact hmb h
      · exact absurd h (by decide)
      · exact absurd h (by decide)
    have HQS : Hid (R = match esc (rest s (j + 1)) with | .ok x r => qa most .run r (b ++ [x]) | .no r => .no r) := Lib.hid (by
      have e : qa most .run (92 :: rest s (j + 1)) b = qa most .bs (rest s (j + 1)) b := by simp only [qa, if_neg hq, if_neg hok, if_true]
      rw [← HQJ.out, HRD.out, e]; exact qa_bs _ _ _)
    clear hok
    have CP : Hid (∀ w', Calls Tryz.prog 217 #[.int .u8 ((92 : UInt8).toNat : Nat)] w' fun e w'' => e = .returned (.bool false) ∧ w'' = w') := Lib.hid (fun w' => plain_any 92 w')
    go_upto_region 16 with (first | (go_at_call 219; refine CD.out.mono ?_; rintro e w2 ⟨rfl, hb2⟩; have hr2 := HRJ.out.below hb2; have hp2 := hr2.lt; have c1 := hr2.cell 1 rfl; have f1 := hr2.free 1; have d2 := hr2.cell 2 rfl; have g2 := hr2.free 2; have HR2' := Lib.hid hr2; have HB2 := Lib.hid hb2; have HU2' := Lib.hid (HUJ.out.below hb2); have HV2 : Hid (BRow w2 w.heap.size (.slice A b.length cap) b) := Lib.hid (own_below HVJ.out hb2); clear hb2 hr2) | (go_at_call 217; refine (CP.out _).mono ?_; rintro e w0 ⟨rfl, hw0⟩; rw [hw0]; clear hw0) | (go_at_call 221; refine (ron_yes HR2'.out hjl hs).mono ?_; rintro e w3 ⟨rfl, hr3, hu3⟩; have HR3 := Lib.hid hr3; have HU3 := Lib.hid (HU2'.out.trans hu3); have HV3 : Hid (BRow w3 w.heap.size (.slice A b.length cap) b) := Lib.hid (own_upd HV2.out hu3 hp0); clear hr3 hu3))
    clear c1 f1 d2 g2 c2 f2 CP CD HV2 HU2' HR2' HB2
    by_cases h1 : j + 1 < s.size
    rotate_left
    · have CE := Lib.hid (rnext_end HR3.out (by omega))
      go_wp2_with (first | (go_at_call 219; refine CE.out.mono ?_; rintro e w4 ⟨rfl, hb⟩; have hr := HR3.out.below hb; have hp4 := hr.lt; have c1 := hr.cell 1 rfl; have f1 := hr.free 1; have HR4 := Lib.hid hr; have HU4 := Lib.hid (HU3.out.below hb); have HV4 : Hid (BRow w4 w.heap.size (.slice A b.length cap) b) := Lib.hid (own_below HV3.out hb); clear hb hr) | (go_at_call 221; refine (ron_not HR4.out _ (by omega) (fun h => absurd h h1) hs).mono ?_; rintro e w5 ⟨rfl, hrz, huz⟩))
      go_ret
      refine ⟨HU4.out.trans huz, ?_⟩
      rw [HQ.out, HQS.out, rest_end (by omega)]
      exact ⟨j + 1, by omega, by omega, (rest_end (by omega)).symm, rfl, hrz⟩
    obtain ⟨x, hx⟩ : ∃ x, x = s[j + 1] := ⟨_, rfl⟩
    have HRX : Hid (rest s (j + 1) = x :: rest s (j + 1 + 1)) := Lib.hid (by rw [rest_cons h1, hx])
    have CE := Lib.hid (rnext_at HR3.out h1 hx)
    clear hx
    by_cases hsame : x = 34 ∨ x = 92
    · have hes : esc (rest s (j + 1)) = .ok x (rest s (j + 1 + 1)) := by rw [HRX.out]; exact esc_same x _ hsame
      rw [hes] at HQS
      clear hes
      rcases hsame with rfl | rfl
      · go_upto_region 18 with (first | (go_at_call 219; refine CE.out.mono ?_; rintro e w4 ⟨rfl, hb⟩; have hr := HR3.out.below hb; have hp4 := hr.lt; have c1 := hr.cell 1 rfl; have f1 := hr.free 1; have HR4 := Lib.hid hr; have HU4 := Lib.hid (HU3.out.below hb); have HV4 : Hid (BRow w4 w.heap.size (.slice A b.length cap) b) := Lib.hid (own_below HV3.out hb); clear hb hr))
        clear c1 f1
        go_wp2_with (first
        | (refine wpList_append_byte _ rfl (.tmp 70) (.tmp 72) rfl rfl w.heap.size (.slice A b.length cap) b rfl (own_below HV4.out ((Below.refl _ w4).alloc (Nat.le_refl _) (.cells #[byt 34] 5))) w4.heap.size 1 1 [34] rfl rfl (row_new w4 [byt 34] 5) (by simp; omega) (by have := HU4.out.size; simp; omega) ?_
           intro v' w6 hv6 hg6 ho6
           have hr6 := RRd.grown (BlkN.alloc HR4.out (.cells #[byt 34] 5)) hg6 hne3
           have hp6 := hr6.lt
           have c1 := hr6.cell 1 rfl
           have f1 := hr6.free 1
           have HR6 := Lib.hid hr6
           have HV6 := Lib.hid hv6
           have HU6 := Lib.hid (Upd.grown (HU4.out.alloc (.cells #[byt 34] 5)) hg6 (fun g hx => by have := HVJ.out.lt g hx; omega))
           clear hr6 hv6 hg6 ho6))
        go_roundw
        case rel => exact ⟨j + 1 + 1, b ++ [_], by omega, by omega, RRd.adv HR6.out, own_upd HV6.out ((Upd.refl p w6).set 1 _) hp0, by simp; omega, HU6.out.set 1 _, HQS.out.symm⟩
        case measure => refine Nat.lt_of_le_of_lt (Nat.le_of_eq ((RRd.adv HR6.out).pos s.size)) ?_; rw [HRJ.out.pos]; simp only [Bool.false_eq_true, if_false]; omega
      · go_upto_region 18 with (first | (go_at_call 219; refine CE.out.mono ?_; rintro e w4 ⟨rfl, hb⟩; have hr := HR3.out.below hb; have hp4 := hr.lt; have c1 := hr.cell 1 rfl; have f1 := hr.free 1; have HR4 := Lib.hid hr; have HU4 := Lib.hid (HU3.out.below hb); have HV4 : Hid (BRow w4 w.heap.size (.slice A b.length cap) b) := Lib.hid (own_below HV3.out hb); clear hb hr))
        clear c1 f1
        go_wp2_with (first
        | (refine wpList_append_byte _ rfl (.tmp 70) (.tmp 72) rfl rfl w.heap.size (.slice A b.length cap) b rfl (own_below HV4.out ((Below.refl _ w4).alloc (Nat.le_refl _) (.cells #[byt 92] 5))) w4.heap.size 1 1 [92] rfl rfl (row_new w4 [byt 92] 5) (by simp; omega) (by have := HU4.out.size; simp; omega) ?_
           intro v' w6 hv6 hg6 ho6
           have hr6 := RRd.grown (BlkN.alloc HR4.out (.cells #[byt 92] 5)) hg6 hne3
           have hp6 := hr6.lt
           have c1 := hr6.cell 1 rfl
           have f1 := hr6.free 1
           have HR6 := Lib.hid hr6
           have HV6 := Lib.hid hv6
           have HU6 := Lib.hid (Upd.grown (HU4.out.alloc (.cells #[byt 92] 5)) hg6 (fun g hx => by have := HVJ.out.lt g hx; omega))
           clear hr6 hv6 hg6 ho6))
        go_roundw
        case rel => exact ⟨j + 1 + 1, b ++ [_], by omega, by omega, RRd.adv HR6.out, own_upd HV6.out ((Upd.refl p w6).set 1 _) hp0, by simp; omega, HU6.out.set 1 _, HQS.out.symm⟩
        case measure => refine Nat.lt_of_le_of_lt (Nat.le_of_eq ((RRd.adv HR6.out).pos s.size)) ?_; rw [HRJ.out.pos]; simp only [Bool.false_eq_true, if_false]; omega
    have n34 : ((x.toNat : Int) == 34) = false := u8_beq (n := 34) (by decide) (fun e => hsame (.inl e))
    have n92 : ((x.toNat : Int) == 92) = false := u8_beq (n := 92) (by decide) (fun e => hsame (.inr e))
    by_cases h110 : x = 110
    · subst h110
      have hes : esc (rest s (j + 1)) = .ok 10 (rest s (j + 1 + 1)) := by rw [HRX.out]; rfl
      rw [hes] at HQS
      clear hes
      go_upto_region 21 with (first | (go_at_call 219; refine CE.out.mono ?_; rintro e w4 ⟨rfl, hb⟩; have hr := HR3.out.below hb; have hp4 := hr.lt; have c1 := hr.cell 1 rfl; have f1 := hr.free 1; have HR4 := Lib.hid hr; have HU4 := Lib.hid (HU3.out.below hb); have HV4 : Hid (BRow w4 w.heap.size (.slice A b.length cap) b) := Lib.hid (own_below HV3.out hb); clear hb hr))
      clear c1 f1
      go_wp2_with (first
        | (refine wpList_append_byte _ rfl (.tmp 83) (.tmp 84) rfl rfl w.heap.size (.slice A b.length cap) b rfl (own_below HV4.out ((Below.refl _ w4).alloc (Nat.le_refl _) (.cells #[byt 10] 5))) w4.heap.size 1 1 [10] rfl rfl (row_new w4 [byt 10] 5) (by simp; omega) (by have := HU4.out.size; simp; omega) ?_
           intro v' w6 hv6 hg6 ho6
           have hr6 := RRd.grown (BlkN.alloc HR4.out (.cells #[byt 10] 5)) hg6 hne3
           have hp6 := hr6.lt
           have c1 := hr6.cell 1 rfl
           have f1 := hr6.free 1
           have HR6 := Lib.hid hr6
           have HV6 := Lib.hid hv6
           have HU6 := Lib.hid (Upd.grown (HU4.out.alloc (.cells #[byt 10] 5)) hg6 (fun g hx => by have := HVJ.out.lt g hx; omega))
           clear hr6 hv6 hg6 ho6))
      go_roundw
      case rel => exact ⟨j + 1 + 1, b ++ [10], by omega, by omega, RRd.adv HR6.out, own_upd HV6.out ((Upd.refl p w6).set 1 _) hp0, by simp; omega, HU6.out.set 1 _, HQS.out.symm⟩
      case measure => refine Nat.lt_of_le_of_lt (Nat.le_of_eq ((RRd.adv HR6.out).pos s.size)) ?_; rw [HRJ.out.pos]; simp only [Bool.false_eq_true, if_false]; omega
    have n110 : ((x.toNat : Int) == 110) = false := u8_beq (n := 110) (by decide) h110
    by_cases h120 : x = 120
    rotate_left
    · have n120 : ((x.toNat : Int) == 120) = false := u8_beq (n := 120) (by decide) h120
      have hes : esc (rest s (j + 1)) = .no (rest s (j + 1)) := by rw [HRX.out]; exact esc_other x _ (fun e => hsame (.inl e)) (fun e => hsame (.inr e)) h110 h120
      rw [hes] at HQS
      clear hes
      go_wp2_with (first | (go_at_call 219; refine CE.out.mono ?_; rintro e w4 ⟨rfl, hb⟩; have hr := HR3.out.below hb; have hp4 := hr.lt; have c1 := hr.cell 1 rfl; have f1 := hr.free 1; have HR4 := Lib.hid hr; have HU4 := Lib.hid (HU3.out.below hb); have HV4 : Hid (BRow w4 w.heap.size (.slice A b.length cap) b) := Lib.hid (own_below HV3.out hb); clear hb hr) | (go_at_call 221; refine (ron_not HR4.out _ (by omega) (fun _ => rfl) hs).mono ?_; rintro e w5 ⟨rfl, hrz, huz⟩))
      go_ret
      refine ⟨HU4.out.trans huz, ?_⟩
      rw [HQ.out, HQS.out]
      exact ⟨j + 1, by omega, by omega, rfl, rfl, hrz⟩
    subst h120
    rw [HRX.out] at HQS
    go_upto_region 25 with (first | (go_at_call 219; refine CE.out.mono ?_; rintro e w4 ⟨rfl, hb⟩; have hr := HR3.out.below hb; have hp4 := hr.lt; have c1 := hr.cell 1 rfl; have f1 := hr.free 1; have HR4 := Lib.hid hr; have HU4 := Lib.hid (HU3.out.below hb); have HV4 : Hid (BRow w4 w.heap.size (.slice A b.length cap) b) := Lib.hid (own_below HV3.out hb); clear hb hr) | (go_at_call 221; refine (ron_yes HR4.out h1 hs).mono ?_; rintro e w5 ⟨rfl, hr, hu⟩; have HR5 := Lib.hid hr; have HU5 := Lib.hid (HU4.out.trans hu); have HV5 : Hid (BRow w5 w.heap.size (.slice A b.length cap) b) := Lib.hid (own_upd HV4.out hu hp0); clear hr hu))
    clear c1 f1 CE
    by_cases h2 : j + 1 + 1 < s.size
    rotate_left
    · rw [rest_end (i := j + 1 + 1) (by omega), esc_x0] at HQS
      have CE := Lib.hid (rnext_end HR5.out (by omega))
      go_wp2_with (first | (go_at_call 219; refine CE.out.mono ?_; rintro e w6 ⟨rfl, hb⟩; have hr := HR5.out.below hb; have hp6 := hr.lt; have c1 := hr.cell 1 rfl; have f1 := hr.free 1; have HR6 := Lib.hid hr; have HU6 := Lib.hid (HU5.out.below hb); have HV6 : Hid (BRow w6 w.heap.size (.slice A b.length cap) b) := Lib.hid (own_below HV5.out hb); clear hb hr) | (go_at_call 222; refine (low_zero16 _).mono ?_; rintro e w0 ⟨rfl, hw0⟩; rw [hw0]; clear hw0) | (go_at_call 221; refine (ron_not HR6.out _ (by omega) (fun h => absurd h h2) hs).mono ?_; rintro e w7 ⟨rfl, hrz, huz⟩))
      go_ret
      refine ⟨HU6.out.trans huz, ?_⟩
      rw [HQ.out, HQS.out]
      exact ⟨j + 1 + 1, by omega, by omega, (rest_end (by omega)).symm, rfl, hrz⟩
    obtain ⟨y, hy⟩ : ∃ y, y = s[j + 1 + 1] := ⟨_, rfl⟩
    have HRY : Hid (rest s (j + 1 + 1) = y :: rest s (j + 1 + 1 + 1)) := Lib.hid (by rw [rest_cons h2, hy])
    have CE := Lib.hid (rnext_at HR5.out h2 hy)
    clear hy
    rw [HRY.out] at HQS
    cases hH : hexD y with
    | none =>
      rw [esc_x1 _ _ hH] at HQS
      have CL := Lib.hid (low_none16 hH)
      go_wp2_with (first | (go_at_call 219; refine CE.out.mono ?_; rintro e w6 ⟨rfl, hb⟩; have hr := HR5.out.below hb; have hp6 := hr.lt; have c1 := hr.cell 1 rfl; have f1 := hr.free 1; have HR6 := Lib.hid hr; have HU6 := Lib.hid (HU5.out.below hb); have HV6 : Hid (BRow w6 w.heap.size (.slice A b.length cap) b) := Lib.hid (own_below HV5.out hb); clear hb hr) | (go_at_call 222; refine (CL.out _).mono ?_; rintro e w0 ⟨rfl, hw0⟩; rw [hw0]; clear hw0) | (go_at_call 221; refine (ron_not HR6.out _ (by omega) (fun _ => rfl) hs).mono ?_; rintro e w7 ⟨rfl, hrz, huz⟩))
      go_ret
      refine ⟨HU6.out.trans huz, ?_⟩
      rw [HQ.out, HQS.out]
      exact ⟨j + 1 + 1, by omega, by omega, HRY.out.symm, rfl, hrz⟩
    | some a =>
      have CL := Lib.hid (low_some hH)
      have ha := (lowN_lt hH).2
      have HA := Lib.hid hH
      clear hH
      by_cases hmid : 2 ≤ a ∧ a ≤ 6
      · rw [esc_x2 _ _ a HA.out hmid] at HQS
        have b1 : decide ((a : Int) < 2) = false := decide_eq_false (by omega)
        have b2 : decide ((7 : Int) ≤ a) = false := decide_eq_false (by omega)
        go_wp2_with (first | (go_at_call 219; refine CE.out.mono ?_; rintro e w6 ⟨rfl, hb⟩; have hr := HR5.out.below hb; have hp6 := hr.lt; have c1 := hr.cell 1 rfl; have f1 := hr.free 1; have HR6 := Lib.hid hr; have HU6 := Lib.hid (HU5.out.below hb); have HV6 : Hid (BRow w6 w.heap.size (.slice A b.length cap) b) := Lib.hid (own_below HV5.out hb); clear hb hr) | (go_at_call 222; refine (CL.out _).mono ?_; rintro e w0 ⟨rfl, hw0⟩; rw [hw0]; clear hw0) | (go_at_call 221; refine (ron_not HR6.out _ (by omega) (fun _ => rfl) hs).mono ?_; rintro e w7 ⟨rfl, hrz, huz⟩))
        go_ret
        refine ⟨HU6.out.trans huz, ?_⟩
        rw [HQ.out, HQS.out]
        exact ⟨j + 1 + 1, by omega, by omega, HRY.out.symm, rfl, hrz⟩
      have hab : a < 2 ∨ 7 ≤ a := by omega
      go_upto_region 26 with (first | (go_at_call 219; refine CE.out.mono ?_; rintro e w6 ⟨rfl, hb⟩; have hr := HR5.out.below hb; have hp6 := hr.lt; have c1 := hr.cell 1 rfl; have f1 := hr.free 1; have HR6 := Lib.hid hr; have HU6 := Lib.hid (HU5.out.below hb); have HV6 : Hid (BRow w6 w.heap.size (.slice A b.length cap) b) := Lib.hid (own_below HV5.out hb); clear hb hr) | (go_at_call 222; refine (CL.out _).mono ?_; rintro e w0 ⟨rfl, hw0⟩; rw [hw0]; clear hw0))
      clear c1 f1 CE CL
      rcases hab with hab | hab
      · have b1 : decide ((a : Int) < 2) = true := decide_eq_true (by omega)
        go_upto_region 28 with (first | (go_at_call 221; refine (ron_yes HR6.out h2 hs).mono ?_; rintro e w7 ⟨rfl, hr, hu⟩; have HR7 := Lib.hid hr; have HU7 := Lib.hid (HU6.out.trans hu); have HV7 : Hid (BRow w7 w.heap.size (.slice A b.length cap) b) := Lib.hid (own_upd HV6.out hu hp0); clear hr hu))
        by_cases h3 : j + 1 + 1 + 1 < s.size
        rotate_left
        · rw [rest_end (i := j + 1 + 1 + 1) (by omega), esc_x3 _ a HA.out hmid] at HQS
          have CE := Lib.hid (rnext_end HR7.out (by omega))
          go_wp2_with (first | (go_at_call 219; refine CE.out.mono ?_; rintro e w8 ⟨rfl, hb⟩; have hr := HR7.out.below hb; have hp8 := hr.lt; have c1 := hr.cell 1 rfl; have f1 := hr.free 1; have HR8 := Lib.hid hr; have HU8 := Lib.hid (HU7.out.below hb); have HV8 : Hid (BRow w8 w.heap.size (.slice A b.length cap) b) := Lib.hid (own_below HV7.out hb); clear hb hr) | (go_at_call 222; refine (low_zero16 _).mono ?_; rintro e w0 ⟨rfl, hw0⟩; rw [hw0]; clear hw0) | (go_at_call 221; refine (ron_not HR8.out _ (by omega) (fun h => absurd h h3) hs).mono ?_; rintro e w8 ⟨rfl, hrz, huz⟩))
          go_ret
          refine ⟨HU8.out.trans huz, ?_⟩
          rw [HQ.out, HQS.out]
          exact ⟨j + 1 + 1 + 1, by omega, by omega, (rest_end (by omega)).symm, rfl, hrz⟩
        obtain ⟨z, hz⟩ : ∃ z, z = s[j + 1 + 1 + 1] := ⟨_, rfl⟩
        have HRZ : Hid (rest s (j + 1 + 1 + 1) = z :: rest s (j + 1 + 1 + 1 + 1)) := Lib.hid (by rw [rest_cons h3, hz])
        have CE := Lib.hid (rnext_at HR7.out h3 hz)
        clear hz
        rw [HRZ.out] at HQS
        cases hD : hexD z with
        | none =>
          rw [esc_x4 _ _ _ a HA.out hmid hD] at HQS
          have CL := Lib.hid (low_none16 hD)
          go_wp2_with (first | (go_at_call 219; refine CE.out.mono ?_; rintro e w8 ⟨rfl, hb⟩; have hr := HR7.out.below hb; have hp8 := hr.lt; have c1 := hr.cell 1 rfl; have f1 := hr.free 1; have HR8 := Lib.hid hr; have HU8 := Lib.hid (HU7.out.below hb); have HV8 : Hid (BRow w8 w.heap.size (.slice A b.length cap) b) := Lib.hid (own_below HV7.out hb); clear hb hr) | (go_at_call 222; refine (CL.out _).mono ?_; rintro e w0 ⟨rfl, hw0⟩; rw [hw0]; clear hw0) | (go_at_call 221; refine (ron_not HR8.out _ (by omega) (fun _ => rfl) hs).mono ?_; rintro e w8 ⟨rfl, hrz, huz⟩))
          go_ret
          refine ⟨HU8.out.trans huz, ?_⟩
          rw [HQ.out, HQS.out]
          exact ⟨j + 1 + 1 + 1, by omega, by omega, HRZ.out.symm, rfl, hrz⟩
        | some d =>
          have CL := Lib.hid (low_some hD)
          have hd16 := (lowN_lt hD).2
          have HD := Lib.hid hD
          clear hD
          have b4 : decide ((d : Int) < 16) = true := decide_eq_true (by omega)
          by_cases hbad : (a = 0 ∧ d = 10) ∨ (a = 7 ∧ d ≠ 15)
          · rw [esc_x5 _ _ _ a d HA.out hmid HD.out hbad] at HQS
            have hk : (16 * (a : Int) + d != 10) = false ∨ ((16 * (a : Int) + d != 10) = true ∧ decide (16 * (a : Int) + d < 32) = false ∧ decide (126 < 16 * (a : Int) + d) = false) := by
              by_cases hk : 16 * (a : Int) + d = 10
              · left; rw [hk]; rfl
              · right; exact ⟨by simpa using hk, decide_eq_false (by omega), decide_eq_false (by omega)⟩
            rcases hk with k1 | ⟨k1, k2, k3⟩
            all_goals
              go_wp2_with (first | (go_at_call 219; refine CE.out.mono ?_; rintro e w8 ⟨rfl, hb⟩; have hr := HR7.out.below hb; have hp8 := hr.lt; have c1 := hr.cell 1 rfl; have f1 := hr.free 1; have HR8 := Lib.hid hr; have HU8 := Lib.hid (HU7.out.below hb); have HV8 : Hid (BRow w8 w.heap.size (.slice A b.length cap) b) := Lib.hid (own_below HV7.out hb); clear hb hr) | (go_at_call 222; refine (CL.out _).mono ?_; rintro e w0 ⟨rfl, hw0⟩; rw [hw0]; clear hw0) | (go_at_call 221; refine (ron_not HR8.out _ (by omega) (fun _ => rfl) hs).mono ?_; rintro e w8 ⟨rfl, hrz, huz⟩))
              go_ret
              refine ⟨HU8.out.trans huz, ?_⟩
              rw [HQ.out, HQS.out]
              exact ⟨j + 1 + 1 + 1, by omega, by omega, HRZ.out.symm, rfl, hrz⟩
          rw [esc_x6 _ _ _ a d HA.out hmid HD.out hbad] at HQS
          have k1 : (16 * (a : Int) + d != 10) = true := by simp; omega
          have hk : decide (16 * (a : Int) + d < 32) = true ∨ (decide (16 * (a : Int) + d < 32) = false ∧ decide (126 < 16 * (a : Int) + d) = true) := by
            by_cases hk : 16 * (a : Int) + d < 32
            · left; exact decide_eq_true hk
            · right; exact ⟨decide_eq_false hk, decide_eq_true (by omega)⟩
          obtain ⟨x, hx⟩ : ∃ x, x = UInt8.ofNat (a * 16 + d) := ⟨_, rfl⟩
          rw [← hx] at HQS
          have HX : Hid (16 * (a : Int) + d = (x.toNat : Nat)) := Lib.hid (by rw [hx, UInt8.toNat_ofNat']; omega)
          clear hx
          rcases hk with k2 | ⟨k2, k3⟩
          all_goals
            go_upto_region 32 with (first | (go_at_call 219; refine CE.out.mono ?_; rintro e w8 ⟨rfl, hb⟩; have hr := HR7.out.below hb; have hp8 := hr.lt; have c1 := hr.cell 1 rfl; have f1 := hr.free 1; have HR8 := Lib.hid hr; have HU8 := Lib.hid (HU7.out.below hb); have HV8 : Hid (BRow w8 w.heap.size (.slice A b.length cap) b) := Lib.hid (own_below HV7.out hb); clear hb hr) | (go_at_call 222; refine (CL.out _).mono ?_; rintro e w0 ⟨rfl, hw0⟩; rw [hw0]; clear hw0) | (go_at_call 221; refine (ron_yes HR8.out h3 hs).mono ?_; rintro e w9 ⟨rfl, hr, hu⟩; have HR9 := Lib.hid hr; have HU9 := Lib.hid (HU8.out.trans hu); have HV9 : Hid (BRow w9 w.heap.size (.slice A b.length cap) b) := Lib.hid (own_upd HV8.out hu hp0); clear hr hu))
            clear c1 f1
            go_wp2_with (first
            | (rw [HX.out]; refine wpList_append_byte _ rfl (.tmp 138) (.tmp 141) rfl rfl w.heap.size (.slice A b.length cap) b rfl (own_below HV9.out ((Below.refl _ w9).alloc (Nat.le_refl _) (.cells #[byt x] 5))) w9.heap.size 1 1 [x] rfl rfl (row_new w9 [byt x] 5) (by simp; omega) (by have := HU9.out.size; simp; omega) ?_
               intro v' w10 hv10 hg10 ho10
               have hr10 := RRd.grown (BlkN.alloc HR9.out (.cells #[byt x] 5)) hg10 hne3
               have hp10 := hr10.lt
               have c1 := hr10.cell 1 rfl
               have f1 := hr10.free 1
               have HR10 := Lib.hid hr10
               have HV10 := Lib.hid hv10
               have HU10 := Lib.hid (Upd.grown (HU9.out.alloc (.cells #[byt x] 5)) hg10 (fun g hx => by have := HVJ.out.lt g hx; omega))
               clear hr10 hv10 hg10 ho10))
            go_roundw
            case rel => exact ⟨j + 1 + 1 + 1 + 1, b ++ [_], by omega, by omega, HR10.out, HV10.out, by simp; omega, HU10.out, HQS.out.symm⟩
            case measure => rw [HR10.out.pos, HRJ.out.pos]; simp only [Bool.false_eq_true, if_false]; omega
      · have b1 : decide ((a : Int) < 2) = false := decide_eq_false (by omega)
        have b2 : decide ((7 : Int) ≤ a) = true := decide_eq_true (by omega)
        have b3 : decide ((a : Int) < 16) = true := decide_eq_true (by omega)
        go_upto_region 28 with (first | (go_at_call 221; refine (ron_yes HR6.out h2 hs).mono ?_; rintro e w7 ⟨rfl, hr, hu⟩; have HR7 := Lib.hid hr; have HU7 := Lib.hid (HU6.out.trans hu); have HV7 : Hid (BRow w7 w.heap.size (.slice A b.length cap) b) := Lib.hid (own_upd HV6.out hu hp0); clear hr hu))
        by_cases h3 : j + 1 + 1 + 1 < s.size
        rotate_left
        · rw [rest_end (i := j + 1 + 1 + 1) (by omega), esc_x3 _ a HA.out hmid] at HQS
          have CE := Lib.hid (rnext_end HR7.out (by omega))
          go_wp2_with (first | (go_at_call 219; refine CE.out.mono ?_; rintro e w8 ⟨rfl, hb⟩; have hr := HR7.out.below hb; have hp8 := hr.lt; have c1 := hr.cell 1 rfl; have f1 := hr.free 1; have HR8 := Lib.hid hr; have HU8 := Lib.hid (HU7.out.below hb); have HV8 : Hid (BRow w8 w.heap.size (.slice A b.length cap) b) := Lib.hid (own_below HV7.out hb); clear hb hr) | (go_at_call 222; refine (low_zero16 _).mono ?_; rintro e w0 ⟨rfl, hw0⟩; rw [hw0]; clear hw0) | (go_at_call 221; refine (ron_not HR8.out _ (by omega) (fun h => absurd h h3) hs).mono ?_; rintro e w8 ⟨rfl, hrz, huz⟩))
          go_ret
          refine ⟨HU8.out.trans huz, ?_⟩
          rw [HQ.out, HQS.out]
          exact ⟨j + 1 + 1 + 1, by omega, by omega, (rest_end (by omega)).symm, rfl, hrz⟩
        obtain ⟨z, hz⟩ : ∃ z, z = s[j + 1 + 1 + 1] := ⟨_, rfl⟩
        have HRZ : Hid (rest s (j + 1 + 1 + 1) = z :: rest s (j + 1 + 1 + 1 + 1)) := Lib.hid (by rw [rest_cons h3, hz])
        have CE := Lib.hid (rnext_at HR7.out h3 hz)
        clear hz
        rw [HRZ.out] at HQS
        cases hD : hexD z with
        | none =>
          rw [esc_x4 _ _ _ a HA.out hmid hD] at HQS
          have CL := Lib.hid (low_none16 hD)
          go_wp2_with (first | (go_at_call 219; refine CE.out.mono ?_; rintro e w8 ⟨rfl, hb⟩; have hr := HR7.out.below hb; have hp8 := hr.lt; have c1 := hr.cell 1 rfl; have f1 := hr.free 1; have HR8 := Lib.hid hr; have HU8 := Lib.hid (HU7.out.below hb); have HV8 : Hid (BRow w8 w.heap.size (.slice A b.length cap) b) := Lib.hid (own_below HV7.out hb); clear hb hr) | (go_at_call 222; refine (CL.out _).mono ?_; rintro e w0 ⟨rfl, hw0⟩; rw [hw0]; clear hw0) | (go_at_call 221; refine (ron_not HR8.out _ (by omega) (fun _ => rfl) hs).mono ?_; rintro e w8 ⟨rfl, hrz, huz⟩))
          go_ret
          refine ⟨HU8.out.trans huz, ?_⟩
          rw [HQ.out, HQS.out]
          exact ⟨j + 1 + 1 + 1, by omega, by omega, HRZ.out.symm, rfl, hrz⟩
        | some d =>
          have CL := Lib.hid (low_some hD)
          have hd16 := (lowN_lt hD).2
          have HD := Lib.hid hD
          clear hD
          have b4 : decide ((d : Int) < 16) = true := decide_eq_true (by omega)
          by_cases hbad : (a = 0 ∧ d = 10) ∨ (a = 7 ∧ d ≠ 15)
          · rw [esc_x5 _ _ _ a d HA.out hmid HD.out hbad] at HQS
            have hk : (16 * (a : Int) + d != 10) = false ∨ ((16 * (a : Int) + d != 10) = true ∧ decide (16 * (a : Int) + d < 32) = false ∧ decide (126 < 16 * (a : Int) + d) = false) := by
              by_cases hk : 16 * (a : Int) + d = 10
              · left; rw [hk]; rfl
              · right; exact ⟨by simpa using hk, decide_eq_false (by omega), decide_eq_false (by omega)⟩
            rcases hk with k1 | ⟨k1, k2, k3⟩
            all_goals
              go_wp2_with (first | (go_at_call 219; refine CE.out.mono ?_; rintro e w8 ⟨rfl, hb⟩; have hr := HR7.out.below hb; have hp8 := hr.lt; have c1 := hr.cell 1 rfl; have f1 := hr.free 1; have HR8 := Lib.hid hr; have HU8 := Lib.hid (HU7.out.below hb); have HV8 : Hid (BRow w8 w.heap.size (.slice A b.length cap) b) := Lib.hid (own_below HV7.out hb); clear hb hr) | (go_at_call 222; refine (CL.out _).mono ?_; rintro e w0 ⟨rfl, hw0⟩; rw [hw0]; clear hw0) | (go_at_call 221; refine (ron_not HR8.out _ (by omega) (fun _ => rfl) hs).mono ?_; rintro e w8 ⟨rfl, hrz, huz⟩))
              go_ret
              refine ⟨HU8.out.trans huz, ?_⟩
              rw [HQ.out, HQS.out]
              exact ⟨j + 1 + 1 + 1, by omega, by omega, HRZ.out.symm, rfl, hrz⟩
          rw [esc_x6 _ _ _ a d HA.out hmid HD.out hbad] at HQS
          have k1 : (16 * (a : Int) + d != 10) = true := by simp; omega
          have hk : decide (16 * (a : Int) + d < 32) = true ∨ (decide (16 * (a : Int) + d < 32) = false ∧ decide (126 < 16 * (a : Int) + d) = true) := by
            by_cases hk : 16 * (a : Int) + d < 32
            · left; exact decide_eq_true hk
            · right; exact ⟨decide_eq_false hk, decide_eq_true (by omega)⟩
          obtain ⟨x, hx⟩ : ∃ x, x = UInt8.ofNat (a * 16 + d) := ⟨_, rfl⟩
          rw [← hx] at HQS
          have HX : Hid (16 * (a : Int) + d = (x.toNat : Nat)) := Lib.hid (by rw [hx, UInt8.toNat_ofNat']; omega)
          clear hx
          rcases hk with k2 | ⟨k2, k3⟩
          all_goals
            go_upto_region 32 with (first | (go_at_call 219; refine CE.out.mono ?_; rintro e w8 ⟨rfl, hb⟩; have hr := HR7.out.below hb; have hp8 := hr.lt; have c1 := hr.cell 1 rfl; have f1 := hr.free 1; have HR8 := Lib.hid hr; have HU8 := Lib.hid (HU7.out.below hb); have HV8 : Hid (BRow w8 w.heap.size (.slice A b.length cap) b) := Lib.hid (own_below HV7.out hb); clear hb hr) | (go_at_call 222; refine (CL.out _).mono ?_; rintro e w0 ⟨rfl, hw0⟩; rw [hw0]; clear hw0) | (go_at_call 221; refine (ron_yes HR8.out h3 hs).mono ?_; rintro e w9 ⟨rfl, hr, hu⟩; have HR9 := Lib.hid hr; have HU9 := Lib.hid (HU8.out.trans hu); have HV9 : Hid (BRow w9 w.heap.size (.slice A b.length cap) b) := Lib.hid (own_upd HV8.out hu hp0); clear hr hu))
            clear c1 f1
            go_wp2_with (first
            | (rw [HX.out]; refine wpList_append_byte _ rfl (.tmp 138) (.tmp 141) rfl rfl w.heap.size (.slice A b.length cap) b rfl (own_below HV9.out ((Below.refl _ w9).alloc (Nat.le_refl _) (.cells #[byt x] 5))) w9.heap.size 1 1 [x] rfl rfl (row_new w9 [byt x] 5) (by simp; omega) (by have := HU9.out.size; simp; omega) ?_
               intro v' w10 hv10 hg10 ho10
               have hr10 := RRd.grown (BlkN.alloc HR9.out (.cells #[byt x] 5)) hg10 hne3
               have hp10 := hr10.lt
               have c1 := hr10.cell 1 rfl
               have f1 := hr10.free 1
               have HR10 := Lib.hid hr10
               have HV10 := Lib.hid hv10
               have HU10 := Lib.hid (Upd.grown (HU9.out.alloc (.cells #[byt x] 5)) hg10 (fun g hx => by have := HVJ.out.lt g hx; omega))
               clear hr10 hv10 hg10 ho10))
            go_roundw
            case rel => exact ⟨j + 1 + 1 + 1 + 1, b ++ [_], by omega, by omega, HR10.out, HV10.out, by simp; omega, HU10.out, HQS.out.symm⟩
            case measure => rw [HR10.out.pos, HRJ.out.pos]; simp only [Bool.false_eq_true, if_false]; omega
set_option maxRecDepth 100000 in
set_option maxHeartbeats 4000000 in
/-- A quoted form of any bytes. -/
theorem rquoted_any (most : Nat) (s : ByteArray) (i : Nat) (room : Int) (w : World) (p : Nat) (h : RRd w p s i false room) (hi : i ≤ s.size) (hs : s.size ≤ 140737488351232) (hmo : s.size ≤ most) :
    Calls Tryz.prog 173 #[.pointer (some ⟨p, 0, Option.none⟩), .int .i64 (-1)] w fun e w' => Upd p w w' ∧ RqP (quo most (rest s i)) s i room p e w' := by
  have HR := Lib.hid h
  have hp0 := h.lt
  clear h
  by_cases hq0 : ∃ hh : i < s.size, s[i] = 34
  rotate_left
  · have HNO : Hid (quo most (rest s i) = .no (rest s i)) := Lib.hid (by
      by_cases hh : i < s.size
      · rw [rest_cons hh]
        simp only [quo]
        rw [if_neg (fun e => hq0 ⟨hh, e⟩)]
      · rw [rest_end (by omega)]; rfl)
    obtain ⟨c, hc⟩ : ∃ c : UInt8, c = nxS false (rest s i) := ⟨_, rfl⟩
    have hc34 : c ≠ 34 := by
      by_cases hh : i < s.size
      · rw [rest_cons hh] at hc
        exact fun e => hq0 ⟨hh, by rw [← e, hc]; rfl⟩
      · rw [rest_end (by omega)] at hc
        rw [hc]; decide
    have hne : ((c.toNat : Int) == 34) = false := u8_beq (n := 34) (by decide) hc34
    have C : Hid (Calls Tryz.prog 219 #[.pointer (some ⟨p, 0, Option.none⟩)] w fun e w' => e = .returned (.int .u8 (c.toNat : Nat)) ∧ Below w.heap.size w w') := Lib.hid (by rw [hc]; exact rnext_any s i false room w p HR.out)
    clear hc hc34 hq0
    go_enter Tryz.func173, Tryz.ntmps173
    go_wp2_with (first
      | (go_at_call 219; refine C.out.mono ?_; rintro e w1 ⟨rfl, hb1⟩; have HB1 := Lib.hid hb1; clear hb1)
      | (go_at_call 221; refine (ron_not (HR.out.below HB1.out) _ hi (fun _ => rfl) hs).mono ?_; rintro e w2 ⟨rfl, hr2, hu2⟩; have HR2 := Lib.hid hr2; have HU2 := Lib.hid ((Upd.ofBelow HB1.out p).trans hu2); clear hr2 hu2))
    clear C
    have hp2 := HR2.out.lt
    have c2 := HR2.out.cell 2 rfl
    go_loopw [5, 6, 7, 8, 9] (fun _ _ _ _ _ wr => wr = w2) (fun _ _ _ _ _ _ => 0)
    case atStart => rfl
    case round =>
      obtain rfl := hrel
      go_wp2_with fail
      go_ret
      refine ⟨HU2.out, ?_⟩
      rw [HNO.out]
      exact ⟨i, Nat.le_refl _, hi, rfl, rfl, HR2.out⟩
  obtain ⟨hh, hq⟩ := hq0
  obtain ⟨R, hR⟩ : ∃ R, R = qa most .run (rest s (i + 1)) [] := ⟨_, rfl⟩
  have HQ : Hid (quo most (rest s i) = R) := Lib.hid (by rw [rest_cons hh, hR, hq]; simp [quo])
  have hR' := Lib.hid hR
  clear hR
  have C := Lib.hid (rnext_at HR.out hh hq.symm)
  clear hq
  go_enter Tryz.func173, Tryz.ntmps173
  go_wp2_with (first
    | (go_at_call 219; refine C.out.mono ?_; rintro e w1 ⟨rfl, hb1⟩; have HB1 := Lib.hid hb1; clear hb1)
    | (go_at_call 221; refine (ron_yes (HR.out.below HB1.out) hh hs).mono ?_; rintro e w2 ⟨rfl, hr2, hu2⟩; have HR2 := Lib.hid hr2; have HU2 := Lib.hid ((Upd.ofBelow HB1.out p).trans hu2); clear hr2 hu2))
  clear C
  go_loopw [5, 6, 7, 8, 9] (fun v _ _ _ _ wr => ∃ (j : Nat) (b : L8), i < j ∧ j ≤ s.size ∧ RRd wr p s j false room ∧ BRow wr w.heap.size v b ∧ b.length < j ∧ Upd p w wr ∧ qa most .run (rest s j) b = R) (fun _ _ _ _ _ wr => offOf wr p s.size)
  case atStart => exact ⟨i + 1, [], by omega, by omega, HR2.out, BRow.nil _ _, by simp, HU2.out, hR'.out.symm⟩
  case round =>
    obtain ⟨j, b, hij, hj, hr, hv, hbl, hu, hq⟩ := hrel
    have HRJ := Lib.hid hr
    have HVJ := Lib.hid hv
    have HUJ := Lib.hid hu
    have HQJ := Lib.hid hq
    clear hu hq
    obtain ⟨A, cap, rfl, hcap⟩ := hv.slice
    clear hv
    have hpr := hr.lt
    have c2 := hr.cell 2 rfl
    have f2 := hr.free 2
    clear hr
    have hne3 : ∀ g, (Value.slice A b.length cap).ownBlock = some g → p < g := fun g hx => by have := HVJ.out.lt g hx; omega
    by_cases hjl : j < s.size
    rotate_left
    · have CD := Lib.hid (rnext_end HRJ.out (by omega))
      have hpz : plainB 0 = false := by decide
      have CP : Hid (∀ w', Calls Tryz.prog 217 #[.int .u8 0] w' fun e w'' => e = .returned (.bool false) ∧ w'' = w') := Lib.hid (fun w' => plain_any 0 w')
      go_wp2_with (first | (go_at_call 219; refine CD.out.mono ?_; rintro e w2 ⟨rfl, hb2⟩; have hr2 := HRJ.out.below hb2; have hp2 := hr2.lt; have c1 := hr2.cell 1 rfl; have f1 := hr2.free 1; have d2 := hr2.cell 2 rfl; have g2 := hr2.free 2; have HR2' := Lib.hid hr2; have HB2 := Lib.hid hb2; have HU2' := Lib.hid (HUJ.out.below hb2); have HV2 : Hid (BRow w2 w.heap.size (.slice A b.length cap) b) := Lib.hid (own_below HVJ.out hb2); clear hb2 hr2) | (go_at_call 217; refine (CP.out _).mono ?_; rintro e w0 ⟨rfl, hw0⟩; rw [hw0]; clear hw0) | (go_at_call 221; refine (ron_not HR2'.out _ hj (fun h => absurd h hjl) hs).mono ?_; rintro e w3 ⟨rfl, hr3, hu3⟩))
      go_ret
      refine ⟨HU2'.out.trans hu3, ?_⟩
      rw [HQ.out, ← HQJ.out, rest_end (by omega)]
      exact ⟨j, by omega, hj, (rest_end (by omega)).symm, rfl, hr3⟩
    obtain ⟨d, hd⟩ : ∃ d, d = s[j] := ⟨_, rfl⟩
    have hrd : rest s j = d :: rest s (j + 1) := by rw [rest_cons hjl, hd]
    have CD := Lib.hid (rnext_at HRJ.out hjl hd)
    have HRD := Lib.hid hrd
    clear hd hrd
    have hd0 : d.toNat < 256 := d.toNat_lt
    by_cases hq : d = 34
    · subst hq
      go_upto_region 7 with (first | (go_at_call 219; refine CD.out.mono ?_; rintro e w2 ⟨rfl, hb2⟩; have hr2 := HRJ.out.below hb2; have hp2 := hr2.lt; have c1 := hr2.cell 1 rfl; have f1 := hr2.free 1; have d2 := hr2.cell 2 rfl; have g2 := hr2.free 2; have HR2' := Lib.hid hr2; have HB2 := Lib.hid hb2; have HU2' := Lib.hid (HUJ.out.below hb2); have HV2 : Hid (BRow w2 w.heap.size (.slice A b.length cap) b) := Lib.hid (own_below HVJ.out hb2); clear hb2 hr2))
      obtain ⟨W, hW⟩ : ∃ W, W = w2.setCell ⟨p, 1, Option.none⟩ (.int .i64 ((j : Int) + 1)) := ⟨_, rfl⟩
      have HR3 : Hid (RRd W p s (j + 1) false room) := Lib.hid (by rw [hW]; exact RRd.adv HR2'.out)
      have HU3 : Hid (Upd p w W) := Lib.hid (by rw [hW]; exact HU2'.out.set 1 _)
      have hconv : (convert 143 9 (.slice A b.length cap)).run Tryz.prog W = .ok (.string (txtV b)) W := by
        refine brow_string (lo := w.heap.size) ?_
        rw [hW]
        exact own_upd HV2.out ((Upd.refl p w2).set 1 _) hp0
      rw [← hW]
      clear hW
      go_wp2_with fail
      go_ret
      refine ⟨HU3.out, ?_⟩
      rw [HQ.out, ← HQJ.out, HRD.out]
      exact ⟨j + 1, by omega, by omega, rfl, rfl, HR3.out⟩
    have hne : ((d.toNat : Int) == 34) = false := u8_beq (n := 34) (by decide) hq
    have hmb : ¬ most ≤ b.length := by omega
    by_cases h92 : d = 92
    rotate_left
    · by_cases hpl : plainB d = true
      · have hok : ¬ (most ≤ b.length ∨ d.toNat < 32 ∨ 126 < d.toNat) := by
          simp only [plainB, Bool.and_eq_true, decide_eq_true_eq] at hpl
          omega
        have HOK := Lib.hid hok
        clear hok
        have CP : Hid (∀ w', Calls Tryz.prog 217 #[.int .u8 (d.toNat : Nat)] w' fun e w'' => e = .returned (.bool true) ∧ w'' = w') := Lib.hid (fun w' => by have := plain_any d w'; rw [hpl] at this; exact this)
        clear hpl
        go_upto_region 12 with (first | (go_at_call 219; refine CD.out.mono ?_; rintro e w2 ⟨rfl, hb2⟩; have hr2 := HRJ.out.below hb2; have hp2 := hr2.lt; have c1 := hr2.cell 1 rfl; have f1 := hr2.free 1; have d2 := hr2.cell 2 rfl; have g2 := hr2.free 2; have HR2' := Lib.hid hr2; have HB2 := Lib.hid hb2; have HU2' := Lib.hid (HUJ.out.below hb2); have HV2 : Hid (BRow w2 w.heap.size (.slice A b.length cap) b) := Lib.hid (own_below HVJ.out hb2); clear hb2 hr2) | (go_at_call 217; refine (CP.out _).mono ?_; rintro e w0 ⟨rfl, hw0⟩; rw [hw0]; clear hw0))
        clear c1 f1
        go_wp2_with (first
        | (refine wpList_append_byte _ rfl (.tmp 46) (.tmp 48) rfl rfl w.heap.size (.slice A b.length cap) b rfl (own_below HV2.out ((Below.refl _ w2).alloc (Nat.le_refl _) (.cells #[byt d] 5))) w2.heap.size 1 1 [d] rfl rfl (row_new w2 [byt d] 5) (by simp; omega) (by have := HU2'.out.size; simp; omega) ?_
           intro v' w4 hv4 hg4 ho4
           have hr4 := RRd.grown (BlkN.alloc HR2'.out (.cells #[byt d] 5)) hg4 hne3
           have hp4 := hr4.lt
           have c1 := hr4.cell 1 rfl
           have f1 := hr4.free 1
           have HR4 := Lib.hid hr4
           have HV4 := Lib.hid hv4
           have HU4 := Lib.hid (Upd.grown (HU2'.out.alloc (.cells #[byt d] 5)) hg4 (fun g hx => by have := HVJ.out.lt g hx; omega))
           clear hr4 hv4 hg4 ho4))
        go_roundw
        case rel => exact ⟨j + 1, b ++ [d], by omega, by omega, RRd.adv HR4.out, own_upd HV4.out ((Upd.refl p w4).set 1 _) hp0, by simp; omega, HU4.out.set 1 _, by rw [← HQJ.out, HRD.out]; simp only [qa, if_neg hq, if_neg HOK.out, if_neg h92]⟩
        case measure => refine Nat.lt_of_le_of_lt (Nat.le_of_eq ((RRd.adv HR4.out).pos s.size)) ?_; rw [HRJ.out.pos]; simp only [Bool.false_eq_true, if_false]; omega
      · obtain hpl : plainB d = false := by simpa using hpl
        have hbad : most ≤ b.length ∨ d.toNat < 32 ∨ 126 < d.toNat := by
          by_cases hg : d.toNat < 32 ∨ 126 < d.toNat
          · exact .inr hg
          · exfalso
            have e1 : decide (32 ≤ d.toNat) = true := decide_eq_true (by omega)
            have e2 : decide (d.toNat ≤ 126) = true := decide_eq_true (by omega)
            simp [plainB, e1, e2, hq, h92] at hpl
        have HBAD := Lib.hid hbad
        clear hbad
        have n92 : ((d.toNat : Int) == 92) = false := u8_beq (n := 92) (by decide) h92
        have CP : Hid (∀ w', Calls Tryz.prog 217 #[.int .u8 (d.toNat : Nat)] w' fun e w'' => e = .returned (.bool false) ∧ w'' = w') := Lib.hid (fun w' => by have := plain_any d w'; rw [hpl] at this; exact this)
        clear hpl
        go_wp2_with (first | (go_at_call 219; refine CD.out.mono ?_; rintro e w2 ⟨rfl, hb2⟩; have hr2 := HRJ.out.below hb2; have hp2 := hr2.lt; have c1 := hr2.cell 1 rfl; have f1 := hr2.free 1; have d2 := hr2.cell 2 rfl; have g2 := hr2.free 2; have HR2' := Lib.hid hr2; have HB2 := Lib.hid hb2; have HU2' := Lib.hid (HUJ.out.below hb2); have HV2 : Hid (BRow w2 w.heap.size (.slice A b.length cap) b) := Lib.hid (own_below HVJ.out hb2); clear hb2 hr2) | (go_at_call 217; refine (CP.out _).mono ?_; rintro e w0 ⟨rfl, hw0⟩; rw [hw0]; clear hw0) | (go_at_call 221; refine (ron_not HR2'.out _ hj (fun _ => rfl) hs).mono ?_; rintro e w3 ⟨rfl, hr3, hu3⟩))
        go_ret
        refine ⟨HU2'.out.trans hu3, ?_⟩
        rw [HQ.out, ← HQJ.out, HRD.out]
        simp only [qa, if_neg hq, if_pos HBAD.out]
        exact ⟨j, by omega, hj, HRD.out.symm, rfl, hr3⟩
    subst h92
    have hok : ¬ (most ≤ b.length ∨ (92 : UInt8).toNat < 32 ∨ 126 < (92 : UInt8).toNat) := by
      rintro (h | h | h)
      · exact hmb h
      · exact absurd h (by decide)
      · exact absurd h (by decide)
    have HQS : Hid (R = match esc (rest s (j + 1)) with | .ok x r => qa most .run r (b ++ [x]) | .no r => .no r) := Lib.hid (by
      have e : qa most .run (92 :: rest s (j + 1)) b = qa most .bs (rest s (j + 1)) b := by simp only [qa, if_neg hq, if_neg hok, if_true]
      rw [← HQJ.out, HRD.out, e]; exact qa_bs _ _ _)
    clear hok
    have CP : Hid (∀ w', Calls Tryz.prog 217 #[.int .u8 ((92 : UInt8).toNat : Nat)] w' fun e w'' => e = .returned (.bool false) ∧ w'' = w') := Lib.hid (fun w' => plain_any 92 w')
    go_upto_region 16 with (first | (go_at_call 219; refine CD.out.mono ?_; rintro e w2 ⟨rfl, hb2⟩; have hr2 := HRJ.out.below hb2; have hp2 := hr2.lt; have c1 := hr2.cell 1 rfl; have f1 := hr2.free 1; have d2 := hr2.cell 2 rfl; have g2 := hr2.free 2; have HR2' := Lib.hid hr2; have HB2 := Lib.hid hb2; have HU2' := Lib.hid (HUJ.out.below hb2); have HV2 : Hid (BRow w2 w.heap.size (.slice A b.length cap) b) := Lib.hid (own_below HVJ.out hb2); clear hb2 hr2) | (go_at_call 217; refine (CP.out _).mono ?_; rintro e w0 ⟨rfl, hw0⟩; rw [hw0]; clear hw0) | (go_at_call 221; refine (ron_yes HR2'.out hjl hs).mono ?_; rintro e w3 ⟨rfl, hr3, hu3⟩; have HR3 := Lib.hid hr3; have HU3 := Lib.hid (HU2'.out.trans hu3); have HV3 : Hid (BRow w3 w.heap.size (.slice A b.length cap) b) := Lib.hid (own_upd HV2.out hu3 hp0); clear hr3 hu3))
    clear c1 f1 d2 g2 c2 f2 CP CD HV2 HU2' HR2' HB2
    by_cases h1 : j + 1 < s.size
    rotate_left
    · have CE := Lib.hid (rnext_end HR3.out (by omega))
      go_wp2_with (first | (go_at_call 219; refine CE.out.mono ?_; rintro e w4 ⟨rfl, hb⟩; have hr := HR3.out.below hb; have hp4 := hr.lt; have c1 := hr.cell 1 rfl; have f1 := hr.free 1; have HR4 := Lib.hid hr; have HU4 := Lib.hid (HU3.out.below hb); have HV4 : Hid (BRow w4 w.heap.size (.slice A b.length cap) b) := Lib.hid (own_below HV3.out hb); clear hb hr) | (go_at_call 221; refine (ron_not HR4.out _ (by omega) (fun h => absurd h h1) hs).mono ?_; rintro e w5 ⟨rfl, hrz, huz⟩))
      go_ret
      refine ⟨HU4.out.trans huz, ?_⟩
      rw [HQ.out, HQS.out, rest_end (by omega)]
      exact ⟨j + 1, by omega, by omega, (rest_end (by omega)).symm, rfl, hrz⟩
    obtain ⟨x, hx⟩ : ∃ x, x = s[j + 1] := ⟨_, rfl⟩
    have HRX : Hid (rest s (j + 1) = x :: rest s (j + 1 + 1)) := Lib.hid (by rw [rest_cons h1, hx])
    have CE := Lib.hid (rnext_at HR3.out h1 hx)
    clear hx
    by_cases hsame : x = 34 ∨ x = 92
    · have hes : esc (rest s (j + 1)) = .ok x (rest s (j + 1 + 1)) := by rw [HRX.out]; exact esc_same x _ hsame
      rw [hes] at HQS
      clear hes
      rcases hsame with rfl | rfl
      · go_upto_region 18 with (first | (go_at_call 219; refine CE.out.mono ?_; rintro e w4 ⟨rfl, hb⟩; have hr := HR3.out.below hb; have hp4 := hr.lt; have c1 := hr.cell 1 rfl; have f1 := hr.free 1; have HR4 := Lib.hid hr; have HU4 := Lib.hid (HU3.out.below hb); have HV4 : Hid (BRow w4 w.heap.size (.slice A b.length cap) b) := Lib.hid (own_below HV3.out hb); clear hb hr))
        clear c1 f1
        go_wp2_with (first
        | (refine wpList_append_byte _ rfl (.tmp 70) (.tmp 72) rfl rfl w.heap.size (.slice A b.length cap) b rfl (own_below HV4.out ((Below.refl _ w4).alloc (Nat.le_refl _) (.cells #[byt 34] 5))) w4.heap.size 1 1 [34] rfl rfl (row_new w4 [byt 34] 5) (by simp; omega) (by have := HU4.out.size; simp; omega) ?_
           intro v' w6 hv6 hg6 ho6
           have hr6 := RRd.grown (BlkN.alloc HR4.out (.cells #[byt 34] 5)) hg6 hne3
           have hp6 := hr6.lt
           have c1 := hr6.cell 1 rfl
           have f1 := hr6.free 1
           have HR6 := Lib.hid hr6
           have HV6 := Lib.hid hv6
           have HU6 := Lib.hid (Upd.grown (HU4.out.alloc (.cells #[byt 34] 5)) hg6 (fun g hx => by have := HVJ.out.lt g hx; omega))
           clear hr6 hv6 hg6 ho6))
        go_roundw
        case rel => exact ⟨j + 1 + 1, b ++ [_], by omega, by omega, RRd.adv HR6.out, own_upd HV6.out ((Upd.refl p w6).set 1 _) hp0, by simp; omega, HU6.out.set 1 _, HQS.out.symm⟩
        case measure => refine Nat.lt_of_le_of_lt (Nat.le_of_eq ((RRd.adv HR6.out).pos s.size)) ?_; rw [HRJ.out.pos]; simp only [Bool.false_eq_true, if_false]; omega
      · go_upto_region 18 with (first | (go_at_call 219; refine CE.out.mono ?_; rintro e w4 ⟨rfl, hb⟩; have hr := HR3.out.below hb; have hp4 := hr.lt; have c1 := hr.cell 1 rfl; have f1 := hr.free 1; have HR4 := Lib.hid hr; have HU4 := Lib.hid (HU3.out.below hb); have HV4 : Hid (BRow w4 w.heap.size (.slice A b.length cap) b) := Lib.hid (own_below HV3.out hb); clear hb hr))
        clear c1 f1
        go_wp2_with (first
        | (refine wpList_append_byte _ rfl (.tmp 70) (.tmp 72) rfl rfl w.heap.size (.slice A b.length cap) b rfl (own_below HV4.out ((Below.refl _ w4).alloc (Nat.le_refl _) (.cells #[byt 92] 5))) w4.heap.size 1 1 [92] rfl rfl (row_new w4 [byt 92] 5) (by simp; omega) (by have := HU4.out.size; simp; omega) ?_
           intro v' w6 hv6 hg6 ho6
           have hr6 := RRd.grown (BlkN.alloc HR4.out (.cells #[byt 92] 5)) hg6 hne3
           have hp6 := hr6.lt
           have c1 := hr6.cell 1 rfl
           have f1 := hr6.free 1
           have HR6 := Lib.hid hr6
           have HV6 := Lib.hid hv6
           have HU6 := Lib.hid (Upd.grown (HU4.out.alloc (.cells #[byt 92] 5)) hg6 (fun g hx => by have := HVJ.out.lt g hx; omega))
           clear hr6 hv6 hg6 ho6))
        go_roundw
        case rel => exact ⟨j + 1 + 1, b ++ [_], by omega, by omega, RRd.adv HR6.out, own_upd HV6.out ((Upd.refl p w6).set 1 _) hp0, by simp; omega, HU6.out.set 1 _, HQS.out.symm⟩
        case measure => refine Nat.lt_of_le_of_lt (Nat.le_of_eq ((RRd.adv HR6.out).pos s.size)) ?_; rw [HRJ.out.pos]; simp only [Bool.false_eq_true, if_false]; omega
    have n34 : ((x.toNat : Int) == 34) = false := u8_beq (n := 34) (by decide) (fun e => hsame (.inl e))
    have n92 : ((x.toNat : Int) == 92) = false := u8_beq (n := 92) (by decide) (fun e => hsame (.inr e))
    by_cases h110 : x = 110
    · subst h110
      have hes : esc (rest s (j + 1)) = .ok 10 (rest s (j + 1 + 1)) := by rw [HRX.out]; rfl
      rw [hes] at HQS
      clear hes
      go_upto_region 21 with (first | (go_at_call 219; refine CE.out.mono ?_; rintro e w4 ⟨rfl, hb⟩; have hr := HR3.out.below hb; have hp4 := hr.lt; have c1 := hr.cell 1 rfl; have f1 := hr.free 1; have HR4 := Lib.hid hr; have HU4 := Lib.hid (HU3.out.below hb); have HV4 : Hid (BRow w4 w.heap.size (.slice A b.length cap) b) := Lib.hid (own_below HV3.out hb); clear hb hr))
      clear c1 f1
      go_wp2_with (first
        | (refine wpList_append_byte _ rfl (.tmp 83) (.tmp 84) rfl rfl w.heap.size (.slice A b.length cap) b rfl (own_below HV4.out ((Below.refl _ w4).alloc (Nat.le_refl _) (.cells #[byt 10] 5))) w4.heap.size 1 1 [10] rfl rfl (row_new w4 [byt 10] 5) (by simp; omega) (by have := HU4.out.size; simp; omega) ?_
           intro v' w6 hv6 hg6 ho6
           have hr6 := RRd.grown (BlkN.alloc HR4.out (.cells #[byt 10] 5)) hg6 hne3
           have hp6 := hr6.lt
           have c1 := hr6.cell 1 rfl
           have f1 := hr6.free 1
           have HR6 := Lib.hid hr6
           have HV6 := Lib.hid hv6
           have HU6 := Lib.hid (Upd.grown (HU4.out.alloc (.cells #[byt 10] 5)) hg6 (fun g hx => by have := HVJ.out.lt g hx; omega))
           clear hr6 hv6 hg6 ho6))
      go_roundw
      case rel => exact ⟨j + 1 + 1, b ++ [10], by omega, by omega, RRd.adv HR6.out, own_upd HV6.out ((Upd.refl p w6).set 1 _) hp0, by simp; omega, HU6.out.set 1 _, HQS.out.symm⟩
      case measure => refine Nat.lt_of_le_of_lt (Nat.le_of_eq ((RRd.adv HR6.out).pos s.size)) ?_; rw [HRJ.out.pos]; simp only [Bool.false_eq_true, if_false]; omega
    have n110 : ((x.toNat : Int) == 110) = false := u8_beq (n := 110) (by decide) h110
    by_cases h120 : x = 120
    rotate_left
    · have n120 : ((x.toNat : Int) == 120) = false := u8_beq (n := 120) (by decide) h120
      have hes : esc (rest s (j + 1)) = .no (rest s (j + 1)) := by rw [HRX.out]; exact esc_other x _ (fun e => hsame (.inl e)) (fun e => hsame (.inr e)) h110 h120
      rw [hes] at HQS
      clear hes
      go_wp2_with (first | (go_at_call 219; refine CE.out.mono ?_; rintro e w4 ⟨rfl, hb⟩; have hr := HR3.out.below hb; have hp4 := hr.lt; have c1 := hr.cell 1 rfl; have f1 := hr.free 1; have HR4 := Lib.hid hr; have HU4 := Lib.hid (HU3.out.below hb); have HV4 : Hid (BRow w4 w.heap.size (.slice A b.length cap) b) := Lib.hid (own_below HV3.out hb); clear hb hr) | (go_at_call 221; refine (ron_not HR4.out _ (by omega) (fun _ => rfl) hs).mono ?_; rintro e w5 ⟨rfl, hrz, huz⟩))
      go_ret
      refine ⟨HU4.out.trans huz, ?_⟩
      rw [HQ.out, HQS.out]
      exact ⟨j + 1, by omega, by omega, rfl, rfl, hrz⟩
    subst h120
    rw [HRX.out] at HQS
    go_upto_region 25 with (first | (go_at_call 219; refine CE.out.mono ?_; rintro e w4 ⟨rfl, hb⟩; have hr := HR3.out.below hb; have hp4 := hr.lt; have c1 := hr.cell 1 rfl; have f1 := hr.free 1; have HR4 := Lib.hid hr; have HU4 := Lib.hid (HU3.out.below hb); have HV4 : Hid (BRow w4 w.heap.size (.slice A b.length cap) b) := Lib.hid (own_below HV3.out hb); clear hb hr) | (go_at_call 221; refine (ron_yes HR4.out h1 hs).mono ?_; rintro e w5 ⟨rfl, hr, hu⟩; have HR5 := Lib.hid hr; have HU5 := Lib.hid (HU4.out.trans hu); have HV5 : Hid (BRow w5 w.heap.size (.slice A b.length cap) b) := Lib.hid (own_upd HV4.out hu hp0); clear hr hu))
    clear c1 f1 CE
    by_cases h2 : j + 1 + 1 < s.size
    rotate_left
    · rw [rest_end (i := j + 1 + 1) (by omega), esc_x0] at HQS
      have CE := Lib.hid (rnext_end HR5.out (by omega))
      go_wp2_with (first | (go_at_call 219; refine CE.out.mono ?_; rintro e w6 ⟨rfl, hb⟩; have hr := HR5.out.below hb; have hp6 := hr.lt; have c1 := hr.cell 1 rfl; have f1 := hr.free 1; have HR6 := Lib.hid hr; have HU6 := Lib.hid (HU5.out.below hb); have HV6 : Hid (BRow w6 w.heap.size (.slice A b.length cap) b) := Lib.hid (own_below HV5.out hb); clear hb hr) | (go_at_call 222; refine (low_zero16 _).mono ?_; rintro e w0 ⟨rfl, hw0⟩; rw [hw0]; clear hw0) | (go_at_call 221; refine (ron_not HR6.out _ (by omega) (fun h => absurd h h2) hs).mono ?_; rintro e w7 ⟨rfl, hrz, huz⟩))
      go_ret
      refine ⟨HU6.out.trans huz, ?_⟩
      rw [HQ.out, HQS.out]
      exact ⟨j + 1 + 1, by omega, by omega, (rest_end (by omega)).symm, rfl, hrz⟩
    obtain ⟨y, hy⟩ : ∃ y, y = s[j + 1 + 1] := ⟨_, rfl⟩
    have HRY : Hid (rest s (j + 1 + 1) = y :: rest s (j + 1 + 1 + 1)) := Lib.hid (by rw [rest_cons h2, hy])
    have CE := Lib.hid (rnext_at HR5.out h2 hy)
    clear hy
    rw [HRY.out] at HQS
    cases hH : hexD y with
    | none =>
      rw [esc_x1 _ _ hH] at HQS
      have CL := Lib.hid (low_none16 hH)
      go_wp2_with (first | (go_at_call 219; refine CE.out.mono ?_; rintro e w6 ⟨rfl, hb⟩; have hr := HR5.out.below hb; have hp6 := hr.lt; have c1 := hr.cell 1 rfl; have f1 := hr.free 1; have HR6 := Lib.hid hr; have HU6 := Lib.hid (HU5.out.below hb); have HV6 : Hid (BRow w6 w.heap.size (.slice A b.length cap) b) := Lib.hid (own_below HV5.out hb); clear hb hr) | (go_at_call 222; refine (CL.out _).mono ?_; rintro e w0 ⟨rfl, hw0⟩; rw [hw0]; clear hw0) | (go_at_call 221; refine (ron_not HR6.out _ (by omega) (fun _ => rfl) hs).mono ?_; rintro e w7 ⟨rfl, hrz, huz⟩))
      go_ret
      refine ⟨HU6.out.trans huz, ?_⟩
      rw [HQ.out, HQS.out]
      exact ⟨j + 1 + 1, by omega, by omega, HRY.out.symm, rfl, hrz⟩
    | some a =>
      have CL := Lib.hid (low_some hH)
      have ha := (lowN_lt hH).2
      have HA := Lib.hid hH
      clear hH
      by_cases hmid : 2 ≤ a ∧ a ≤ 6
      · rw [esc_x2 _ _ a HA.out hmid] at HQS
        have b1 : decide ((a : Int) < 2) = false := decide_eq_false (by omega)
        have b2 : decide ((7 : Int) ≤ a) = false := decide_eq_false (by omega)
        go_wp2_with (first | (go_at_call 219; refine CE.out.mono ?_; rintro e w6 ⟨rfl, hb⟩; have hr := HR5.out.below hb; have hp6 := hr.lt; have c1 := hr.cell 1 rfl; have f1 := hr.free 1; have HR6 := Lib.hid hr; have HU6 := Lib.hid (HU5.out.below hb); have HV6 : Hid (BRow w6 w.heap.size (.slice A b.length cap) b) := Lib.hid (own_below HV5.out hb); clear hb hr) | (go_at_call 222; refine (CL.out _).mono ?_; rintro e w0 ⟨rfl, hw0⟩; rw [hw0]; clear hw0) | (go_at_call 221; refine (ron_not HR6.out _ (by omega) (fun _ => rfl) hs).mono ?_; rintro e w7 ⟨rfl, hrz, huz⟩))
        go_ret
        refine ⟨HU6.out.trans huz, ?_⟩
        rw [HQ.out, HQS.out]
        exact ⟨j + 1 + 1, by omega, by omega, HRY.out.symm, rfl, hrz⟩
      have hab : a < 2 ∨ 7 ≤ a := by omega
      go_upto_region 26 with (first | (go_at_call 219; refine CE.out.mono ?_; rintro e w6 ⟨rfl, hb⟩; have hr := HR5.out.below hb; have hp6 := hr.lt; have c1 := hr.cell 1 rfl; have f1 := hr.free 1; have HR6 := Lib.hid hr; have HU6 := Lib.hid (HU5.out.below hb); have HV6 : Hid (BRow w6 w.heap.size (.slice A b.length cap) b) := Lib.hid (own_below HV5.out hb); clear hb hr) | (go_at_call 222; refine (CL.out _).mono ?_; rintro e w0 ⟨rfl, hw0⟩; rw [hw0]; clear hw0))
      clear c1 f1 CE CL
      rcases hab with hab | hab
      · have b1 : decide ((a : Int) < 2) = true := decide_eq_true (by omega)
        go_upto_region 28 with (first | (go_at_call 221; refine (ron_yes HR6.out h2 hs).mono ?_; rintro e w7 ⟨rfl, hr, hu⟩; have HR7 := Lib.hid hr; have HU7 := Lib.hid (HU6.out.trans hu); have HV7 : Hid (BRow w7 w.heap.size (.slice A b.length cap) b) := Lib.hid (own_upd HV6.out hu hp0); clear hr hu))
        by_cases h3 : j + 1 + 1 + 1 < s.size
        rotate_left
        · rw [rest_end (i := j + 1 + 1 + 1) (by omega), esc_x3 _ a HA.out hmid] at HQS
          have CE := Lib.hid (rnext_end HR7.out (by omega))
          go_wp2_with (first | (go_at_call 219; refine CE.out.mono ?_; rintro e w8 ⟨rfl, hb⟩; have hr := HR7.out.below hb; have hp8 := hr.lt; have c1 := hr.cell 1 rfl; have f1 := hr.free 1; have HR8 := Lib.hid hr; have HU8 := Lib.hid (HU7.out.below hb); have HV8 : Hid (BRow w8 w.heap.size (.slice A b.length cap) b) := Lib.hid (own_below HV7.out hb); clear hb hr) | (go_at_call 222; refine (low_zero16 _).mono ?_; rintro e w0 ⟨rfl, hw0⟩; rw [hw0]; clear hw0) | (go_at_call 221; refine (ron_not HR8.out _ (by omega) (fun h => absurd h h3) hs).mono ?_; rintro e w8 ⟨rfl, hrz, huz⟩))
          go_ret
          refine ⟨HU8.out.trans huz, ?_⟩
          rw [HQ.out, HQS.out]
          exact ⟨j + 1 + 1 + 1, by omega, by omega, (rest_end (by omega)).symm, rfl, hrz⟩
        obtain ⟨z, hz⟩ : ∃ z, z = s[j + 1 + 1 + 1] := ⟨_, rfl⟩
        have HRZ : Hid (rest s (j + 1 + 1 + 1) = z :: rest s (j + 1 + 1 + 1 + 1)) := Lib.hid (by rw [rest_cons h3, hz])
        have CE := Lib.hid (rnext_at HR7.out h3 hz)
        clear hz
        rw [HRZ.out] at HQS
        cases hD : hexD z with
        | none =>
          rw [esc_x4 _ _ _ a HA.out hmid hD] at HQS
          have CL := Lib.hid (low_none16 hD)
          go_wp2_with (first | (go_at_call 219; refine CE.out.mono ?_; rintro e w8 ⟨rfl, hb⟩; have hr := HR7.out.below hb; have hp8 := hr.lt; have c1 := hr.cell 1 rfl; have f1 := hr.free 1; have HR8 := Lib.hid hr; have HU8 := Lib.hid (HU7.out.below hb); have HV8 : Hid (BRow w8 w.heap.size (.slice A b.length cap) b) := Lib.hid (own_below HV7.out hb); clear hb hr) | (go_at_call 222; refine (CL.out _).mono ?_; rintro e w0 ⟨rfl, hw0⟩; rw [hw0]; clear hw0) | (go_at_call 221; refine (ron_not HR8.out _ (by omega) (fun _ => rfl) hs).mono ?_; rintro e w8 ⟨rfl, hrz, huz⟩))
          go_ret
          refine ⟨HU8.out.trans huz, ?_⟩
          rw [HQ.out, HQS.out]
          exact ⟨j + 1 + 1 + 1, by omega, by omega, HRZ.out.symm, rfl, hrz⟩
        | some d =>
          have CL := Lib.hid (low_some hD)
          have hd16 := (lowN_lt hD).2
          have HD := Lib.hid hD
          clear hD
          have b4 : decide ((d : Int) < 16) = true := decide_eq_true (by omega)
          by_cases hbad : (a = 0 ∧ d = 10) ∨ (a = 7 ∧ d ≠ 15)
          · rw [esc_x5 _ _ _ a d HA.out hmid HD.out hbad] at HQS
            have hk : (16 * (a : Int) + d != 10) = false ∨ ((16 * (a : Int) + d != 10) = true ∧ decide (16 * (a : Int) + d < 32) = false ∧ decide (126 < 16 * (a : Int) + d) = false) := by
              by_cases hk : 16 * (a : Int) + d = 10
              · left; rw [hk]; rfl
              · right; exact ⟨by simpa using hk, decide_eq_false (by omega), decide_eq_false (by omega)⟩
            rcases hk with k1 | ⟨k1, k2, k3⟩
            all_goals
              go_wp2_with (first | (go_at_call 219; refine CE.out.mono ?_; rintro e w8 ⟨rfl, hb⟩; have hr := HR7.out.below hb; have hp8 := hr.lt; have c1 := hr.cell 1 rfl; have f1 := hr.free 1; have HR8 := Lib.hid hr; have HU8 := Lib.hid (HU7.out.below hb); have HV8 : Hid (BRow w8 w.heap.size (.slice A b.length cap) b) := Lib.hid (own_below HV7.out hb); clear hb hr) | (go_at_call 222; refine (CL.out _).mono ?_; rintro e w0 ⟨rfl, hw0⟩; rw [hw0]; clear hw0) | (go_at_call 221; refine (ron_not HR8.out _ (by omega) (fun _ => rfl) hs).mono ?_; rintro e w8 ⟨rfl, hrz, huz⟩))
              go_ret
              refine ⟨HU8.out.trans huz, ?_⟩
              rw [HQ.out, HQS.out]
              exact ⟨j + 1 + 1 + 1, by omega, by omega, HRZ.out.symm, rfl, hrz⟩
          rw [esc_x6 _ _ _ a d HA.out hmid HD.out hbad] at HQS
          have k1 : (16 * (a : Int) + d != 10) = true := by simp; omega
          have hk : decide (16 * (a : Int) + d < 32) = true ∨ (decide (16 * (a : Int) + d < 32) = false ∧ decide (126 < 16 * (a : Int) + d) = true) := by
            by_cases hk : 16 * (a : Int) + d < 32
            · left; exact decide_eq_true hk
            · right; exact ⟨decide_eq_false hk, decide_eq_true (by omega)⟩
          obtain ⟨x, hx⟩ : ∃ x, x = UInt8.ofNat (a * 16 + d) := ⟨_, rfl⟩
          rw [← hx] at HQS
          have HX : Hid (16 * (a : Int) + d = (x.toNat : Nat)) := Lib.hid (by rw [hx, UInt8.toNat_ofNat']; omega)
          clear hx
          rcases hk with k2 | ⟨k2, k3⟩
          all_goals
            go_upto_region 32 with (first | (go_at_call 219; refine CE.out.mono ?_; rintro e w8 ⟨rfl, hb⟩; have hr := HR7.out.below hb; have hp8 := hr.lt; have c1 := hr.cell 1 rfl; have f1 := hr.free 1; have HR8 := Lib.hid hr; have HU8 := Lib.hid (HU7.out.below hb); have HV8 : Hid (BRow w8 w.heap.size (.slice A b.length cap) b) := Lib.hid (own_below HV7.out hb); clear hb hr) | (go_at_call 222; refine (CL.out _).mono ?_; rintro e w0 ⟨rfl, hw0⟩; rw [hw0]; clear hw0) | (go_at_call 221; refine (ron_yes HR8.out h3 hs).mono ?_; rintro e w9 ⟨rfl, hr, hu⟩; have HR9 := Lib.hid hr; have HU9 := Lib.hid (HU8.out.trans hu); have HV9 : Hid (BRow w9 w.heap.size (.slice A b.length cap) b) := Lib.hid (own_upd HV8.out hu hp0); clear hr hu))
            clear c1 f1
            go_wp2_with (first
            | (rw [HX.out]; refine wpList_append_byte _ rfl (.tmp 138) (.tmp 141) rfl rfl w.heap.size (.slice A b.length cap) b rfl (own_below HV9.out ((Below.refl _ w9).alloc (Nat.le_refl _) (.cells #[byt x] 5))) w9.heap.size 1 1 [x] rfl rfl (row_new w9 [byt x] 5) (by simp; omega) (by have := HU9.out.size; simp; omega) ?_
               intro v' w10 hv10 hg10 ho10
               have hr10 := RRd.grown (BlkN.alloc HR9.out (.cells #[byt x] 5)) hg10 hne3
               have hp10 := hr10.lt
               have c1 := hr10.cell 1 rfl
               have f1 := hr10.free 1
               have HR10 := Lib.hid hr10
               have HV10 := Lib.hid hv10
               have HU10 := Lib.hid (Upd.grown (HU9.out.alloc (.cells #[byt x] 5)) hg10 (fun g hx => by have := HVJ.out.lt g hx; omega))
               clear hr10 hv10 hg10 ho10))
            go_roundw
            case rel => exact ⟨j + 1 + 1 + 1 + 1, b ++ [_], by omega, by omega, HR10.out, HV10.out, by simp; omega, HU10.out, HQS.out.symm⟩
            case measure => rw [HR10.out.pos, HRJ.out.pos]; simp only [Bool.false_eq_true, if_false]; omega
      · have b1 : decide ((a : Int) < 2) = false := decide_eq_false (by omega)
        have b2 : decide ((7 : Int) ≤ a) = true := decide_eq_true (by omega)
        have b3 : decide ((a : Int) < 16) = true := decide_eq_true (by omega)
        go_upto_region 28 with (first | (go_at_call 221; refine (ron_yes HR6.out h2 hs).mono ?_; rintro e w7 ⟨rfl, hr, hu⟩; have HR7 := Lib.hid hr; have HU7 := Lib.hid (HU6.out.trans hu); have HV7 : Hid (BRow w7 w.heap.size (.slice A b.length cap) b) := Lib.hid (own_upd HV6.out hu hp0); clear hr hu))
        by_cases h3 : j + 1 + 1 + 1 < s.size
        rotate_left
        · rw [rest_end (i := j + 1 + 1 + 1) (by omega), esc_x3 _ a HA.out hmid] at HQS
          have CE := Lib.hid (rnext_end HR7.out (by omega))
          go_wp2_with (first | (go_at_call 219; refine CE.out.mono ?_; rintro e w8 ⟨rfl, hb⟩; have hr := HR7.out.below hb; have hp8 := hr.lt; have c1 := hr.cell 1 rfl; have f1 := hr.free 1; have HR8 := Lib.hid hr; have HU8 := Lib.hid (HU7.out.below hb); have HV8 : Hid (BRow w8 w.heap.size (.slice A b.length cap) b) := Lib.hid (own_below HV7.out hb); clear hb hr) | (go_at_call 222; refine (low_zero16 _).mono ?_; rintro e w0 ⟨rfl, hw0⟩; rw [hw0]; clear hw0) | (go_at_call 221; refine (ron_not HR8.out _ (by omega) (fun h => absurd h h3) hs).mono ?_; rintro e w8 ⟨rfl, hrz, huz⟩))
          go_ret
          refine ⟨HU8.out.trans huz, ?_⟩
          rw [HQ.out, HQS.out]
          exact ⟨j + 1 + 1 + 1, by omega, by omega, (rest_end (by omega)).symm, rfl, hrz⟩
        obtain ⟨z, hz⟩ : ∃ z, z = s[j + 1 + 1 + 1] := ⟨_, rfl⟩
        have HRZ : Hid (rest s (j + 1 + 1 + 1) = z :: rest s (j + 1 + 1 + 1 + 1)) := Lib.hid (by rw [rest_cons h3, hz])
        have CE := Lib.hid (rnext_at HR7.out h3 hz)
        clear hz
        rw [HRZ.out] at HQS
        cases hD : hexD z with
        | none =>
          rw [esc_x4 _ _ _ a HA.out hmid hD] at HQS
          have CL := Lib.hid (low_none16 hD)
          go_wp2_with (first | (go_at_call 219; refine CE.out.mono ?_; rintro e w8 ⟨rfl, hb⟩; have hr := HR7.out.below hb; have hp8 := hr.lt; have c1 := hr.cell 1 rfl; have f1 := hr.free 1; have HR8 := Lib.hid hr; have HU8 := Lib.hid (HU7.out.below hb); have HV8 : Hid (BRow w8 w.heap.size (.slice A b.length cap) b) := Lib.hid (own_below HV7.out hb); clear hb hr) | (go_at_call 222; refine (CL.out _).mono ?_; rintro e w0 ⟨rfl, hw0⟩; rw [hw0]; clear hw0) | (go_at_call 221; refine (ron_not HR8.out _ (by omega) (fun _ => rfl) hs).mono ?_; rintro e w8 ⟨rfl, hrz, huz⟩))
          go_ret
          refine ⟨HU8.out.trans huz, ?_⟩
          rw [HQ.out, HQS.out]
          exact ⟨j + 1 + 1 + 1, by omega, by omega, HRZ.out.symm, rfl, hrz⟩
        | some d =>
          have CL := Lib.hid (low_some hD)
          have hd16 := (lowN_lt hD).2
          have HD := Lib.hid hD
          clear hD
          have b4 : decide ((d : Int) < 16) = true := decide_eq_true (by omega)
          by_cases hbad : (a = 0 ∧ d = 10) ∨ (a = 7 ∧ d ≠ 15)
          · rw [esc_x5 _ _ _ a d HA.out hmid HD.out hbad] at HQS
            have hk : (16 * (a : Int) + d != 10) = false ∨ ((16 * (a : Int) + d != 10) = true ∧ decide (16 * (a : Int) + d < 32) = false ∧ decide (126 < 16 * (a : Int) + d) = false) := by
              by_cases hk : 16 * (a : Int) + d = 10
              · left; rw [hk]; rfl
              · right; exact ⟨by simpa using hk, decide_eq_false (by omega), decide_eq_false (by omega)⟩
            rcases hk with k1 | ⟨k1, k2, k3⟩
            all_goals
              go_wp2_with (first | (go_at_call 219; refine CE.out.mono ?_; rintro e w8 ⟨rfl, hb⟩; have hr := HR7.out.below hb; have hp8 := hr.lt; have c1 := hr.cell 1 rfl; have f1 := hr.free 1; have HR8 := Lib.hid hr; have HU8 := Lib.hid (HU7.out.below hb); have HV8 : Hid (BRow w8 w.heap.size (.slice A b.length cap) b) := Lib.hid (own_below HV7.out hb); clear hb hr) | (go_at_call 222; refine (CL.out _).mono ?_; rintro e w0 ⟨rfl, hw0⟩; rw [hw0]; clear hw0) | (go_at_call 221; refine (ron_not HR8.out _ (by omega) (fun _ => rfl) hs).mono ?_; rintro e w8 ⟨rfl, hrz, huz⟩))
              go_ret
              refine ⟨HU8.out.trans huz, ?_⟩
              rw [HQ.out, HQS.out]
              exact ⟨j + 1 + 1 + 1, by omega, by omega, HRZ.out.symm, rfl, hrz⟩
          rw [esc_x6 _ _ _ a d HA.out hmid HD.out hbad] at HQS
          have k1 : (16 * (a : Int) + d != 10) = true := by simp; omega
          have hk : decide (16 * (a : Int) + d < 32) = true ∨ (decide (16 * (a : Int) + d < 32) = false ∧ decide (126 < 16 * (a : Int) + d) = true) := by
            by_cases hk : 16 * (a : Int) + d < 32
            · left; exact decide_eq_true hk
            · right; exact ⟨decide_eq_false hk, decide_eq_true (by omega)⟩
          obtain ⟨x, hx⟩ : ∃ x, x = UInt8.ofNat (a * 16 + d) := ⟨_, rfl⟩
          rw [← hx] at HQS
          have HX : Hid (16 * (a : Int) + d = (x.toNat : Nat)) := Lib.hid (by rw [hx, UInt8.toNat_ofNat']; omega)
          clear hx
          rcases hk with k2 | ⟨k2, k3⟩
          all_goals
            go_upto_region 32 with (first | (go_at_call 219; refine CE.out.mono ?_; rintro e w8 ⟨rfl, hb⟩; have hr := HR7.out.below hb; have hp8 := hr.lt; have c1 := hr.cell 1 rfl; have f1 := hr.free 1; have HR8 := Lib.hid hr; have HU8 := Lib.hid (HU7.out.below hb); have HV8 : Hid (BRow w8 w.heap.size (.slice A b.length cap) b) := Lib.hid (own_below HV7.out hb); clear hb hr) | (go_at_call 222; refine (CL.out _).mono ?_; rintro e w0 ⟨rfl, hw0⟩; rw [hw0]; clear hw0) | (go_at_call 221; refine (ron_yes HR8.out h3 hs).mono ?_; rintro e w9 ⟨rfl, hr, hu⟩; have HR9 := Lib.hid hr; have HU9 := Lib.hid (HU8.out.trans hu); have HV9 : Hid (BRow w9 w.heap.size (.slice A b.length cap) b) := Lib.hid (own_upd HV8.out hu hp0); clear hr hu))
            clear c1 f1
            go_wp2_with (first
            | (rw [HX.out]; refine wpList_append_byte _ rfl (.tmp 138) (.tmp 141) rfl rfl w.heap.size (.slice A b.length cap) b rfl (own_below HV9.out ((Below.refl _ w9).alloc (Nat.le_refl _) (.cells #[byt x] 5))) w9.heap.size 1 1 [x] rfl rfl (row_new w9 [byt x] 5) (by simp; omega) (by have := HU9.out.size; simp; omega) ?_
               intro v' w10 hv10 hg10 ho10
               have hr10 := RRd.grown (BlkN.alloc HR9.out (.cells #[byt x] 5)) hg10 hne3
               have hp10 := hr10.lt
               have c1 := hr10.cell 1 rfl
               have f1 := hr10.free 1
               have HR10 := Lib.hid hr10
               have HV10 := Lib.hid hv10
               have HU10 := Lib.hid (Upd.grown (HU9.out.alloc (.cells #[byt x] 5)) hg10 (fun g hx => by have := HVJ.out.lt g hx; omega))
               clear hr10 hv10 hg10 ho10))
            go_roundw
            case rel => exact ⟨j + 1 + 1 + 1 + 1, b ++ [_], by omega, by omega, HR10.out, HV10.out, by simp; omega, HU10.out, HQS.out.symm⟩
            case measure => rw [HR10.out.pos, HRJ.out.pos]; simp only [Bool.false_eq_true, if_false]; omega
end Go.Proofs.YtjmelamllapmiaaGreatDoor
