/- The document's reader: count. -/
import Derived.Test.YtjmelamllapmiaaGreatDoorV
import Derived.Test.YtjmelamllapmiaaGreatDoorSb
namespace Go.Proofs.YtjmelamllapmiaaGreatDoor
open Go.RowKit

theorem cntL_end (M : Nat) (n : Nat) : cntL M [] n = (n, []) := by rw [cntL]
theorem cntL_other {M : Nat} {c : UInt8} {t : L8} {n : Nat} (hd : ¬ digB c = true) : cntL M (c :: t) n = (n, c :: t) := by rw [cntL, if_neg hd]
theorem cntL_bad {M : Nat} {c : UInt8} {t : L8} {n : Nat} (hd : digB c = true) {q : Nat} (hq : q = c.toNat - 48) (h : (M - q) / 10 < n) : cntL M (c :: t) n = (n, c :: t) := by
  subst hq
  rw [cntL, if_pos hd, if_pos h]
theorem cntL_step {M : Nat} {c : UInt8} {t : L8} {n : Nat} (hd : digB c = true) {q : Nat} (hq : q = c.toNat - 48) (h : ¬ (M - q) / 10 < n) : cntL M (c :: t) n = cntL M t (n * 10 + q) := by
  subst hq
  rw [cntL, if_pos hd, if_neg h]
theorem RRd.at_ {w : World} {p : Nat} {s : ByteArray} {i : Nat} {st : Bool} {room : Int} (h : RRd w p s i st room) : posOf w p = i := by
  have := h.cell 1 (v := .int .i64 i) rfl
  simp [posOf, this]
/-- What count answers. -/
def RcP (limit : Nat) (least : Bool) (s : ByteArray) (i : Nat) (room : Int) (p : Nat) (e : Ending) (w' : World) : Prop :=
  ∃ (n j : Nat) (st : Bool), e = .returned (.int .u64 (n : Nat)) ∧ n ≤ limit ∧ i ≤ j ∧ j ≤ s.size ∧ cntV limit least (rest s i) = (n, rest s j, st) ∧ RRd w' p s j st room
set_option maxRecDepth 100000 in
set_option maxHeartbeats 4000000 in
theorem rcount_pos (s : ByteArray) (i : Nat) (room : Int) (w : World) (p : Nat) (h : RRd w p s i false room) (hi : i ≤ s.size) (hs : s.size ≤ 140737488351232) :
    Calls Tryz.prog 220 #[.pointer (some ⟨p, 0, Option.none⟩), .int .u64 9223372036854775807, .int .i64 0] w fun e w' => Upd p w w' ∧ RcP 9223372036854775807 false s i room p e w' := by
  have HR := Lib.hid h
  have hp0 := h.lt
  clear h
  obtain ⟨c, hc⟩ : ∃ c : UInt8, c = nxS false (rest s i) := ⟨_, rfl⟩
  have C : Hid (Calls Tryz.prog 219 #[.pointer (some ⟨p, 0, Option.none⟩)] w fun e w' => e = .returned (.int .u8 (c.toNat : Nat)) ∧ Below w.heap.size w w') := Lib.hid (by rw [hc]; exact rnext_any s i false room w p HR.out)
  have hc0 : c.toNat < 256 := c.toNat_lt
  by_cases hA : digB c = true ∧ (c ≠ 48 ∨ false = false)
  rotate_left
  · have HV : Hid (cntV 9223372036854775807 false (rest s i) = (0, rest s i, true)) := Lib.hid (by
      by_cases hh : i < s.size
      · have : c = s[i] := by rw [hc, rest_cons hh]; rfl
        rw [rest_cons hh, ← this, cntV_cons, if_neg hA]
      · rw [rest_end (by omega)]; rfl)
    have hcase : decide ((48 : Int) ≤ (c.toNat : Nat)) = false ∨ (decide ((48 : Int) ≤ (c.toNat : Nat)) = true ∧ decide ((c.toNat : Int) ≤ 57) = false) := by
      by_cases h48 : (48 : Int) ≤ (c.toNat : Nat)
      · by_cases h57 : (c.toNat : Int) ≤ 57
        · exact absurd ⟨by simp only [digB, Bool.and_eq_true, decide_eq_true_eq]; omega, .inr rfl⟩ hA
        · exact .inr ⟨decide_eq_true h48, decide_eq_false h57⟩
      · exact .inl (decide_eq_false h48)
    clear hc hA
    rcases hcase with b1 | ⟨b1, b2⟩
    all_goals
      go_enter Tryz.func220, Tryz.ntmps220
      go_wp2_with (first | (go_at_call 219; refine C.out.mono ?_; rintro e w1 ⟨rfl, hb1⟩; have HB1 := Lib.hid hb1; clear hb1) | (go_at_call 221; refine (ron_not (HR.out.below HB1.out) _ hi (fun _ => rfl) hs).mono ?_; rintro e w2 ⟨rfl, hr2, hu2⟩))
      go_ret
      exact ⟨(Upd.ofBelow HB1.out p).trans hu2, 0, i, true, rfl, by decide, Nat.le_refl _, hi, HV.out, hr2⟩
  obtain ⟨hdig, hA2⟩ := hA
  have h48 : 48 ≤ c.toNat ∧ c.toNat ≤ 57 := by simpa [digB] using hdig
  have hh : i < s.size := by
    by_cases hh : i < s.size
    · exact hh
    · exfalso
      rw [rest_end (by omega)] at hc
      rw [hc] at h48
      exact absurd h48.1 (by decide)
  have hci : c = s[i] := by rw [hc, rest_cons hh]; rfl
  have b1 : decide ((48 : Int) ≤ (c.toNat : Nat)) = true := decide_eq_true (by omega)
  have b2 : decide ((c.toNat : Int) ≤ 57) = true := decide_eq_true (by omega)
  clear hc
  by_cases hz : c = 48
  · have HV : Hid (cntV 9223372036854775807 false (rest s i) = (0, rest s (i + 1), false)) := Lib.hid (by rw [rest_cons hh, ← hci, cntV_cons, if_pos ⟨hdig, hA2⟩, if_pos hz])
    clear hci hA2 hdig
    subst hz
    go_enter Tryz.func220, Tryz.ntmps220
    go_wp2_with (first | (go_at_call 219; refine C.out.mono ?_; rintro e w1 ⟨rfl, hb1⟩; have HB1 := Lib.hid hb1; clear hb1) | (go_at_call 221; refine (ron_yes (HR.out.below HB1.out) hh hs).mono ?_; rintro e w2 ⟨rfl, hr2, hu2⟩))
    go_ret
    exact ⟨(Upd.ofBelow HB1.out p).trans hu2, 0, i + 1, false, rfl, by decide, by omega, by omega, HV.out, hr2⟩
  have b3 : ((c.toNat : Int) != 48) = true := u8_bne (n := 48) (by decide) hz
  have b4 : ((c.toNat : Int) == 48) = false := u8_beq (n := 48) (by decide) hz
  obtain ⟨q0, hq0⟩ : ∃ q0, q0 = c.toNat - 48 := ⟨_, rfl⟩
  obtain ⟨R, hR⟩ : ∃ R, R = cntL 9223372036854775807 (rest s (i + 1)) q0 := ⟨_, rfl⟩
  have HV : Hid (cntV 9223372036854775807 false (rest s i) = (R.1, R.2, false)) := Lib.hid (by rw [rest_cons hh, ← hci, cntV_cons, if_pos ⟨hdig, hA2⟩, if_neg hz, hR, hq0])
  have HRR := Lib.hid hR
  have hqi : ((c.toNat : Int) - 48) = (q0 : Int) := by omega
  have hqi2 : ((c.toNat : Int) - 48) % 256 = (q0 : Int) := by omega
  have hq9 : q0 ≤ 9 := by omega
  clear hR hci hA2 hdig hq0
  go_enter Tryz.func220, Tryz.ntmps220
  go_upto_region 6 with (first | (go_at_call 219; refine C.out.mono ?_; rintro e w1 ⟨rfl, hb1⟩; have HB1 := Lib.hid hb1; clear hb1) | (go_at_call 221; refine (ron_yes (HR.out.below HB1.out) hh hs).mono ?_; rintro e w2 ⟨rfl, hr2, hu2⟩; have HR2 := Lib.hid hr2; have HU2 := Lib.hid ((Upd.ofBelow HB1.out p).trans hu2); clear hr2 hu2))
  first | rw [hqi2] | rw [hqi] | skip
  clear hqi hqi2 C b1 b2 b3 b4
  go_loopw [7, 9, 10] (fun _ n _ wr => ∃ (j m : Nat), n = .int .u64 (m : Nat) ∧ i ≤ j ∧ j ≤ s.size ∧ m ≤ 9223372036854775807 ∧ RRd wr p s j false room ∧ Upd p w wr ∧ cntL 9223372036854775807 (rest s j) m = R) (fun _ _ _ wr => s.size - posOf wr p)
  case atStart => exact ⟨i + 1, q0, rfl, by omega, by omega, by omega, HR2.out, HU2.out, HRR.out.symm⟩
  case round =>
    obtain ⟨j, m, rfl, hij, hj, hmM, hr, hu, hq⟩ := hrel
    have HRJ := Lib.hid hr
    have HUJ := Lib.hid hu
    have HQJ := Lib.hid hq
    clear hr hu hq
    by_cases hjl : j < s.size
    rotate_left
    · have CD := Lib.hid (rnext_end HRJ.out (by omega))
      go_wp2_with (first | (go_at_call 219; refine CD.out.mono ?_; rintro e w3 ⟨rfl, hb3⟩))
      go_ret
      refine ⟨HUJ.out.below hb3, m, j, false, rfl, hmM, hij, hj, ?_, HRJ.out.below hb3⟩
      rw [HV.out, ← HQJ.out, rest_end (by omega), cntL_end]
    obtain ⟨d, hd⟩ : ∃ d, d = s[j] := ⟨_, rfl⟩
    have HRD : Hid (rest s j = d :: rest s (j + 1)) := Lib.hid (by rw [rest_cons hjl, hd])
    have CD := Lib.hid (rnext_at HRJ.out hjl hd)
    clear hd
    have hd0 : d.toNat < 256 := d.toNat_lt
    by_cases hdig : digB d = true
    rotate_left
    · have hcase : decide ((d.toNat : Int) < 48) = true ∨ (decide ((d.toNat : Int) < 48) = false ∧ decide ((57 : Int) < d.toNat) = true) := by
        simp only [digB, Bool.and_eq_true, decide_eq_true_eq] at hdig
        by_cases h48 : (d.toNat : Int) < 48
        · exact .inl (decide_eq_true h48)
        · exact .inr ⟨decide_eq_false h48, decide_eq_true (by omega)⟩
      rcases hcase with b1 | ⟨b1, b2⟩
      all_goals
        go_wp2_with (first | (go_at_call 219; refine CD.out.mono ?_; rintro e w3 ⟨rfl, hb3⟩))
        go_ret
        refine ⟨HUJ.out.below hb3, m, j, false, rfl, hmM, hij, hj, ?_, HRJ.out.below hb3⟩
        rw [HV.out, ← HQJ.out, HRD.out, cntL_other hdig]
    have h48 : 48 ≤ d.toNat ∧ d.toNat ≤ 57 := by simpa [digB] using hdig
    have b1 : decide ((d.toNat : Int) < 48) = false := decide_eq_false (by omega)
    have b2 : decide ((57 : Int) < d.toNat) = false := decide_eq_false (by omega)
    obtain ⟨q, hq⟩ : ∃ q, q = d.toNat - 48 := ⟨_, rfl⟩
    have hqi : ((d.toNat : Int) - 48) = (q : Int) := by omega
    have hqi2 : ((d.toNat : Int) - 48) % 256 = (q : Int) := by omega
    have hq9 : q ≤ 9 := by omega
    have HQQ := Lib.hid hq
    clear hq
    go_upto_region 10 with (first | (go_at_call 219; refine CD.out.mono ?_; rintro e w3 ⟨rfl, hb3⟩; have hr3 := HRJ.out.below hb3; have hp3 := hr3.lt; have c1 := hr3.cell 1 rfl; have f1 := hr3.free 1; have HR3 := Lib.hid hr3; have HU3 := Lib.hid (HUJ.out.below hb3); clear hr3 hb3))
    first | rw [hqi2] | rw [hqi] | skip
    clear hqi hqi2 CD b1 b2
    by_cases hbad : (9223372036854775807 - q) / 10 < m
    · have HBAD := Lib.hid hbad
      have hbi : (9223372036854775807 - (q : Int)) / 10 < m := by omega
      clear hbad
      go_wp2_with fail
      go_ret
      refine ⟨HU3.out, m, j, false, rfl, hmM, hij, hj, ?_, HR3.out⟩
      rw [HV.out, ← HQJ.out, HRD.out, cntL_bad hdig HQQ.out HBAD.out]
    · have HBAD := Lib.hid hbad
      have hfit : m * 10 + q ≤ 9223372036854775807 := by omega
      have hnb : ¬ ((9223372036854775807 - (q : Int)) / 10 < m) := by omega
      clear hbad
      go_wp2_with fail
      go_roundw
      case rel => exact ⟨j + 1, m * 10 + q, by go_num, by omega, by omega, hfit, RRd.adv HR3.out, HU3.out.set 1 _, by rw [← HQJ.out, HRD.out]; exact (cntL_step hdig HQQ.out HBAD.out).symm⟩
      case measure => refine Nat.lt_of_le_of_lt (Nat.le_of_eq (congrArg (s.size - ·) (RRd.adv HR3.out).at_)) ?_; rw [HRJ.out.at_]; omega
set_option maxRecDepth 100000 in
set_option maxHeartbeats 4000000 in
theorem rcount_ref (s : ByteArray) (i : Nat) (room : Int) (w : World) (p : Nat) (h : RRd w p s i false room) (hi : i ≤ s.size) (hs : s.size ≤ 140737488351232) :
    Calls Tryz.prog 220 #[.pointer (some ⟨p, 0, Option.none⟩), .int .u64 9223372036854775807, .int .i64 1] w fun e w' => Upd p w w' ∧ RcP 9223372036854775807 true s i room p e w' := by
  have HR := Lib.hid h
  have hp0 := h.lt
  clear h
  obtain ⟨c, hc⟩ : ∃ c : UInt8, c = nxS false (rest s i) := ⟨_, rfl⟩
  have C : Hid (Calls Tryz.prog 219 #[.pointer (some ⟨p, 0, Option.none⟩)] w fun e w' => e = .returned (.int .u8 (c.toNat : Nat)) ∧ Below w.heap.size w w') := Lib.hid (by rw [hc]; exact rnext_any s i false room w p HR.out)
  have hc0 : c.toNat < 256 := c.toNat_lt
  by_cases hA : digB c = true ∧ (c ≠ 48 ∨ true = false)
  rotate_left
  · have HV : Hid (cntV 9223372036854775807 true (rest s i) = (0, rest s i, true)) := Lib.hid (by
      by_cases hh : i < s.size
      · have : c = s[i] := by rw [hc, rest_cons hh]; rfl
        rw [rest_cons hh, ← this, cntV_cons, if_neg hA]
      · rw [rest_end (by omega)]; rfl)
    have hcase : decide ((48 : Int) ≤ (c.toNat : Nat)) = false ∨ (decide ((48 : Int) ≤ (c.toNat : Nat)) = true ∧ decide ((c.toNat : Int) ≤ 57) = false) ∨ c = 48 := by
      by_cases h48 : (48 : Int) ≤ (c.toNat : Nat)
      · by_cases h57 : (c.toNat : Int) ≤ 57
        · refine .inr (.inr ?_)
          by_cases hz : c = 48
          · exact hz
          · exact absurd ⟨by simp only [digB, Bool.and_eq_true, decide_eq_true_eq]; omega, .inl hz⟩ hA
        · exact .inr (.inl ⟨decide_eq_true h48, decide_eq_false h57⟩)
      · exact .inl (decide_eq_false h48)
    clear hc hA
    rcases hcase with b1 | ⟨b1, b2⟩ | rfl
    all_goals
      go_enter Tryz.func220, Tryz.ntmps220
      go_wp2_with (first | (go_at_call 219; refine C.out.mono ?_; rintro e w1 ⟨rfl, hb1⟩; have HB1 := Lib.hid hb1; clear hb1) | (go_at_call 221; refine (ron_not (HR.out.below HB1.out) _ hi (fun _ => rfl) hs).mono ?_; rintro e w2 ⟨rfl, hr2, hu2⟩))
      go_ret
      exact ⟨(Upd.ofBelow HB1.out p).trans hu2, 0, i, true, rfl, by decide, Nat.le_refl _, hi, HV.out, hr2⟩
  obtain ⟨hdig, hA2⟩ := hA
  have h48 : 48 ≤ c.toNat ∧ c.toNat ≤ 57 := by simpa [digB] using hdig
  have hh : i < s.size := by
    by_cases hh : i < s.size
    · exact hh
    · exfalso
      rw [rest_end (by omega)] at hc
      rw [hc] at h48
      exact absurd h48.1 (by decide)
  have hci : c = s[i] := by rw [hc, rest_cons hh]; rfl
  have b1 : decide ((48 : Int) ≤ (c.toNat : Nat)) = true := decide_eq_true (by omega)
  have b2 : decide ((c.toNat : Int) ≤ 57) = true := decide_eq_true (by omega)
  clear hc
  by_cases hz : c = 48
  · exact absurd hA2 (by simp [hz])
  have b3 : ((c.toNat : Int) != 48) = true := u8_bne (n := 48) (by decide) hz
  have b4 : ((c.toNat : Int) == 48) = false := u8_beq (n := 48) (by decide) hz
  obtain ⟨q0, hq0⟩ : ∃ q0, q0 = c.toNat - 48 := ⟨_, rfl⟩
  obtain ⟨R, hR⟩ : ∃ R, R = cntL 9223372036854775807 (rest s (i + 1)) q0 := ⟨_, rfl⟩
  have HV : Hid (cntV 9223372036854775807 true (rest s i) = (R.1, R.2, false)) := Lib.hid (by rw [rest_cons hh, ← hci, cntV_cons, if_pos ⟨hdig, hA2⟩, if_neg hz, hR, hq0])
  have HRR := Lib.hid hR
  have hqi : ((c.toNat : Int) - 48) = (q0 : Int) := by omega
  have hqi2 : ((c.toNat : Int) - 48) % 256 = (q0 : Int) := by omega
  have hq9 : q0 ≤ 9 := by omega
  clear hR hci hA2 hdig hq0
  go_enter Tryz.func220, Tryz.ntmps220
  go_upto_region 6 with (first | (go_at_call 219; refine C.out.mono ?_; rintro e w1 ⟨rfl, hb1⟩; have HB1 := Lib.hid hb1; clear hb1) | (go_at_call 221; refine (ron_yes (HR.out.below HB1.out) hh hs).mono ?_; rintro e w2 ⟨rfl, hr2, hu2⟩; have HR2 := Lib.hid hr2; have HU2 := Lib.hid ((Upd.ofBelow HB1.out p).trans hu2); clear hr2 hu2))
  first | rw [hqi2] | rw [hqi] | skip
  clear hqi hqi2 C b1 b2 b3 b4
  go_loopw [7, 9, 10] (fun _ n _ wr => ∃ (j m : Nat), n = .int .u64 (m : Nat) ∧ i ≤ j ∧ j ≤ s.size ∧ m ≤ 9223372036854775807 ∧ RRd wr p s j false room ∧ Upd p w wr ∧ cntL 9223372036854775807 (rest s j) m = R) (fun _ _ _ wr => s.size - posOf wr p)
  case atStart => exact ⟨i + 1, q0, rfl, by omega, by omega, by omega, HR2.out, HU2.out, HRR.out.symm⟩
  case round =>
    obtain ⟨j, m, rfl, hij, hj, hmM, hr, hu, hq⟩ := hrel
    have HRJ := Lib.hid hr
    have HUJ := Lib.hid hu
    have HQJ := Lib.hid hq
    clear hr hu hq
    by_cases hjl : j < s.size
    rotate_left
    · have CD := Lib.hid (rnext_end HRJ.out (by omega))
      go_wp2_with (first | (go_at_call 219; refine CD.out.mono ?_; rintro e w3 ⟨rfl, hb3⟩))
      go_ret
      refine ⟨HUJ.out.below hb3, m, j, false, rfl, hmM, hij, hj, ?_, HRJ.out.below hb3⟩
      rw [HV.out, ← HQJ.out, rest_end (by omega), cntL_end]
    obtain ⟨d, hd⟩ : ∃ d, d = s[j] := ⟨_, rfl⟩
    have HRD : Hid (rest s j = d :: rest s (j + 1)) := Lib.hid (by rw [rest_cons hjl, hd])
    have CD := Lib.hid (rnext_at HRJ.out hjl hd)
    clear hd
    have hd0 : d.toNat < 256 := d.toNat_lt
    by_cases hdig : digB d = true
    rotate_left
    · have hcase : decide ((d.toNat : Int) < 48) = true ∨ (decide ((d.toNat : Int) < 48) = false ∧ decide ((57 : Int) < d.toNat) = true) := by
        simp only [digB, Bool.and_eq_true, decide_eq_true_eq] at hdig
        by_cases h48 : (d.toNat : Int) < 48
        · exact .inl (decide_eq_true h48)
        · exact .inr ⟨decide_eq_false h48, decide_eq_true (by omega)⟩
      rcases hcase with b1 | ⟨b1, b2⟩
      all_goals
        go_wp2_with (first | (go_at_call 219; refine CD.out.mono ?_; rintro e w3 ⟨rfl, hb3⟩))
        go_ret
        refine ⟨HUJ.out.below hb3, m, j, false, rfl, hmM, hij, hj, ?_, HRJ.out.below hb3⟩
        rw [HV.out, ← HQJ.out, HRD.out, cntL_other hdig]
    have h48 : 48 ≤ d.toNat ∧ d.toNat ≤ 57 := by simpa [digB] using hdig
    have b1 : decide ((d.toNat : Int) < 48) = false := decide_eq_false (by omega)
    have b2 : decide ((57 : Int) < d.toNat) = false := decide_eq_false (by omega)
    obtain ⟨q, hq⟩ : ∃ q, q = d.toNat - 48 := ⟨_, rfl⟩
    have hqi : ((d.toNat : Int) - 48) = (q : Int) := by omega
    have hqi2 : ((d.toNat : Int) - 48) % 256 = (q : Int) := by omega
    have hq9 : q ≤ 9 := by omega
    have HQQ := Lib.hid hq
    clear hq
    go_upto_region 10 with (first | (go_at_call 219; refine CD.out.mono ?_; rintro e w3 ⟨rfl, hb3⟩; have hr3 := HRJ.out.below hb3; have hp3 := hr3.lt; have c1 := hr3.cell 1 rfl; have f1 := hr3.free 1; have HR3 := Lib.hid hr3; have HU3 := Lib.hid (HUJ.out.below hb3); clear hr3 hb3))
    first | rw [hqi2] | rw [hqi] | skip
    clear hqi hqi2 CD b1 b2
    by_cases hbad : (9223372036854775807 - q) / 10 < m
    · have HBAD := Lib.hid hbad
      have hbi : (9223372036854775807 - (q : Int)) / 10 < m := by omega
      clear hbad
      go_wp2_with fail
      go_ret
      refine ⟨HU3.out, m, j, false, rfl, hmM, hij, hj, ?_, HR3.out⟩
      rw [HV.out, ← HQJ.out, HRD.out, cntL_bad hdig HQQ.out HBAD.out]
    · have HBAD := Lib.hid hbad
      have hfit : m * 10 + q ≤ 9223372036854775807 := by omega
      have hnb : ¬ ((9223372036854775807 - (q : Int)) / 10 < m) := by omega
      clear hbad
      go_wp2_with fail
      go_roundw
      case rel => exact ⟨j + 1, m * 10 + q, by go_num, by omega, by omega, hfit, RRd.adv HR3.out, HU3.out.set 1 _, by rw [← HQJ.out, HRD.out]; exact (cntL_step hdig HQQ.out HBAD.out).symm⟩
      case measure => refine Nat.lt_of_le_of_lt (Nat.le_of_eq (congrArg (s.size - ·) (RRd.adv HR3.out).at_)) ?_; rw [HRJ.out.at_]; omega
set_option maxRecDepth 100000 in
set_option maxHeartbeats 4000000 in
theorem rcount_neg (s : ByteArray) (i : Nat) (room : Int) (w : World) (p : Nat) (h : RRd w p s i false room) (hi : i ≤ s.size) (hs : s.size ≤ 140737488351232) :
    Calls Tryz.prog 220 #[.pointer (some ⟨p, 0, Option.none⟩), .int .u64 9223372036854775808, .int .i64 1] w fun e w' => Upd p w w' ∧ RcP 9223372036854775808 true s i room p e w' := by
  have HR := Lib.hid h
  have hp0 := h.lt
  clear h
  obtain ⟨c, hc⟩ : ∃ c : UInt8, c = nxS false (rest s i) := ⟨_, rfl⟩
  have C : Hid (Calls Tryz.prog 219 #[.pointer (some ⟨p, 0, Option.none⟩)] w fun e w' => e = .returned (.int .u8 (c.toNat : Nat)) ∧ Below w.heap.size w w') := Lib.hid (by rw [hc]; exact rnext_any s i false room w p HR.out)
  have hc0 : c.toNat < 256 := c.toNat_lt
  by_cases hA : digB c = true ∧ (c ≠ 48 ∨ true = false)
  rotate_left
  · have HV : Hid (cntV 9223372036854775808 true (rest s i) = (0, rest s i, true)) := Lib.hid (by
      by_cases hh : i < s.size
      · have : c = s[i] := by rw [hc, rest_cons hh]; rfl
        rw [rest_cons hh, ← this, cntV_cons, if_neg hA]
      · rw [rest_end (by omega)]; rfl)
    have hcase : decide ((48 : Int) ≤ (c.toNat : Nat)) = false ∨ (decide ((48 : Int) ≤ (c.toNat : Nat)) = true ∧ decide ((c.toNat : Int) ≤ 57) = false) ∨ c = 48 := by
      by_cases h48 : (48 : Int) ≤ (c.toNat : Nat)
      · by_cases h57 : (c.toNat : Int) ≤ 57
        · refine .inr (.inr ?_)
          by_cases hz : c = 48
          · exact hz
          · exact absurd ⟨by simp only [digB, Bool.and_eq_true, decide_eq_true_eq]; omega, .inl hz⟩ hA
        · exact .inr (.inl ⟨decide_eq_true h48, decide_eq_false h57⟩)
      · exact .inl (decide_eq_false h48)
    clear hc hA
    rcases hcase with b1 | ⟨b1, b2⟩ | rfl
    all_goals
      go_enter Tryz.func220, Tryz.ntmps220
      go_wp2_with (first | (go_at_call 219; refine C.out.mono ?_; rintro e w1 ⟨rfl, hb1⟩; have HB1 := Lib.hid hb1; clear hb1) | (go_at_call 221; refine (ron_not (HR.out.below HB1.out) _ hi (fun _ => rfl) hs).mono ?_; rintro e w2 ⟨rfl, hr2, hu2⟩))
      go_ret
      exact ⟨(Upd.ofBelow HB1.out p).trans hu2, 0, i, true, rfl, by decide, Nat.le_refl _, hi, HV.out, hr2⟩
  obtain ⟨hdig, hA2⟩ := hA
  have h48 : 48 ≤ c.toNat ∧ c.toNat ≤ 57 := by simpa [digB] using hdig
  have hh : i < s.size := by
    by_cases hh : i < s.size
    · exact hh
    · exfalso
      rw [rest_end (by omega)] at hc
      rw [hc] at h48
      exact absurd h48.1 (by decide)
  have hci : c = s[i] := by rw [hc, rest_cons hh]; rfl
  have b1 : decide ((48 : Int) ≤ (c.toNat : Nat)) = true := decide_eq_true (by omega)
  have b2 : decide ((c.toNat : Int) ≤ 57) = true := decide_eq_true (by omega)
  clear hc
  by_cases hz : c = 48
  · exact absurd hA2 (by simp [hz])
  have b3 : ((c.toNat : Int) != 48) = true := u8_bne (n := 48) (by decide) hz
  have b4 : ((c.toNat : Int) == 48) = false := u8_beq (n := 48) (by decide) hz
  obtain ⟨q0, hq0⟩ : ∃ q0, q0 = c.toNat - 48 := ⟨_, rfl⟩
  obtain ⟨R, hR⟩ : ∃ R, R = cntL 9223372036854775808 (rest s (i + 1)) q0 := ⟨_, rfl⟩
  have HV : Hid (cntV 9223372036854775808 true (rest s i) = (R.1, R.2, false)) := Lib.hid (by rw [rest_cons hh, ← hci, cntV_cons, if_pos ⟨hdig, hA2⟩, if_neg hz, hR, hq0])
  have HRR := Lib.hid hR
  have hqi : ((c.toNat : Int) - 48) = (q0 : Int) := by omega
  have hqi2 : ((c.toNat : Int) - 48) % 256 = (q0 : Int) := by omega
  have hq9 : q0 ≤ 9 := by omega
  clear hR hci hA2 hdig hq0
  go_enter Tryz.func220, Tryz.ntmps220
  go_upto_region 6 with (first | (go_at_call 219; refine C.out.mono ?_; rintro e w1 ⟨rfl, hb1⟩; have HB1 := Lib.hid hb1; clear hb1) | (go_at_call 221; refine (ron_yes (HR.out.below HB1.out) hh hs).mono ?_; rintro e w2 ⟨rfl, hr2, hu2⟩; have HR2 := Lib.hid hr2; have HU2 := Lib.hid ((Upd.ofBelow HB1.out p).trans hu2); clear hr2 hu2))
  first | rw [hqi2] | rw [hqi] | skip
  clear hqi hqi2 C b1 b2 b3 b4
  go_loopw [7, 9, 10] (fun _ n _ wr => ∃ (j m : Nat), n = .int .u64 (m : Nat) ∧ i ≤ j ∧ j ≤ s.size ∧ m ≤ 9223372036854775808 ∧ RRd wr p s j false room ∧ Upd p w wr ∧ cntL 9223372036854775808 (rest s j) m = R) (fun _ _ _ wr => s.size - posOf wr p)
  case atStart => exact ⟨i + 1, q0, rfl, by omega, by omega, by omega, HR2.out, HU2.out, HRR.out.symm⟩
  case round =>
    obtain ⟨j, m, rfl, hij, hj, hmM, hr, hu, hq⟩ := hrel
    have HRJ := Lib.hid hr
    have HUJ := Lib.hid hu
    have HQJ := Lib.hid hq
    clear hr hu hq
    by_cases hjl : j < s.size
    rotate_left
    · have CD := Lib.hid (rnext_end HRJ.out (by omega))
      go_wp2_with (first | (go_at_call 219; refine CD.out.mono ?_; rintro e w3 ⟨rfl, hb3⟩))
      go_ret
      refine ⟨HUJ.out.below hb3, m, j, false, rfl, hmM, hij, hj, ?_, HRJ.out.below hb3⟩
      rw [HV.out, ← HQJ.out, rest_end (by omega), cntL_end]
    obtain ⟨d, hd⟩ : ∃ d, d = s[j] := ⟨_, rfl⟩
    have HRD : Hid (rest s j = d :: rest s (j + 1)) := Lib.hid (by rw [rest_cons hjl, hd])
    have CD := Lib.hid (rnext_at HRJ.out hjl hd)
    clear hd
    have hd0 : d.toNat < 256 := d.toNat_lt
    by_cases hdig : digB d = true
    rotate_left
    · have hcase : decide ((d.toNat : Int) < 48) = true ∨ (decide ((d.toNat : Int) < 48) = false ∧ decide ((57 : Int) < d.toNat) = true) := by
        simp only [digB, Bool.and_eq_true, decide_eq_true_eq] at hdig
        by_cases h48 : (d.toNat : Int) < 48
        · exact .inl (decide_eq_true h48)
        · exact .inr ⟨decide_eq_false h48, decide_eq_true (by omega)⟩
      rcases hcase with b1 | ⟨b1, b2⟩
      all_goals
        go_wp2_with (first | (go_at_call 219; refine CD.out.mono ?_; rintro e w3 ⟨rfl, hb3⟩))
        go_ret
        refine ⟨HUJ.out.below hb3, m, j, false, rfl, hmM, hij, hj, ?_, HRJ.out.below hb3⟩
        rw [HV.out, ← HQJ.out, HRD.out, cntL_other hdig]
    have h48 : 48 ≤ d.toNat ∧ d.toNat ≤ 57 := by simpa [digB] using hdig
    have b1 : decide ((d.toNat : Int) < 48) = false := decide_eq_false (by omega)
    have b2 : decide ((57 : Int) < d.toNat) = false := decide_eq_false (by omega)
    obtain ⟨q, hq⟩ : ∃ q, q = d.toNat - 48 := ⟨_, rfl⟩
    have hqi : ((d.toNat : Int) - 48) = (q : Int) := by omega
    have hqi2 : ((d.toNat : Int) - 48) % 256 = (q : Int) := by omega
    have hq9 : q ≤ 9 := by omega
    have HQQ := Lib.hid hq
    clear hq
    go_upto_region 10 with (first | (go_at_call 219; refine CD.out.mono ?_; rintro e w3 ⟨rfl, hb3⟩; have hr3 := HRJ.out.below hb3; have hp3 := hr3.lt; have c1 := hr3.cell 1 rfl; have f1 := hr3.free 1; have HR3 := Lib.hid hr3; have HU3 := Lib.hid (HUJ.out.below hb3); clear hr3 hb3))
    first | rw [hqi2] | rw [hqi] | skip
    clear hqi hqi2 CD b1 b2
    by_cases hbad : (9223372036854775808 - q) / 10 < m
    · have HBAD := Lib.hid hbad
      have hbi : (9223372036854775808 - (q : Int)) / 10 < m := by omega
      clear hbad
      go_wp2_with fail
      go_ret
      refine ⟨HU3.out, m, j, false, rfl, hmM, hij, hj, ?_, HR3.out⟩
      rw [HV.out, ← HQJ.out, HRD.out, cntL_bad hdig HQQ.out HBAD.out]
    · have HBAD := Lib.hid hbad
      have hfit : m * 10 + q ≤ 9223372036854775808 := by omega
      have hnb : ¬ ((9223372036854775808 - (q : Int)) / 10 < m) := by omega
      clear hbad
      go_wp2_with fail
      go_roundw
      case rel => exact ⟨j + 1, m * 10 + q, by go_num, by omega, by omega, hfit, RRd.adv HR3.out, HU3.out.set 1 _, by rw [← HQJ.out, HRD.out]; exact (cntL_step hdig HQQ.out HBAD.out).symm⟩
      case measure => refine Nat.lt_of_le_of_lt (Nat.le_of_eq (congrArg (s.size - ·) (RRd.adv HR3.out).at_)) ?_; rw [HRJ.out.at_]; omega
end Go.Proofs.YtjmelamllapmiaaGreatDoor
