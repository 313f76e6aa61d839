/- The reader of package word: number. -/
import Derived.Test.YtjmelamllapmiaaGreatDoorE
namespace Go.Proofs.YtjmelamllapmiaaGreatDoor
open Go.RowKit

/-- Behind the digits. -/
def endN (neg : Bool) (r : Rs Nat) : Rs Int := match r with | .ok n t => .ok (if neg then -(n : Int) else n) t | .no t => .no t
theorem numV_neg (d : UInt8) (u : L8) (h : ¬ (d.toNat < 49 ∨ 57 < d.toNat)) : numV true (45 :: d :: u) = endN true (numL (posM + 1) (d :: u) 0 false) := by
  simp only [numV, true_and, if_true, if_neg h]
  cases numL (posM + 1) (d :: u) 0 false <;> rfl
theorem numV_pos (minus : Bool) (c : UInt8) (t : L8) (h : ¬ (minus = true ∧ c = 45)) : numV minus (c :: t) = endN false (numL posM (c :: t) 0 false) := by
  simp only [numV, if_neg h]
  cases numL posM (c :: t) 0 false <;> rfl
theorem numL_step {M : Nat} {c : UInt8} {t : L8} {n : Nat} {b : Bool} (hd : digB c = true) {q : Nat} (hq : q = c.toNat - 48) (h : ¬ ((b = true ∧ n = 0) ∨ (M - q) / 10 < n)) : numL M (c :: t) n b = numL M t (n * 10 + q) true := by
  subst hq
  rw [numL, if_pos hd, if_neg h]
theorem numL_bad {M : Nat} {c : UInt8} {t : L8} {n : Nat} {b : Bool} (hd : digB c = true) {q : Nat} (hq : q = c.toNat - 48) (h : (b = true ∧ n = 0) ∨ (M - q) / 10 < n) : numL M (c :: t) n b = .no (c :: t) := by
  subst hq
  rw [numL, if_pos hd, if_pos h]
theorem wneg_ret (m : Nat) (h : m ≤ 9223372036854775808) : Ending.returned (.int .i64 (wrap64 (IntKind.u64.wrap (-(m : Int))))) = Ending.returned (.int .i64 (if true = true then -(m : Int) else m)) := by
  have : wrap64 (IntKind.u64.wrap (-(m : Int))) = -(m : Int) := by rw [IntKind.wrap_u64]; unfold wrap64; omega
  rw [this]; rfl
set_option maxRecDepth 100000 in
set_option maxHeartbeats 4000000 in
theorem number_any (minus : Bool) (s : ByteArray) (i k : Nat) (w : World) (p : Nat) (h : Rdr w p s i k) (hi : i < s.size) (hs : s.size ≤ 140737488351232) (hf : (minus = true ∧ s[i] = 45) ∨ digB s[i] = true) :
    Calls Tryz.prog 162 #[.pointer (some ⟨p, 0, Option.none⟩), .bool minus] w fun e w' => Upd p w w' ∧ RsP (numV minus (rest s i)) s i e (fun n j => e = .returned (.int .i64 n) ∧ Rdr w' p s j k) := by
  have HR := Lib.hid h
  have hp := h.lt
  have c0 := h.cell 0 rfl
  have c1 := h.cell 1 rfl
  have f1 := h.free 1
  obtain ⟨c, hc⟩ : ∃ c, c = s[i] := ⟨_, rfl⟩
  have HRC : Hid (rest s i = c :: rest s (i + 1)) := Lib.hid (by rw [rest_cons hi, hc])
  have hc0 : c.toNat < 256 := c.toNat_lt
  clear h
  cases minus
  · have HD0 : Hid (digB s[i] = true) := Lib.hid (by simpa using hf)
    go_enter Tryz.func162, Tryz.ntmps162
    go_wp2_with fail
    go_quiet (fail)
    go_wp2_with fail
    obtain ⟨W, hW⟩ : ∃ W, W = w.drewN nq := ⟨_, rfl⟩
    have HW : Hid (Rdr W p s (i) k) := Lib.hid (by rw [hW]; exact HR.out.below (belowN (Below.refl _ _) _))
    have HU : Hid (Upd p w W) := Lib.hid (by rw [hW]; exact Upd.ofBelow (belowN (Below.refl _ _) _) p)
    obtain ⟨R, hR⟩ : ∃ R, R = numL (9223372036854775807) (rest s (i)) 0 false := ⟨_, rfl⟩
    have HR0 : Hid (numL (9223372036854775807) (rest s (i)) 0 false = R) := Lib.hid hR.symm
    have HQ : Hid (numV _ (rest s i) = endN false R) := Lib.hid (by rw [hR]; exact by rw [HRC.out]; exact numV_pos false c _ (by simp))
    rw [← hW]
    clear hW hR
    clear c0 c1 f1
    go_loopw [8, 9, 10] (fun n bg d wr => ∃ (j m : Nat) (b : Bool), n = .int .u64 m ∧ bg = .bool b ∧ i ≤ j ∧ j ≤ s.size ∧ m ≤ 9223372036854775807 ∧ Rdr wr p s j k ∧ Upd p w wr ∧ numL 9223372036854775807 (rest s j) m b = R) (fun _ _ _ wr => s.size - posOf wr p)
    case atStart => exact ⟨i, 0, false, rfl, rfl, Nat.le_refl _, by omega, by omega, HW.out, HU.out, HR0.out⟩
    case round =>
      obtain ⟨j, m, b, rfl, rfl, hij, hj, hmM, hr, hu, hq⟩ := hrel
      have HRJ := Lib.hid hr
      have HUJ := Lib.hid hu
      have HQJ := Lib.hid hq
      clear hu hq
      have hpr := hr.lt
      have c0 := hr.cell 0 rfl
      have c1 := hr.cell 1 rfl
      have f1 := hr.free 1
      clear hr
      by_cases hjl : j < s.size
      rotate_left
      · have hd : decide ((j : Int) < (s.size : Nat)) = false := decide_eq_false (by omega)
        go_wp2_with fail
        go_quiet (fail)
        go_wp2_with fail
        go_ret
        refine ⟨HUJ.out.below (belowN (Below.refl _ _) _), ?_⟩
        rw [HQ.out, ← HQJ.out, rest_end (by omega)]
        refine ⟨j, by omega, hj, (rest_end (by omega)).symm, ?_, HRJ.out.below (belowN (Below.refl _ _) _)⟩
        rfl
      obtain ⟨d, hd⟩ : ∃ d, d = s[j] := ⟨_, rfl⟩
      have HRD : Hid (rest s j = d :: rest s (j + 1)) := Lib.hid (by rw [rest_cons hjl, hd])
      have HDD := Lib.hid hd
      have hd0 : d.toNat < 256 := d.toNat_lt
      by_cases hdig : digB d = true
      rotate_left
      · have hcase : decide ((48 : Int) ≤ (s[j].toNat : Nat)) = false ∨ (decide ((48 : Int) ≤ (s[j].toNat : Nat)) = true ∧ decide ((s[j].toNat : Int) ≤ 57) = false) := by
          simp only [digB, Bool.and_eq_true, decide_eq_true_eq, hd] at hdig
          by_cases h48 : (48 : Int) ≤ (s[j].toNat : Nat)
          · exact .inr ⟨decide_eq_true h48, decide_eq_false (by omega)⟩
          · exact .inl (decide_eq_false h48)
        have hjd : decide ((j : Int) < (s.size : Nat)) = true := decide_eq_true (by omega)
        have hji : i < j := Nat.lt_of_le_of_ne hij (fun e => hdig (by subst e; rw [hd]; exact HD0.out))
        clear hd
        rcases hcase with hcase | ⟨hcase, hcase2⟩
        all_goals
          go_wp2_with fail
          go_quiet (fail)
          go_wp2_with fail
          go_ret
          refine ⟨HUJ.out.below (belowN (Below.refl _ _) _), ?_⟩
          rw [HQ.out, ← HQJ.out, HRD.out]
          simp only [numL, if_neg hdig, endN]
          refine ⟨j, by omega, hj, HRD.out.symm, ?_, HRJ.out.below (belowN (Below.refl _ _) _)⟩
          rfl
      · have h48 : 48 ≤ d.toNat ∧ d.toNat ≤ 57 := by simpa [digB] using hdig
        have hjd : decide ((j : Int) < (s.size : Nat)) = true := decide_eq_true (by omega)
        have hc1 : decide ((48 : Int) ≤ (s[j].toNat : Nat)) = true := decide_eq_true (by rw [← hd]; omega)
        have hc2 : decide ((s[j].toNat : Int) ≤ 57) = true := decide_eq_true (by rw [← hd]; omega)
        obtain ⟨q, hq⟩ : ∃ q, q = d.toNat - 48 := ⟨_, rfl⟩
        have hqi : ((d.toNat : Int) - 48) % 256 = (q : Int) := by omega
        have hq9 : q ≤ 9 := by omega
        by_cases hbad : (b = true ∧ m = 0) ∨ (9223372036854775807 - q) / 10 < m
        · have HBAD := Lib.hid hbad
          clear hbad
          go_wp2_with fail
          go_quiet (fail)
          go_wp2_with fail
          go_quiet (fail)
          rw [← hd, hqi]
          have HQQ := Lib.hid hq
          clear hq hqi hd
          cases b
          all_goals go_wp2_with (first | (go_at_call 81; refine (wrong_any s j k _ p (HRJ.out.below (belowN (Below.refl _ _) _))).mono ?_; rintro e w3 ⟨hb3, rfl⟩))
          all_goals first
            | (refine ⟨rfl, (HUJ.out.below (belowN (Below.refl _ _) _)).below hb3, ?_⟩
               rw [HQ.out, ← HQJ.out, HRD.out, numL_bad hdig HQQ.out (by have := HBAD.out; simpa using this)]
               simp only [endN]
               exact ⟨j, hj, HRD.out.symm, rfl⟩)
            | (exfalso; rcases HBAD.out with ⟨h, h'⟩ | h <;> first | omega | exact absurd h (by decide) | simp_all)
        · have HBAD := Lib.hid hbad
          have hfit : m * 10 + q ≤ 9223372036854775807 := by omega
          have hm0 : b = true → ¬ m = 0 := fun h1 h2 => hbad (.inl ⟨h1, h2⟩)
          have hnb : ¬ ((9223372036854775807 - (q : Int)) / 10 < m) := by omega
          clear hbad
          go_wp2_with fail
          go_quiet (fail)
          go_wp2_with fail
          go_quiet (fail)
          rw [← hd, hqi]
          have HQQ := Lib.hid hq
          clear hq hqi hd
          cases b
          rotate_left
          · have hm1 := hm0 rfl
            have hmb : ((m : Int) == 0) = false := by simp; omega
            clear hm0
            go_wp2_with fail
            go_roundw
            case rel => exact ⟨j + 1, m * 10 + q, true, by go_num, rfl, by omega, by omega, hfit, Rdr.adv (HRJ.out.below (belowN (Below.refl _ _) _)), (HUJ.out.below (belowN (Below.refl _ _) _)).set 1 _, by rw [← HQJ.out, HRD.out]; exact (numL_step hdig HQQ.out HBAD.out).symm⟩
            case measure => rw [(Rdr.adv (HRJ.out.below (belowN (Below.refl _ _) _))).pos, HRJ.out.pos]; omega
          · clear hm0
            go_wp2_with fail
            go_roundw
            case rel => exact ⟨j + 1, m * 10 + q, true, by go_num, rfl, by omega, by omega, hfit, Rdr.adv (HRJ.out.below (belowN (Below.refl _ _) _)), (HUJ.out.below (belowN (Below.refl _ _) _)).set 1 _, by rw [← HQJ.out, HRD.out]; exact (numL_step hdig HQQ.out HBAD.out).symm⟩
            case measure => rw [(Rdr.adv (HRJ.out.below (belowN (Below.refl _ _) _))).pos, HRJ.out.pos]; omega
  · by_cases h45 : c = 45
    rotate_left
    · have e45 : ((s[i].toNat : Int) == 45) = false := by rw [← hc]; exact u8_beq (n := 45) (by decide) h45
      have HD0 : Hid (digB s[i] = true) := Lib.hid (hf.resolve_left (by rintro ⟨_, e⟩; exact h45 (hc.trans e)))
      go_enter Tryz.func162, Tryz.ntmps162
      go_wp2_with fail
      go_quiet (fail)
      go_wp2_with fail
      obtain ⟨W, hW⟩ : ∃ W, W = w.drewN nq := ⟨_, rfl⟩
      have HW : Hid (Rdr W p s (i) k) := Lib.hid (by rw [hW]; exact HR.out.below (belowN (Below.refl _ _) _))
      have HU : Hid (Upd p w W) := Lib.hid (by rw [hW]; exact Upd.ofBelow (belowN (Below.refl _ _) _) p)
      obtain ⟨R, hR⟩ : ∃ R, R = numL (9223372036854775807) (rest s (i)) 0 false := ⟨_, rfl⟩
      have HR0 : Hid (numL (9223372036854775807) (rest s (i)) 0 false = R) := Lib.hid hR.symm
      have HQ : Hid (numV _ (rest s i) = endN false R) := Lib.hid (by rw [hR]; exact by rw [HRC.out]; exact numV_pos true c _ (by simp [h45]))
      rw [← hW]
      clear hW hR
      clear c0 c1 f1
      go_loopw [8, 9, 10] (fun n bg d wr => ∃ (j m : Nat) (b : Bool), n = .int .u64 m ∧ bg = .bool b ∧ i ≤ j ∧ j ≤ s.size ∧ m ≤ 9223372036854775807 ∧ Rdr wr p s j k ∧ Upd p w wr ∧ numL 9223372036854775807 (rest s j) m b = R) (fun _ _ _ wr => s.size - posOf wr p)
      case atStart => exact ⟨i, 0, false, rfl, rfl, Nat.le_refl _, by omega, by omega, HW.out, HU.out, HR0.out⟩
      case round =>
        obtain ⟨j, m, b, rfl, rfl, hij, hj, hmM, hr, hu, hq⟩ := hrel
        have HRJ := Lib.hid hr
        have HUJ := Lib.hid hu
        have HQJ := Lib.hid hq
        clear hu hq
        have hpr := hr.lt
        have c0 := hr.cell 0 rfl
        have c1 := hr.cell 1 rfl
        have f1 := hr.free 1
        clear hr
        by_cases hjl : j < s.size
        rotate_left
        · have hd : decide ((j : Int) < (s.size : Nat)) = false := decide_eq_false (by omega)
          go_wp2_with fail
          go_quiet (fail)
          go_wp2_with fail
          go_ret
          refine ⟨HUJ.out.below (belowN (Below.refl _ _) _), ?_⟩
          rw [HQ.out, ← HQJ.out, rest_end (by omega)]
          refine ⟨j, by omega, hj, (rest_end (by omega)).symm, ?_, HRJ.out.below (belowN (Below.refl _ _) _)⟩
          rfl
        obtain ⟨d, hd⟩ : ∃ d, d = s[j] := ⟨_, rfl⟩
        have HRD : Hid (rest s j = d :: rest s (j + 1)) := Lib.hid (by rw [rest_cons hjl, hd])
        have HDD := Lib.hid hd
        have hd0 : d.toNat < 256 := d.toNat_lt
        by_cases hdig : digB d = true
        rotate_left
        · have hcase : decide ((48 : Int) ≤ (s[j].toNat : Nat)) = false ∨ (decide ((48 : Int) ≤ (s[j].toNat : Nat)) = true ∧ decide ((s[j].toNat : Int) ≤ 57) = false) := by
            simp only [digB, Bool.and_eq_true, decide_eq_true_eq, hd] at hdig
            by_cases h48 : (48 : Int) ≤ (s[j].toNat : Nat)
            · exact .inr ⟨decide_eq_true h48, decide_eq_false (by omega)⟩
            · exact .inl (decide_eq_false h48)
          have hjd : decide ((j : Int) < (s.size : Nat)) = true := decide_eq_true (by omega)
          have hji : i < j := Nat.lt_of_le_of_ne hij (fun e => hdig (by subst e; rw [hd]; exact HD0.out))
          clear hd
          rcases hcase with hcase | ⟨hcase, hcase2⟩
          all_goals
            go_wp2_with fail
            go_quiet (fail)
            go_wp2_with fail
            go_ret
            refine ⟨HUJ.out.below (belowN (Below.refl _ _) _), ?_⟩
            rw [HQ.out, ← HQJ.out, HRD.out]
            simp only [numL, if_neg hdig, endN]
            refine ⟨j, by omega, hj, HRD.out.symm, ?_, HRJ.out.below (belowN (Below.refl _ _) _)⟩
            rfl
        · have h48 : 48 ≤ d.toNat ∧ d.toNat ≤ 57 := by simpa [digB] using hdig
          have hjd : decide ((j : Int) < (s.size : Nat)) = true := decide_eq_true (by omega)
          have hc1 : decide ((48 : Int) ≤ (s[j].toNat : Nat)) = true := decide_eq_true (by rw [← hd]; omega)
          have hc2 : decide ((s[j].toNat : Int) ≤ 57) = true := decide_eq_true (by rw [← hd]; omega)
          obtain ⟨q, hq⟩ : ∃ q, q = d.toNat - 48 := ⟨_, rfl⟩
          have hqi : ((d.toNat : Int) - 48) % 256 = (q : Int) := by omega
          have hq9 : q ≤ 9 := by omega
          by_cases hbad : (b = true ∧ m = 0) ∨ (9223372036854775807 - q) / 10 < m
          · have HBAD := Lib.hid hbad
            clear hbad
            go_wp2_with fail
            go_quiet (fail)
            go_wp2_with fail
            go_quiet (fail)
            rw [← hd, hqi]
            have HQQ := Lib.hid hq
            clear hq hqi hd
            cases b
            all_goals go_wp2_with (first | (go_at_call 81; refine (wrong_any s j k _ p (HRJ.out.below (belowN (Below.refl _ _) _))).mono ?_; rintro e w3 ⟨hb3, rfl⟩))
            all_goals first
              | (refine ⟨rfl, (HUJ.out.below (belowN (Below.refl _ _) _)).below hb3, ?_⟩
                 rw [HQ.out, ← HQJ.out, HRD.out, numL_bad hdig HQQ.out (by have := HBAD.out; simpa using this)]
                 simp only [endN]
                 exact ⟨j, hj, HRD.out.symm, rfl⟩)
              | (exfalso; rcases HBAD.out with ⟨h, h'⟩ | h <;> first | omega | exact absurd h (by decide) | simp_all)
          · have HBAD := Lib.hid hbad
            have hfit : m * 10 + q ≤ 9223372036854775807 := by omega
            have hm0 : b = true → ¬ m = 0 := fun h1 h2 => hbad (.inl ⟨h1, h2⟩)
            have hnb : ¬ ((9223372036854775807 - (q : Int)) / 10 < m) := by omega
            clear hbad
            go_wp2_with fail
            go_quiet (fail)
            go_wp2_with fail
            go_quiet (fail)
            rw [← hd, hqi]
            have HQQ := Lib.hid hq
            clear hq hqi hd
            cases b
            rotate_left
            · have hm1 := hm0 rfl
              have hmb : ((m : Int) == 0) = false := by simp; omega
              clear hm0
              go_wp2_with fail
              go_roundw
              case rel => exact ⟨j + 1, m * 10 + q, true, by go_num, rfl, by omega, by omega, hfit, Rdr.adv (HRJ.out.below (belowN (Below.refl _ _) _)), (HUJ.out.below (belowN (Below.refl _ _) _)).set 1 _, by rw [← HQJ.out, HRD.out]; exact (numL_step hdig HQQ.out HBAD.out).symm⟩
              case measure => rw [(Rdr.adv (HRJ.out.below (belowN (Below.refl _ _) _))).pos, HRJ.out.pos]; omega
            · clear hm0
              go_wp2_with fail
              go_roundw
              case rel => exact ⟨j + 1, m * 10 + q, true, by go_num, rfl, by omega, by omega, hfit, Rdr.adv (HRJ.out.below (belowN (Below.refl _ _) _)), (HUJ.out.below (belowN (Below.refl _ _) _)).set 1 _, by rw [← HQJ.out, HRD.out]; exact (numL_step hdig HQQ.out HBAD.out).symm⟩
              case measure => rw [(Rdr.adv (HRJ.out.below (belowN (Below.refl _ _) _))).pos, HRJ.out.pos]; omega
    · have e45 : ((s[i].toNat : Int) == 45) = true := by rw [← hc, h45]; rfl
      go_enter Tryz.func162, Tryz.ntmps162
      go_wp2_with fail
      go_quiet (fail)
      go_upto_region 6 with fail
      obtain ⟨V, hV⟩ : ∃ V, V = (w.drewN nq).setCell ⟨p, 1, Option.none⟩ (.int .i64 ((i : Int) + 1)) := ⟨_, rfl⟩
      have HRV : Hid (Rdr V p s (i + 1) k) := Lib.hid (by rw [hV]; exact Rdr.adv (HR.out.below (belowN (Below.refl _ _) _)))
      have HUV : Hid (Upd p w V) := Lib.hid (by rw [hV]; exact (Upd.ofBelow (belowN (Below.refl _ _) _) p).set 1 _)
      rw [← hV]
      clear hV c0 c1 f1 hf
      by_cases hh : i + 1 < s.size
      rotate_left
      · have C := Lib.hid (next_end HRV.out (by omega) (by omega))
        go_wp2_with (first | (go_at_call 161; refine C.out.mono ?_; rintro e w1 ⟨rfl, hb1⟩))
        refine ⟨rfl, HUV.out.below hb1, ?_⟩
        rw [HRC.out, h45, rest_end (by omega)]
        exact ⟨s.size, Nat.le_refl _, (rest_end (Nat.le_refl _)).symm, rfl⟩
      obtain ⟨d1, hd1⟩ : ∃ d1, d1 = s[i + 1] := ⟨_, rfl⟩
      have HRD1 : Hid (rest s (i + 1) = d1 :: rest s (i + 1 + 1)) := Lib.hid (by rw [rest_cons hh, hd1])
      have C := Lib.hid (next_at HRV.out hh hd1)
      have hd10 : d1.toNat < 256 := d1.toNat_lt
      have HD1 := Lib.hid hd1
      clear hd1
      by_cases hbad1 : d1.toNat < 49 ∨ 57 < d1.toNat
      · have HBAD1 := Lib.hid hbad1
        clear hbad1
        go_wp2_with (first | (go_at_call 161; refine C.out.mono ?_; rintro e w1 ⟨rfl, hb1⟩; have HB1 := Lib.hid hb1; clear hb1) | (go_at_call 81; refine (wrong_any s (i + 1) k _ p (HRV.out.below HB1.out)).mono ?_; rintro e w2 ⟨hb2, rfl⟩))
        all_goals first
          | (refine ⟨rfl, (HUV.out.below HB1.out).below hb2, ?_⟩
             rw [HRC.out, h45, HRD1.out]
             simp only [numV, true_and, if_true, if_pos HBAD1.out]
             exact ⟨i + 1, by omega, HRD1.out.symm, rfl⟩)
          | (exfalso; have := HBAD1.out; omega)
      have HBAD1 := Lib.hid hbad1
      have h49 : 49 ≤ d1.toNat := by omega
      have h57 : d1.toNat ≤ 57 := by omega
      clear hbad1
      have HD0 : Hid (digB s[i + 1] = true) := Lib.hid (by rw [← HD1.out]; simp only [digB, Bool.and_eq_true, decide_eq_true_eq]; omega)
      go_wp2_with (first | (go_at_call 161; refine C.out.mono ?_; rintro e w1 ⟨rfl, hb1⟩))
      obtain ⟨W, hW⟩ : ∃ W, W = w1 := ⟨_, rfl⟩
      have HW : Hid (Rdr W p s (i + 1) k) := Lib.hid (by rw [hW]; exact HRV.out.below hb1)
      have HU : Hid (Upd p w W) := Lib.hid (by rw [hW]; exact HUV.out.below hb1)
      obtain ⟨R, hR⟩ : ∃ R, R = numL (9223372036854775808) (rest s (i + 1)) 0 false := ⟨_, rfl⟩
      have HR0 : Hid (numL (9223372036854775808) (rest s (i + 1)) 0 false = R) := Lib.hid hR.symm
      have HQ : Hid (numV _ (rest s i) = endN true R) := Lib.hid (by rw [hR]; exact by rw [HRC.out, h45, HRD1.out]; exact numV_neg d1 _ HBAD1.out)
      rw [← hW]
      clear hW hR
      skip
      go_loopw [8, 9, 10] (fun n bg d wr => ∃ (j m : Nat) (b : Bool), n = .int .u64 m ∧ bg = .bool b ∧ (i + 1) ≤ j ∧ j ≤ s.size ∧ m ≤ 9223372036854775808 ∧ Rdr wr p s j k ∧ Upd p w wr ∧ numL 9223372036854775808 (rest s j) m b = R) (fun _ _ _ wr => s.size - posOf wr p)
      case atStart => exact ⟨(i + 1), 0, false, rfl, rfl, Nat.le_refl _, by omega, by omega, HW.out, HU.out, HR0.out⟩
      case round =>
        obtain ⟨j, m, b, rfl, rfl, hij, hj, hmM, hr, hu, hq⟩ := hrel
        have HRJ := Lib.hid hr
        have HUJ := Lib.hid hu
        have HQJ := Lib.hid hq
        clear hu hq
        have hpr := hr.lt
        have c0 := hr.cell 0 rfl
        have c1 := hr.cell 1 rfl
        have f1 := hr.free 1
        clear hr
        by_cases hjl : j < s.size
        rotate_left
        · have hd : decide ((j : Int) < (s.size : Nat)) = false := decide_eq_false (by omega)
          go_wp2_with fail
          go_quiet (fail)
          go_wp2_with fail
          go_ret
          refine ⟨HUJ.out.below (belowN (Below.refl _ _) _), ?_⟩
          rw [HQ.out, ← HQJ.out, rest_end (by omega)]
          refine ⟨j, by omega, hj, (rest_end (by omega)).symm, ?_, HRJ.out.below (belowN (Below.refl _ _) _)⟩
          exact wneg_ret m (by omega)
        obtain ⟨d, hd⟩ : ∃ d, d = s[j] := ⟨_, rfl⟩
        have HRD : Hid (rest s j = d :: rest s (j + 1)) := Lib.hid (by rw [rest_cons hjl, hd])
        have HDD := Lib.hid hd
        have hd0 : d.toNat < 256 := d.toNat_lt
        by_cases hdig : digB d = true
        rotate_left
        · have hcase : decide ((48 : Int) ≤ (s[j].toNat : Nat)) = false ∨ (decide ((48 : Int) ≤ (s[j].toNat : Nat)) = true ∧ decide ((s[j].toNat : Int) ≤ 57) = false) := by
            simp only [digB, Bool.and_eq_true, decide_eq_true_eq, hd] at hdig
            by_cases h48 : (48 : Int) ≤ (s[j].toNat : Nat)
            · exact .inr ⟨decide_eq_true h48, decide_eq_false (by omega)⟩
            · exact .inl (decide_eq_false h48)
          have hjd : decide ((j : Int) < (s.size : Nat)) = true := decide_eq_true (by omega)
          have hji : (i + 1) < j := Nat.lt_of_le_of_ne hij (fun e => hdig (by subst e; rw [hd]; exact HD0.out))
          clear hd
          rcases hcase with hcase | ⟨hcase, hcase2⟩
          all_goals
            go_wp2_with fail
            go_quiet (fail)
            go_wp2_with fail
            go_ret
            refine ⟨HUJ.out.below (belowN (Below.refl _ _) _), ?_⟩
            rw [HQ.out, ← HQJ.out, HRD.out]
            simp only [numL, if_neg hdig, endN]
            refine ⟨j, by omega, hj, HRD.out.symm, ?_, HRJ.out.below (belowN (Below.refl _ _) _)⟩
            exact wneg_ret m (by omega)
        · have h48 : 48 ≤ d.toNat ∧ d.toNat ≤ 57 := by simpa [digB] using hdig
          have hjd : decide ((j : Int) < (s.size : Nat)) = true := decide_eq_true (by omega)
          have hc1 : decide ((48 : Int) ≤ (s[j].toNat : Nat)) = true := decide_eq_true (by rw [← hd]; omega)
          have hc2 : decide ((s[j].toNat : Int) ≤ 57) = true := decide_eq_true (by rw [← hd]; omega)
          obtain ⟨q, hq⟩ : ∃ q, q = d.toNat - 48 := ⟨_, rfl⟩
          have hqi : ((d.toNat : Int) - 48) % 256 = (q : Int) := by omega
          have hq9 : q ≤ 9 := by omega
          by_cases hbad : (b = true ∧ m = 0) ∨ (9223372036854775808 - q) / 10 < m
          · have HBAD := Lib.hid hbad
            clear hbad
            go_wp2_with fail
            go_quiet (fail)
            go_wp2_with fail
            go_quiet (fail)
            rw [← hd, hqi]
            have HQQ := Lib.hid hq
            clear hq hqi hd
            cases b
            all_goals go_wp2_with (first | (go_at_call 81; refine (wrong_any s j k _ p (HRJ.out.below (belowN (Below.refl _ _) _))).mono ?_; rintro e w3 ⟨hb3, rfl⟩))
            all_goals first
              | (refine ⟨rfl, (HUJ.out.below (belowN (Below.refl _ _) _)).below hb3, ?_⟩
                 rw [HQ.out, ← HQJ.out, HRD.out, numL_bad hdig HQQ.out (by have := HBAD.out; simpa using this)]
                 simp only [endN]
                 exact ⟨j, hj, HRD.out.symm, rfl⟩)
              | (exfalso; rcases HBAD.out with ⟨h, h'⟩ | h <;> first | omega | exact absurd h (by decide) | simp_all)
          · have HBAD := Lib.hid hbad
            have hfit : m * 10 + q ≤ 9223372036854775808 := by omega
            have hm0 : b = true → ¬ m = 0 := fun h1 h2 => hbad (.inl ⟨h1, h2⟩)
            have hnb : ¬ ((9223372036854775808 - (q : Int)) / 10 < m) := by omega
            clear hbad
            go_wp2_with fail
            go_quiet (fail)
            go_wp2_with fail
            go_quiet (fail)
            rw [← hd, hqi]
            have HQQ := Lib.hid hq
            clear hq hqi hd
            cases b
            rotate_left
            · have hm1 := hm0 rfl
              have hmb : ((m : Int) == 0) = false := by simp; omega
              clear hm0
              go_wp2_with fail
              go_roundw
              case rel => exact ⟨j + 1, m * 10 + q, true, by go_num, rfl, by omega, by omega, hfit, Rdr.adv (HRJ.out.below (belowN (Below.refl _ _) _)), (HUJ.out.below (belowN (Below.refl _ _) _)).set 1 _, by rw [← HQJ.out, HRD.out]; exact (numL_step hdig HQQ.out HBAD.out).symm⟩
              case measure => rw [(Rdr.adv (HRJ.out.below (belowN (Below.refl _ _) _))).pos, HRJ.out.pos]; omega
            · clear hm0
              go_wp2_with fail
              go_roundw
              case rel => exact ⟨j + 1, m * 10 + q, true, by go_num, rfl, by omega, by omega, hfit, Rdr.adv (HRJ.out.below (belowN (Below.refl _ _) _)), (HUJ.out.below (belowN (Below.refl _ _) _)).set 1 _, by rw [← HQJ.out, HRD.out]; exact (numL_step hdig HQQ.out HBAD.out).symm⟩
              case measure => rw [(Rdr.adv (HRJ.out.below (belowN (Below.refl _ _) _))).pos, HRJ.out.pos]; omega
end Go.Proofs.YtjmelamllapmiaaGreatDoor
