/- Plain laws: a value's text is read as it; what is read of any text is written as that. -/
import Derived.Test.YtkhpfghehjcfoaaDoorZa
namespace Go.Proofs.YtkhpfghehjcfoaaDoor
open Go.RowKit

theorem valD_snoc (acc : Nat) (a : L8) (c : UInt8) : valD acc (a ++ [c]) = valD acc a * 10 + (c.toNat - 48) := by
  unfold valD; rw [List.foldl_append]; rfl
theorem dg_toNat {n : Nat} (h : n < 10) : (UInt8.ofNat (48 + n)).toNat = 48 + n := by rw [UInt8.toNat_ofNat']; omega
theorem dg_digB {n : Nat} (h : n < 10) : digB (UInt8.ofNat (48 + n)) = true := by
  unfold digB; rw [dg_toNat h]; simp; omega
theorem dec_spec : ∀ (m u : Nat), u ≤ m → valD 0 (Lib.decDigits u) = u ∧ (Lib.decDigits u).all digB = true ∧ Lib.decDigits u ≠ [] ∧ ((Lib.decDigits u).head? = some 48 → u = 0)
  | 0, u, h => by
    obtain rfl : u = 0 := by omega
    rw [Lib.decDigits, dif_pos (by decide)]
    exact ⟨by rw [valD_cons, valD_nil]; rfl, by decide, by simp, fun _ => rfl⟩
  | m + 1, u, h => by
    rw [Lib.decDigits]
    by_cases hu : u < 10
    · rw [dif_pos hu]
      refine ⟨by rw [valD_cons, valD_nil, dg_toNat hu]; omega, by rw [List.all_cons, dg_digB hu]; rfl, by simp, fun e => ?_⟩
      have e2 : UInt8.ofNat (48 + u) = 48 := by simpa using e
      have := congrArg UInt8.toNat e2
      rw [dg_toNat hu] at this
      have h48 : (48 : UInt8).toNat = 48 := rfl
      omega
    · rw [dif_neg hu]
      obtain ⟨h1, h2, h3, h4⟩ := dec_spec m (u / 10) (by omega)
      have hm : u % 10 < 10 := Nat.mod_lt _ (by decide)
      refine ⟨by rw [valD_snoc, h1, dg_toNat hm]; omega, by rw [List.all_append, h2, List.all_cons, dg_digB hm]; rfl, by simp, fun e => ?_⟩
      have : (Lib.decDigits (u / 10)).head? = some 48 := by
        cases hd : Lib.decDigits (u / 10) with
        | nil => exact absurd hd h3
        | cons c t => rw [hd] at e; simpa using e
      have := h4 this
      omega
theorem dec_inv : ∀ (n : Nat) (ds : L8), ds.length ≤ n → ds.all digB = true → ds ≠ [] → (ds.head? = some 48 → ds = [48]) → Lib.decDigits (valD 0 ds) = ds
  | 0, ds, h, _, hne, _ => absurd (List.eq_nil_of_length_eq_zero (by omega)) hne
  | n + 1, ds, h, hall, hne, hz => by
    obtain ⟨a, c, rfl⟩ : ∃ a c, ds = a ++ [c] := ⟨ds.dropLast, ds.getLast hne, (List.dropLast_concat_getLast hne).symm⟩
    rw [List.all_append, Bool.and_eq_true] at hall
    have hc : digB c = true := by simpa using hall.2
    have hc2 := hc
    simp only [digB, Bool.and_eq_true, decide_eq_true_eq] at hc2
    rw [valD_snoc]
    have hcc : UInt8.ofNat (48 + (c.toNat - 48)) = c := by rw [show 48 + (c.toNat - 48) = c.toNat by omega]; exact UInt8.ofNat_toNat
    by_cases ha : a = []
    · subst ha
      rw [valD_nil, Lib.decDigits, dif_pos (by omega), Nat.zero_mul, Nat.zero_add, hcc]; rfl
    · have hza : a.head? = some 48 → a = [48] := fun e => by
        exfalso
        have : (a ++ [c]).head? = some 48 := by
          cases a with
          | nil => exact absurd rfl ha
          | cons d t => simpa using e
        have := hz this
        have hl := congrArg List.length this
        simp at hl
        exact ha hl
      simp only [List.length_append, List.length_cons, List.length_nil] at h
      have ih := dec_inv n a (by omega) hall.1 ha hza
      have hpos : 0 < valD 0 a := by
        apply Nat.pos_of_ne_zero
        intro e
        rw [e, Lib.decDigits, dif_pos (by decide)] at ih
        have : (a ++ [c]).head? = some 48 := by rw [← ih]; rfl
        have := hz this
        have hl := congrArg List.length this
        simp at hl
        exact ha hl
      rw [Lib.decDigits, dif_neg (by omega), show (valD 0 a * 10 + (c.toNat - 48)) / 10 = valD 0 a by omega, show (valD 0 a * 10 + (c.toNat - 48)) % 10 = c.toNat - 48 by omega, ih, hcc]
theorem numL_stop (most n : Nat) (b : Bool) {r : L8} (h : dig0 r = false) : numL most r n b = .ok n r := by
  cases r with
  | nil => rw [numL]
  | cons c t => rw [numL, if_neg (by simpa [dig0] using h)]
theorem numL_run (most : Nat) : ∀ (ds r : L8) (n : Nat), ds.all digB = true → dig0 r = false → 0 < n → valD n ds ≤ most → numL most (ds ++ r) n true = .ok (valD n ds) r
  | [], r, n, _, hr, _, _ => by rw [List.nil_append, numL_stop most n true hr, valD_nil]
  | c :: ds, r, n, hall, hr, hn, hm => by
    simp only [List.all_cons, Bool.and_eq_true] at hall
    rw [valD_cons] at hm ⊢
    have hge := valD_ge ds (n * 10 + (c.toNat - 48))
    show numL most (c :: (ds ++ r)) n true = _
    rw [numL, if_pos hall.1, if_neg (by rintro (⟨_, h⟩ | h) <;> omega), numL_run most ds r _ hall.2 hr (by omega) hm]
theorem numL_start (most : Nat) (c : UInt8) (ds r : L8) (hc : digB c = true) (hall : ds.all digB = true) (hr : dig0 r = false) (h0 : c = 48 → ds = []) (hm : valD 0 (c :: ds) ≤ most) : numL most (c :: (ds ++ r)) 0 false = .ok (valD 0 (c :: ds)) r := by
  rw [valD_cons] at hm ⊢
  rw [numL, if_pos hc, if_neg (by rintro (⟨h, _⟩ | h); cases h; omega)]
  by_cases h : c = 48
  · rw [h0 h, h, List.nil_append]
    rw [numL_stop most _ true hr, valD_nil]
  · have hc2 := hc
    simp only [digB, Bool.and_eq_true, decide_eq_true_eq] at hc2
    have : c.toNat ≠ 48 := fun e => h (UInt8.toNat_inj.1 e)
    exact numL_run most ds r _ hall hr (by omega) hm
theorem numL_inv (most : Nat) : ∀ (t : L8) (n m : Nat) (r : L8), 0 < n → n ≤ most → numL most t n true = .ok m r → ∃ ds, t = ds ++ r ∧ ds.all digB = true ∧ m = valD n ds ∧ m ≤ most ∧ dig0 r = false
  | [], n, m, r, _, hn, h => by
    rw [numL] at h
    injection h with e1 e2
    subst e1 e2
    exact ⟨[], rfl, rfl, (valD_nil _).symm, hn, rfl⟩
  | c :: t, n, m, r, hp, hn, h => by
    rw [numL] at h
    by_cases hc : digB c = true
    · rw [if_pos hc] at h
      by_cases hb : (true = true ∧ n = 0) ∨ (most - (c.toNat - 48)) / 10 < n
      · rw [if_pos hb] at h; cases h
      rw [if_neg hb] at h
      have hc2 := hc
      simp only [digB, Bool.and_eq_true, decide_eq_true_eq] at hc2
      obtain ⟨ds, e1, e2, e3, e4, e5⟩ := numL_inv most t _ m r (by omega) (by omega) h
      exact ⟨c :: ds, by rw [e1]; rfl, by rw [List.all_cons, hc, e2]; rfl, by rw [valD_cons]; exact e3, e4, e5⟩
    · rw [if_neg hc] at h
      injection h with e1 e2
      subst e1 e2
      exact ⟨[], rfl, rfl, (valD_nil _).symm, hn, by simpa [dig0] using hc⟩
theorem numL_inv0 (most : Nat) (hmo : 9 ≤ most) (c : UInt8) (t : L8) (m : Nat) (r : L8) (hc : digB c = true) (h : numL most (c :: t) 0 false = .ok m r) : ∃ ds, c :: t = (c :: ds) ++ r ∧ ds.all digB = true ∧ m = valD 0 (c :: ds) ∧ m ≤ most ∧ dig0 r = false ∧ (c = 48 → ds = []) := by
  have hc2 := hc
  simp only [digB, Bool.and_eq_true, decide_eq_true_eq] at hc2
  rw [numL, if_pos hc, if_neg (by rintro (⟨h, _⟩ | h); cases h; omega)] at h
  by_cases h48 : c = 48
  · have h48n : c.toNat = 48 := by rw [h48]; rfl
    rw [show 0 * 10 + (c.toNat - 48) = 0 by omega, numL_zero] at h
    by_cases hd : dig0 t = true
    · rw [if_pos hd] at h; cases h
    · rw [if_neg hd] at h
      injection h with e1 e2
      subst e1 e2
      exact ⟨[], rfl, rfl, by rw [valD_cons, valD_nil]; omega, by omega, by simpa using hd, fun _ => rfl⟩
  · have : c.toNat ≠ 48 := fun e => h48 (UInt8.toNat_inj.1 e)
    obtain ⟨ds, e1, e2, e3, e4, e5⟩ := numL_inv most t _ m r (by omega) (by omega) h
    exact ⟨ds, by rw [e1]; rfl, e2, by rw [valD_cons]; exact e3, e4, e5, fun e => absurd e h48⟩
theorem dec_cons (u : Nat) : ∃ c ds, Lib.decDigits u = c :: ds ∧ digB c = true ∧ ds.all digB = true ∧ (c = 48 → u = 0 ∧ ds = []) ∧ valD 0 (c :: ds) = u := by
  obtain ⟨h1, h2, h3, h4⟩ := dec_spec u u (Nat.le_refl _)
  cases hd : Lib.decDigits u with
  | nil => exact absurd hd h3
  | cons c ds =>
    rw [hd] at h1 h2 h4
    simp only [List.all_cons, Bool.and_eq_true] at h2
    refine ⟨c, ds, rfl, h2.1, h2.2, fun e => ?_, h1⟩
    have hu := h4 (by rw [e]; rfl)
    refine ⟨hu, ?_⟩
    rw [hu, Lib.decDigits, dif_pos (by decide)] at hd
    injection hd with _ e2
    exact e2.symm
/-- A number's text is read as it. -/
theorem num_text (n : Int) (h0 : -9223372036854775808 ≤ n) (h1 : n ≤ 9223372036854775807) (r : L8) (hr : dig0 r = false) : numV true (Lib.itoa n ++ r) = .ok n r := by
  by_cases hn : n < 0
  · obtain ⟨u, hu⟩ : ∃ u : Nat, n = -(u : Int) := ⟨n.natAbs, by omega⟩
    subst hu
    obtain ⟨c, ds, e1, e2, e3, e4, e5⟩ := dec_cons u
    rw [Lib.itoa_neg u (by omega), e1]
    have h48 : c ≠ 48 := fun e => by have := (e4 e).1; omega
    have hc2 := e2
    simp only [digB, Bool.and_eq_true, decide_eq_true_eq] at hc2
    have hcn : c.toNat ≠ 48 := fun e => h48 (UInt8.toNat_inj.1 e)
    show numV true (45 :: c :: (ds ++ r)) = _
    unfold numV
    simp only
    rw [if_pos (by simp)]
    rw [if_neg (by omega), numL_start (posM + 1) c ds r e2 e3 hr (fun e => (e4 e).2) (by rw [e5]; show u ≤ 9223372036854775808; omega), e5]
  · obtain ⟨u, hu⟩ : ∃ u : Nat, n = (u : Int) := ⟨n.toNat, by omega⟩
    subst hu
    obtain ⟨c, ds, e1, e2, e3, e4, e5⟩ := dec_cons u
    rw [Lib.itoa_nonneg u, e1]
    have hc45 : c ≠ 45 := by rintro rfl; exact absurd e2 (by decide)
    show numV true (c :: (ds ++ r)) = _
    unfold numV
    simp only
    rw [if_neg (fun h => hc45 h.2), numL_start posM c ds r e2 e3 hr (fun e => (e4 e).2) (by rw [e5]; show u ≤ 9223372036854775807; omega), e5]
theorem ref_text (n : Int) (h0 : 1 ≤ n) (h1 : n ≤ 9223372036854775807) (r : L8) (hr : dig0 r = false) : ∃ c t, Lib.itoa n ++ r = c :: t ∧ 49 ≤ c.toNat ∧ c.toNat ≤ 57 ∧ numV false (c :: t) = .ok n r := by
  obtain ⟨u, hu⟩ : ∃ u : Nat, n = (u : Int) := ⟨n.toNat, by omega⟩
  subst hu
  obtain ⟨c, ds, e1, e2, e3, e4, e5⟩ := dec_cons u
  have h48 : c ≠ 48 := fun e => by have := (e4 e).1; omega
  have hc2 := e2
  simp only [digB, Bool.and_eq_true, decide_eq_true_eq] at hc2
  have hcn : c.toNat ≠ 48 := fun e => h48 (UInt8.toNat_inj.1 e)
  refine ⟨c, ds ++ r, by rw [Lib.itoa_nonneg u, e1]; rfl, by omega, by omega, ?_⟩
  unfold numV
  simp only
  rw [if_neg (fun h => Bool.noConfusion h.1), numL_start posM c ds r e2 e3 hr (fun e => (e4 e).2) (by rw [e5]; show u ≤ 9223372036854775807; omega), e5]
/-- What is read as a number is its text. -/
theorem text_num (c : UInt8) (t : L8) (n : Int) (r : L8) (hc : c = 45 ∨ digB c = true) (h : numV true (c :: t) = .ok n r) : c :: t = Lib.itoa n ++ r ∧ dig0 r = false ∧ -9223372036854775808 ≤ n ∧ n ≤ 9223372036854775807 := by
  unfold numV at h
  simp only at h
  by_cases h45 : c = 45
  · rw [if_pos (by simp [h45])] at h
    cases t with
    | nil => cases h
    | cons d t =>
      simp only at h
      by_cases hd : d.toNat < 49 ∨ 57 < d.toNat
      · rw [if_pos hd] at h; cases h
      rw [if_neg hd] at h
      have hdd : digB d = true := by unfold digB; simp; omega
      cases hL : numL (posM + 1) (d :: t) 0 false with
      | no r2 => rw [hL] at h; cases h
      | ok m r2 =>
        rw [hL] at h
        injection h with e1 e2
        subst e2
        obtain ⟨ds, g1, g2, g3, g4, g5, g6⟩ := numL_inv0 (posM + 1) (by decide) d t m r2 hdd hL
        have h48 : d ≠ 48 := by rintro rfl; exact hd (.inl (by decide))
        have hdec := dec_inv _ (d :: ds) (Nat.le_refl _) (by rw [List.all_cons, hdd, g2]; rfl) (by simp) (fun e => absurd (by simpa using e) h48)
        rw [← g3] at hdec
        have hm : 1 ≤ m := by
          have := valD_ge ds (0 * 10 + (d.toNat - 48))
          rw [g3, valD_cons]; omega
        refine ⟨?_, g5, by rw [← e1]; have : m ≤ 9223372036854775808 := g4; omega, by rw [← e1]; omega⟩
        rw [← e1, Lib.itoa_neg m hm, hdec, h45, g1]; rfl
  · have hdc := hc.resolve_left h45
    rw [if_neg (fun h => h45 h.2)] at h
    cases hL : numL posM (c :: t) 0 false with
    | no r2 => rw [hL] at h; cases h
    | ok m r2 =>
      rw [hL] at h
      injection h with e1 e2
      subst e2
      obtain ⟨ds, g1, g2, g3, g4, g5, g6⟩ := numL_inv0 posM (by decide) c t m r2 hdc hL
      have hdec := dec_inv _ (c :: ds) (Nat.le_refl _) (by rw [List.all_cons, hdc, g2]; rfl) (by simp) (fun e => by
        have : c = 48 := by simpa using e
        rw [g6 this, this])
      rw [← g3] at hdec
      refine ⟨?_, g5, by rw [← e1]; omega, by rw [← e1]; have : m ≤ 9223372036854775807 := g4; omega⟩
      rw [← e1, Lib.itoa_nonneg m, hdec, g1]
theorem text_ref (c : UInt8) (t : L8) (n : Int) (r : L8) (hc : 49 ≤ c.toNat ∧ c.toNat ≤ 57) (h : numV false (c :: t) = .ok n r) : c :: t = Lib.itoa n ++ r ∧ dig0 r = false ∧ 1 ≤ n ∧ n ≤ 9223372036854775807 := by
  have hdc : digB c = true := by unfold digB; simp; omega
  unfold numV at h
  simp only at h
  rw [if_neg (fun h => Bool.noConfusion h.1)] at h
  cases hL : numL posM (c :: t) 0 false with
  | no r2 => rw [hL] at h; cases h
  | ok m r2 =>
    rw [hL] at h
    injection h with e1 e2
    subst e2
    obtain ⟨ds, g1, g2, g3, g4, g5, g6⟩ := numL_inv0 posM (by decide) c t m r2 hdc hL
    have h48 : c ≠ 48 := by rintro rfl; exact absurd hc.1 (by decide)
    have hdec := dec_inv _ (c :: ds) (Nat.le_refl _) (by rw [List.all_cons, hdc, g2]; rfl) (by simp) (fun e => absurd (by simpa using e) h48)
    rw [← g3] at hdec
    have hm : 1 ≤ m := by
      have := valD_ge ds (0 * 10 + (c.toNat - 48))
      rw [g3, valD_cons]; omega
    refine ⟨?_, g5, by rw [← e1]; omega, by rw [← e1]; have : m ≤ 9223372036854775807 := g4; omega⟩
    rw [← e1, Lib.itoa_nonneg m, hdec, g1]
end Go.Proofs.YtkhpfghehjcfoaaDoor
