/- Plain laws: a quoted form is told back as the bytes, and a value's text read back as the value; what is read is written as it was. Plain laws: a value's text is read as it; what is read of any text is written as that. Plain laws: a value's text is read as it; what is read of any text is written as that: lists, whole values. -/
import Derived.Test.YtjmelamllapmiaaGreatDoorM
import Derived.Test.YtjmelamllapmiaaGreatDoorJ
import Derived.Test.YtjmelamllapmiaaGreatDoorSb
import Derived.Test.YtjmelamllapmiaaGreatDoorO
namespace Go.Proofs.YtjmelamllapmiaaGreatDoor
open Go.RowKit

theorem hex_hi : ∀ c : Fin 256, hexD (hexc (c.val / 16)) = some (c.val / 16) ∧ hexD (hexc (c.val % 16)) = some (c.val % 16) := by decide +kernel
theorem qa_92 (most : Nat) (t b : L8) (h : b.length < most) : qa most .run (92 :: t) b = qa most .bs t b := by
  rw [qa, if_neg (by decide), if_neg (by rintro (h1 | h1 | h1); · omega
                                         · exact absurd h1 (by decide)
                                         · exact absurd h1 (by decide)), if_pos rfl]
theorem u8_of_parts (c : UInt8) : UInt8.ofNat (c.toNat / 16 * 16 + c.toNat % 16) = c := by
  rw [show c.toNat / 16 * 16 + c.toNat % 16 = c.toNat by omega]
  exact UInt8.ofNat_toNat
theorem qb_step (most : Nat) (c : UInt8) (t b : L8) (h : b.length < most) : qa most .run (qb c ++ t) b = qa most .run t (b ++ [c]) := by
  have hc := c.toNat_lt
  unfold qb
  by_cases h1 : c = 34 ∨ c = 92
  · rw [if_pos h1]
    show qa most .run (92 :: c :: t) b = _
    rw [qa_92 _ _ _ h, qa, if_pos h1]
  rw [if_neg h1]
  by_cases h2 : c = 10
  · rw [if_pos h2]
    show qa most .run (92 :: 110 :: t) b = _
    rw [qa_92 _ _ _ h, qa, if_neg (by decide), if_pos rfl, h2]
  rw [if_neg h2]
  by_cases h3 : c.toNat < 32 ∨ 126 < c.toNat
  · rw [if_pos h3]
    show qa most .run (92 :: 120 :: hexc (c.toNat / 16) :: hexc (c.toNat % 16) :: t) b = _
    obtain ⟨e1, e2⟩ := hex_hi ⟨c.toNat, hc⟩
    simp only at e1 e2
    have h10 : c.toNat ≠ 10 := fun e => h2 (UInt8.toNat_inj.1 e)
    rw [qa_92 _ _ _ h, qa, if_neg (by decide), if_neg (by decide), if_pos rfl, qa, e1]
    simp only
    rw [if_neg (by omega), qa, e2]
    simp only
    rw [if_neg (by omega), u8_of_parts]
  · rw [if_neg h3]
    show qa most .run (c :: t) b = _
    have k1 : c ≠ 34 := fun e => h1 (.inl e)
    have k2 : c ≠ 92 := fun e => h1 (.inr e)
    rw [qa, if_neg k1, if_neg (by omega), if_neg k2]
theorem qa_qbs (most : Nat) (r : L8) : ∀ (l b : L8), b.length + l.length ≤ most → qa most .run (qbs l ++ 34 :: r) b = .ok (b ++ l) r
  | [], b, _ => by
    show qa most .run (34 :: r) b = _
    rw [qa, if_pos rfl, List.append_nil]
  | c :: l, b, h => by
    simp only [List.length_cons] at h
    rw [qbs, List.append_assoc, qb_step most c _ b (by omega), qa_qbs most r l (b ++ [c]) (by simp; omega)]
    simp
theorem hex_inv : ∀ c : Fin 256, ∀ a, hexD (UInt8.ofNat c.val) = some a → hexc a = UInt8.ofNat c.val ∧ a < 16 := by decide +kernel
theorem hexD_inv {h : UInt8} {a : Nat} (e : hexD h = some a) : hexc a = h ∧ a < 16 := by
  have := hex_inv ⟨h.toNat, h.toNat_lt⟩ a
  simp only [UInt8.ofNat_toNat] at this
  exact this e
theorem esc_qb {t r : L8} {x : UInt8} (h : esc t = .ok x r) : 92 :: t = qb x ++ r := by
  cases t with
  | nil => cases h
  | cons c t =>
    unfold esc at h
    simp only at h
    by_cases h1 : c = 34 ∨ c = 92
    · rw [if_pos h1] at h
      injection h with e1 e2
      subst e1 e2
      unfold qb; rw [if_pos h1]; rfl
    rw [if_neg h1] at h
    by_cases h2 : c = 110
    · rw [if_pos h2] at h
      injection h with e1 e2
      subst e1 e2 h2
      rfl
    rw [if_neg h2] at h
    by_cases h3 : c = 120
    rotate_left
    · rw [if_neg h3] at h; cases h
    rw [if_pos h3] at h
    subst h3
    cases t with
    | nil => cases h
    | cons g u =>
      simp only at h
      cases hg : hexD g with
      | none => rw [hg] at h; cases h
      | some a =>
        rw [hg] at h
        simp only at h
        obtain ⟨ea, ha⟩ := hexD_inv hg
        by_cases h4 : 2 ≤ a ∧ a ≤ 6
        · rw [if_pos h4] at h; cases h
        rw [if_neg h4] at h
        cases u with
        | nil => cases h
        | cons l u =>
          simp only at h
          cases hl : hexD l with
          | none => rw [hl] at h; cases h
          | some d =>
            rw [hl] at h
            simp only at h
            obtain ⟨ed, hd⟩ := hexD_inv hl
            by_cases h5 : (a = 0 ∧ d = 10) ∨ (a = 7 ∧ d ≠ 15)
            · rw [if_pos h5] at h; cases h
            rw [if_neg h5] at h
            injection h with e1 e2
            subst e2
            have hx : x.toNat = a * 16 + d := by rw [← e1, UInt8.toNat_ofNat']; omega
            have k1 : ¬ (x = 34 ∨ x = 92) := by
              rintro (e | e) <;> rw [e] at hx
              · have : (34 : UInt8).toNat = 34 := rfl
                omega
              · have : (92 : UInt8).toNat = 92 := rfl
                omega
            have k2 : x ≠ 10 := by
              intro e
              rw [e] at hx
              have : (10 : UInt8).toNat = 10 := rfl
              omega
            unfold qb
            rw [if_neg k1, if_neg k2, if_pos (by omega)]
            rw [show x.toNat / 16 = a by omega, show x.toNat % 16 = d by omega, ea, ed]
            rfl
theorem qa_inv (most : Nat) : ∀ (n : Nat) (t b x r : L8), t.length ≤ n → qa most .run t b = .ok x r → ∃ l, x = b ++ l ∧ t = qbs l ++ 34 :: r ∧ (most ≤ b.length → l = []) ∧ (b.length ≤ most → b.length + l.length ≤ most)
  | n, [], b, x, r, _, h => by rw [qa] at h; cases h
  | 0, c :: t, b, x, r, hn, h => by simp at hn
  | n + 1, c :: t, b, x, r, hn, h => by
    simp only [List.length_cons] at hn
    rw [qa] at h
    by_cases h1 : c = 34
    · rw [if_pos h1] at h
      injection h with e1 e2
      subst e1 e2 h1
      exact ⟨[], by simp, rfl, fun _ => rfl, fun h => by simpa using h⟩
    rw [if_neg h1] at h
    by_cases h2 : most ≤ b.length ∨ c.toNat < 32 ∨ 126 < c.toNat
    · rw [if_pos h2] at h; cases h
    rw [if_neg h2] at h
    by_cases h3 : c = 92
    · rw [if_pos h3, qa_bs] at h
      subst h3
      cases hE : esc t with
      | no t2 => rw [hE] at h; cases h
      | ok y t2 =>
        rw [hE] at h
        have e := esc_qb hE
        have hl := congrArg List.length e
        have hq := (qb_len y).1
        have hq2 : 2 ≤ (qb y).length := by
          by_cases g1 : y = 34 ∨ y = 92
          · unfold qb; rw [if_pos g1]; simp
          by_cases g2 : y = 10
          · unfold qb; rw [if_neg g1, if_pos g2]; simp
          by_cases g3 : y.toNat < 32 ∨ 126 < y.toNat
          · unfold qb; rw [if_neg g1, if_neg g2, if_pos g3]; simp
          · exfalso
            have e' := e
            unfold qb at e'
            rw [if_neg g1, if_neg g2, if_neg g3] at e'
            injection e' with e5 _
            exact g1 (.inr e5.symm)
        simp only [List.length_cons, List.length_append] at hl
        obtain ⟨l, e1, e2, e3, e4⟩ := qa_inv most n t2 (b ++ [y]) x r (by omega) h
        refine ⟨y :: l, by rw [e1]; simp, by rw [e, e2, qbs, List.append_assoc], fun h => absurd (.inl h) h2, fun h => ?_⟩
        have := e4 (by simp; omega)
        simp at this ⊢
        omega
    · rw [if_neg h3] at h
      obtain ⟨l, e1, e2, e3, e4⟩ := qa_inv most n t (b ++ [c]) x r (by omega) h
      have hq : qb c = [c] := by
        have k10 : c ≠ 10 := by
          intro e
          rw [e] at h2
          exact h2 (.inr (.inl (by decide)))
        unfold qb
        rw [if_neg (by rintro (e | e); exact h1 e; exact h3 e), if_neg k10, if_neg (by omega)]
      refine ⟨c :: l, by rw [e1]; simp, by rw [e2, qbs, hq]; rfl, fun h => absurd (.inl h) h2, fun h => ?_⟩
      have := e4 (by simp; omega)
      simp at this ⊢
      omega
/-- Bytes quoted are told back. -/
theorem unq_quote (l : L8) (most : Nat) (h : l.length ≤ most) : unqL most (quoteL l) = .ok l [] := by
  unfold unqL quo quoteL
  simp only [if_true]
  rw [show qbs l ++ [34] = qbs l ++ 34 :: [] from rfl, qa_qbs most [] l [] (by simpa using h)]
  simp
/-- What was taken as a quoted form is that of what was told. -/
theorem quote_unq (most : Nat) (t b r : L8) (h : unqL most t = .ok b r) : quoteL b = t := by
  unfold unqL at h
  cases hq : quo most t with
  | no t2 => rw [hq] at h; cases h
  | ok b2 t2 =>
    rw [hq] at h
    cases t2 with
    | cons c u => cases h
    | nil =>
      injection h with e1 e2
      subst e1
      cases t with
      | nil => cases hq
      | cons c u =>
        unfold quo at hq
        simp only at hq
        by_cases h34 : c = 34
        · rw [if_pos h34] at hq
          obtain ⟨l, e1, e2, -, -⟩ := qa_inv most _ u [] b2 [] (Nat.le_refl _) hq
          rw [List.nil_append] at e1
          subst e1 h34
          rw [e2]; rfl
        · rw [if_neg h34] at hq; cases hq
end Go.Proofs.YtjmelamllapmiaaGreatDoor
namespace Go.Proofs.YtjmelamllapmiaaGreatDoor
open Go.RowKit

theorem valD_snoc (acc : Nat) (a : L8) (c : UInt8) : valD acc (a ++ [c]) = valD acc a * 10 + (c.toNat - 48) := by
  unfold valD; rw [List.foldl_append]; rfl
theorem dg_toNat {n : Nat} (h : n < 10) : (UInt8.ofNat (48 + n)).toNat = 48 + n := by rw [UInt8.toNat_ofNat']; omega
theorem dg_digB {n : Nat} (h : n < 10) : digB (UInt8.ofNat (48 + n)) = true := by
  unfold digB; rw [dg_toNat h]; simp; omega
theorem dec_spec : ∀ (m u : Nat), u ≤ m → valD 0 (Lib.decDigits u) = u ∧ (Lib.decDigits u).all digB = true ∧ Lib.decDigits u ≠ [] ∧ ((Lib.decDigits u).head? = some 48 → u = 0)
  | 0, u, h => by
    obtain rfl : u = 0 := by omega
    rw [Lib.decDigits, dif_pos (by decide)]
    exact ⟨by rw [valD_cons, valD_nil]; rfl, by decide, by simp, fun _ => rfl⟩
  | m + 1, u, h => by
    rw [Lib.decDigits]
    by_cases hu : u < 10
    · rw [dif_pos hu]
      refine ⟨by rw [valD_cons, valD_nil, dg_toNat hu]; omega, by rw [List.all_cons, dg_digB hu]; rfl, by simp, fun e => ?_⟩
      have e2 : UInt8.ofNat (48 + u) = 48 := by simpa using e
      have := congrArg UInt8.toNat e2
      rw [dg_toNat hu] at this
      have h48 : (48 : UInt8).toNat = 48 := rfl
      omega
    · rw [dif_neg hu]
      obtain ⟨h1, h2, h3, h4⟩ := dec_spec m (u / 10) (by omega)
      have hm : u % 10 < 10 := Nat.mod_lt _ (by decide)
      refine ⟨by rw [valD_snoc, h1, dg_toNat hm]; omega, by rw [List.all_append, h2, List.all_cons, dg_digB hm]; rfl, by simp, fun e => ?_⟩
      have : (Lib.decDigits (u / 10)).head? = some 48 := by
        cases hd : Lib.decDigits (u / 10) with
        | nil => exact absurd hd h3
        | cons c t => rw [hd] at e; simpa using e
      have := h4 this
      omega
theorem dec_inv : ∀ (n : Nat) (ds : L8), ds.length ≤ n → ds.all digB = true → ds ≠ [] → (ds.head? = some 48 → ds = [48]) → Lib.decDigits (valD 0 ds) = ds
  | 0, ds, h, _, hne, _ => absurd (List.eq_nil_of_length_eq_zero (by omega)) hne
  | n + 1, ds, h, hall, hne, hz => by
    obtain ⟨a, c, rfl⟩ : ∃ a c, ds = a ++ [c] := ⟨ds.dropLast, ds.getLast hne, (List.dropLast_concat_getLast hne).symm⟩
    rw [List.all_append, Bool.and_eq_true] at hall
    have hc : digB c = true := by simpa using hall.2
    have hc2 := hc
    simp only [digB, Bool.and_eq_true, decide_eq_true_eq] at hc2
    rw [valD_snoc]
    have hcc : UInt8.ofNat (48 + (c.toNat - 48)) = c := by rw [show 48 + (c.toNat - 48) = c.toNat by omega]; exact UInt8.ofNat_toNat
    by_cases ha : a = []
    · subst ha
      rw [valD_nil, Lib.decDigits, dif_pos (by omega), Nat.zero_mul, Nat.zero_add, hcc]; rfl
    · have hza : a.head? = some 48 → a = [48] := fun e => by
        exfalso
        have : (a ++ [c]).head? = some 48 := by
          cases a with
          | nil => exact absurd rfl ha
          | cons d t => simpa using e
        have := hz this
        have hl := congrArg List.length this
        simp at hl
        exact ha hl
      simp only [List.length_append, List.length_cons, List.length_nil] at h
      have ih := dec_inv n a (by omega) hall.1 ha hza
      have hpos : 0 < valD 0 a := by
        apply Nat.pos_of_ne_zero
        intro e
        rw [e, Lib.decDigits, dif_pos (by decide)] at ih
        have : (a ++ [c]).head? = some 48 := by rw [← ih]; rfl
        have := hz this
        have hl := congrArg List.length this
        simp at hl
        exact ha hl
      rw [Lib.decDigits, dif_neg (by omega), show (valD 0 a * 10 + (c.toNat - 48)) / 10 = valD 0 a by omega, show (valD 0 a * 10 + (c.toNat - 48)) % 10 = c.toNat - 48 by omega, ih, hcc]
theorem numL_stop (most n : Nat) (b : Bool) {r : L8} (h : dig0 r = false) : numL most r n b = .ok n r := by
  cases r with
  | nil => rw [numL]
  | cons c t => rw [numL, if_neg (by simpa [dig0] using h)]
theorem numL_run (most : Nat) : ∀ (ds r : L8) (n : Nat), ds.all digB = true → dig0 r = false → 0 < n → valD n ds ≤ most → numL most (ds ++ r) n true = .ok (valD n ds) r
  | [], r, n, _, hr, _, _ => by rw [List.nil_append, numL_stop most n true hr, valD_nil]
  | c :: ds, r, n, hall, hr, hn, hm => by
    simp only [List.all_cons, Bool.and_eq_true] at hall
    rw [valD_cons] at hm ⊢
    have hge := valD_ge ds (n * 10 + (c.toNat - 48))
    show numL most (c :: (ds ++ r)) n true = _
    rw [numL, if_pos hall.1, if_neg (by rintro (⟨_, h⟩ | h) <;> omega), numL_run most ds r _ hall.2 hr (by omega) hm]
theorem numL_start (most : Nat) (c : UInt8) (ds r : L8) (hc : digB c = true) (hall : ds.all digB = true) (hr : dig0 r = false) (h0 : c = 48 → ds = []) (hm : valD 0 (c :: ds) ≤ most) : numL most (c :: (ds ++ r)) 0 false = .ok (valD 0 (c :: ds)) r := by
  rw [valD_cons] at hm ⊢
  rw [numL, if_pos hc, if_neg (by rintro (⟨h, _⟩ | h); cases h; omega)]
  by_cases h : c = 48
  · rw [h0 h, h, List.nil_append]
    rw [numL_stop most _ true hr, valD_nil]
  · have hc2 := hc
    simp only [digB, Bool.and_eq_true, decide_eq_true_eq] at hc2
    have : c.toNat ≠ 48 := fun e => h (UInt8.toNat_inj.1 e)
    exact numL_run most ds r _ hall hr (by omega) hm
theorem numL_inv (most : Nat) : ∀ (t : L8) (n m : Nat) (r : L8), 0 < n → n ≤ most → numL most t n true = .ok m r → ∃ ds, t = ds ++ r ∧ ds.all digB = true ∧ m = valD n ds ∧ m ≤ most ∧ dig0 r = false
  | [], n, m, r, _, hn, h => by
    rw [numL] at h
    injection h with e1 e2
    subst e1 e2
    exact ⟨[], rfl, rfl, (valD_nil _).symm, hn, rfl⟩
  | c :: t, n, m, r, hp, hn, h => by
    rw [numL] at h
    by_cases hc : digB c = true
    · rw [if_pos hc] at h
      by_cases hb : (true = true ∧ n = 0) ∨ (most - (c.toNat - 48)) / 10 < n
      · rw [if_pos hb] at h; cases h
      rw [if_neg hb] at h
      have hc2 := hc
      simp only [digB, Bool.and_eq_true, decide_eq_true_eq] at hc2
      obtain ⟨ds, e1, e2, e3, e4, e5⟩ := numL_inv most t _ m r (by omega) (by omega) h
      exact ⟨c :: ds, by rw [e1]; rfl, by rw [List.all_cons, hc, e2]; rfl, by rw [valD_cons]; exact e3, e4, e5⟩
    · rw [if_neg hc] at h
      injection h with e1 e2
      subst e1 e2
      exact ⟨[], rfl, rfl, (valD_nil _).symm, hn, by simpa [dig0] using hc⟩
theorem numL_inv0 (most : Nat) (hmo : 9 ≤ most) (c : UInt8) (t : L8) (m : Nat) (r : L8) (hc : digB c = true) (h : numL most (c :: t) 0 false = .ok m r) : ∃ ds, c :: t = (c :: ds) ++ r ∧ ds.all digB = true ∧ m = valD 0 (c :: ds) ∧ m ≤ most ∧ dig0 r = false ∧ (c = 48 → ds = []) := by
  have hc2 := hc
  simp only [digB, Bool.and_eq_true, decide_eq_true_eq] at hc2
  rw [numL, if_pos hc, if_neg (by rintro (⟨h, _⟩ | h); cases h; omega)] at h
  by_cases h48 : c = 48
  · have h48n : c.toNat = 48 := by rw [h48]; rfl
    rw [show 0 * 10 + (c.toNat - 48) = 0 by omega, numL_zero] at h
    by_cases hd : dig0 t = true
    · rw [if_pos hd] at h; cases h
    · rw [if_neg hd] at h
      injection h with e1 e2
      subst e1 e2
      exact ⟨[], rfl, rfl, by rw [valD_cons, valD_nil]; omega, by omega, by simpa using hd, fun _ => rfl⟩
  · have : c.toNat ≠ 48 := fun e => h48 (UInt8.toNat_inj.1 e)
    obtain ⟨ds, e1, e2, e3, e4, e5⟩ := numL_inv most t _ m r (by omega) (by omega) h
    exact ⟨ds, by rw [e1]; rfl, e2, by rw [valD_cons]; exact e3, e4, e5, fun e => absurd e h48⟩
theorem dec_cons (u : Nat) : ∃ c ds, Lib.decDigits u = c :: ds ∧ digB c = true ∧ ds.all digB = true ∧ (c = 48 → u = 0 ∧ ds = []) ∧ valD 0 (c :: ds) = u := by
  obtain ⟨h1, h2, h3, h4⟩ := dec_spec u u (Nat.le_refl _)
  cases hd : Lib.decDigits u with
  | nil => exact absurd hd h3
  | cons c ds =>
    rw [hd] at h1 h2 h4
    simp only [List.all_cons, Bool.and_eq_true] at h2
    refine ⟨c, ds, rfl, h2.1, h2.2, fun e => ?_, h1⟩
    have hu := h4 (by rw [e]; rfl)
    refine ⟨hu, ?_⟩
    rw [hu, Lib.decDigits, dif_pos (by decide)] at hd
    injection hd with _ e2
    exact e2.symm
/-- A number's text is read as it. -/
theorem num_text (n : Int) (h0 : -9223372036854775808 ≤ n) (h1 : n ≤ 9223372036854775807) (r : L8) (hr : dig0 r = false) : numV true (Lib.itoa n ++ r) = .ok n r := by
  by_cases hn : n < 0
  · obtain ⟨u, hu⟩ : ∃ u : Nat, n = -(u : Int) := ⟨n.natAbs, by omega⟩
    subst hu
    obtain ⟨c, ds, e1, e2, e3, e4, e5⟩ := dec_cons u
    rw [Lib.itoa_neg u (by omega), e1]
    have h48 : c ≠ 48 := fun e => by have := (e4 e).1; omega
    have hc2 := e2
    simp only [digB, Bool.and_eq_true, decide_eq_true_eq] at hc2
    have hcn : c.toNat ≠ 48 := fun e => h48 (UInt8.toNat_inj.1 e)
    show numV true (45 :: c :: (ds ++ r)) = _
    unfold numV
    simp only
    rw [if_pos (by simp)]
    rw [if_neg (by omega), numL_start (posM + 1) c ds r e2 e3 hr (fun e => (e4 e).2) (by rw [e5]; show u ≤ 9223372036854775808; omega), e5]
  · obtain ⟨u, hu⟩ : ∃ u : Nat, n = (u : Int) := ⟨n.toNat, by omega⟩
    subst hu
    obtain ⟨c, ds, e1, e2, e3, e4, e5⟩ := dec_cons u
    rw [Lib.itoa_nonneg u, e1]
    have hc45 : c ≠ 45 := by rintro rfl; exact absurd e2 (by decide)
    show numV true (c :: (ds ++ r)) = _
    unfold numV
    simp only
    rw [if_neg (fun h => hc45 h.2), numL_start posM c ds r e2 e3 hr (fun e => (e4 e).2) (by rw [e5]; show u ≤ 9223372036854775807; omega), e5]
theorem ref_text (n : Int) (h0 : 1 ≤ n) (h1 : n ≤ 9223372036854775807) (r : L8) (hr : dig0 r = false) : ∃ c t, Lib.itoa n ++ r = c :: t ∧ 49 ≤ c.toNat ∧ c.toNat ≤ 57 ∧ numV false (c :: t) = .ok n r := by
  obtain ⟨u, hu⟩ : ∃ u : Nat, n = (u : Int) := ⟨n.toNat, by omega⟩
  subst hu
  obtain ⟨c, ds, e1, e2, e3, e4, e5⟩ := dec_cons u
  have h48 : c ≠ 48 := fun e => by have := (e4 e).1; omega
  have hc2 := e2
  simp only [digB, Bool.and_eq_true, decide_eq_true_eq] at hc2
  have hcn : c.toNat ≠ 48 := fun e => h48 (UInt8.toNat_inj.1 e)
  refine ⟨c, ds ++ r, by rw [Lib.itoa_nonneg u, e1]; rfl, by omega, by omega, ?_⟩
  unfold numV
  simp only
  rw [if_neg (fun h => Bool.noConfusion h.1), numL_start posM c ds r e2 e3 hr (fun e => (e4 e).2) (by rw [e5]; show u ≤ 9223372036854775807; omega), e5]
/-- What is read as a number is its text. -/
theorem text_num (c : UInt8) (t : L8) (n : Int) (r : L8) (hc : c = 45 ∨ digB c = true) (h : numV true (c :: t) = .ok n r) : c :: t = Lib.itoa n ++ r ∧ dig0 r = false ∧ -9223372036854775808 ≤ n ∧ n ≤ 9223372036854775807 := by
  unfold numV at h
  simp only at h
  by_cases h45 : c = 45
  · rw [if_pos (by simp [h45])] at h
    cases t with
    | nil => cases h
    | cons d t =>
      simp only at h
      by_cases hd : d.toNat < 49 ∨ 57 < d.toNat
      · rw [if_pos hd] at h; cases h
      rw [if_neg hd] at h
      have hdd : digB d = true := by unfold digB; simp; omega
      cases hL : numL (posM + 1) (d :: t) 0 false with
      | no r2 => rw [hL] at h; cases h
      | ok m r2 =>
        rw [hL] at h
        injection h with e1 e2
        subst e2
        obtain ⟨ds, g1, g2, g3, g4, g5, g6⟩ := numL_inv0 (posM + 1) (by decide) d t m r2 hdd hL
        have h48 : d ≠ 48 := by rintro rfl; exact hd (.inl (by decide))
        have hdec := dec_inv _ (d :: ds) (Nat.le_refl _) (by rw [List.all_cons, hdd, g2]; rfl) (by simp) (fun e => absurd (by simpa using e) h48)
        rw [← g3] at hdec
        have hm : 1 ≤ m := by
          have := valD_ge ds (0 * 10 + (d.toNat - 48))
          rw [g3, valD_cons]; omega
        refine ⟨?_, g5, by rw [← e1]; have : m ≤ 9223372036854775808 := g4; omega, by rw [← e1]; omega⟩
        rw [← e1, Lib.itoa_neg m hm, hdec, h45, g1]; rfl
  · have hdc := hc.resolve_left h45
    rw [if_neg (fun h => h45 h.2)] at h
    cases hL : numL posM (c :: t) 0 false with
    | no r2 => rw [hL] at h; cases h
    | ok m r2 =>
      rw [hL] at h
      injection h with e1 e2
      subst e2
      obtain ⟨ds, g1, g2, g3, g4, g5, g6⟩ := numL_inv0 posM (by decide) c t m r2 hdc hL
      have hdec := dec_inv _ (c :: ds) (Nat.le_refl _) (by rw [List.all_cons, hdc, g2]; rfl) (by simp) (fun e => by
        have : c = 48 := by simpa using e
        rw [g6 this, this])
      rw [← g3] at hdec
      refine ⟨?_, g5, by rw [← e1]; omega, by rw [← e1]; have : m ≤ 9223372036854775807 := g4; omega⟩
      rw [← e1, Lib.itoa_nonneg m, hdec, g1]
theorem text_ref (c : UInt8) (t : L8) (n : Int) (r : L8) (hc : 49 ≤ c.toNat ∧ c.toNat ≤ 57) (h : numV false (c :: t) = .ok n r) : c :: t = Lib.itoa n ++ r ∧ dig0 r = false ∧ 1 ≤ n ∧ n ≤ 9223372036854775807 := by
  have hdc : digB c = true := by unfold digB; simp; omega
  unfold numV at h
  simp only at h
  rw [if_neg (fun h => Bool.noConfusion h.1)] at h
  cases hL : numL posM (c :: t) 0 false with
  | no r2 => rw [hL] at h; cases h
  | ok m r2 =>
    rw [hL] at h
    injection h with e1 e2
    subst e2
    obtain ⟨ds, g1, g2, g3, g4, g5, g6⟩ := numL_inv0 posM (by decide) c t m r2 hdc hL
    have h48 : c ≠ 48 := by rintro rfl; exact absurd hc.1 (by decide)
    have hdec := dec_inv _ (c :: ds) (Nat.le_refl _) (by rw [List.all_cons, hdc, g2]; rfl) (by simp) (fun e => absurd (by simpa using e) h48)
    rw [← g3] at hdec
    have hm : 1 ≤ m := by
      have := valD_ge ds (0 * 10 + (c.toNat - 48))
      rw [g3, valD_cons]; omega
    refine ⟨?_, g5, by rw [← e1]; omega, by rw [← e1]; have : m ≤ 9223372036854775807 := g4; omega⟩
    rw [← e1, Lib.itoa_nonneg m, hdec, g1]
end Go.Proofs.YtjmelamllapmiaaGreatDoor
namespace Go.Proofs.YtjmelamllapmiaaGreatDoor
open Go.RowKit

theorem txtV_data (s : ByteArray) : txtV s.data.toList = s := by apply ByteArray.ext; simp [txtV]
theorem emp_of {s : ByteArray} (h : s.toList.isEmpty = true) : s = ⟨#[]⟩ := by
  apply ByteArray.ext
  apply Array.ext'
  rw [← Lib.toList_data]; simpa using h
theorem emp_true : (⟨#[]⟩ : ByteArray).toList.isEmpty = true := by rw [Lib.toList_data]; rfl
/-- A value's text begins with one of its signs. -/
theorem text_head (x : Va) : ∃ c t, textL x = c :: t ∧ c ≠ 93 ∧ c ≠ 32 := by
  obtain ⟨k, n, s, l, r⟩ := x
  have hd : ∀ n : Int, ∃ c t, Lib.itoa n = c :: t ∧ c ≠ 93 ∧ c ≠ 32 := fun n => by
    unfold Lib.itoa
    split
    · exact ⟨45, _, rfl, by decide, by decide⟩
    · obtain ⟨c, ds, e1, e2, -⟩ := dec_cons n.toNat
      exact ⟨c, ds, e1, by rintro rfl; exact absurd e2 (by decide), by rintro rfl; exact absurd e2 (by decide)⟩
  unfold textL
  split
  · exact hd n
  · split
    · exact ⟨34, _, rfl, by decide, by decide⟩
    · split
      · exact ⟨35, _, rfl, by decide, by decide⟩
      · split
        · exact ⟨91, _, rfl, by decide, by decide⟩
        · exact ⟨95, [], rfl, by decide, by decide⟩
theorem dig0_tail (l : List Va) (r : L8) : dig0 (textsT l ++ 93 :: r) = false := by
  cases l with
  | nil => rfl
  | cons x l => rfl
theorem takeV_3 (n : Int) (s : ByteArray) (l : List Va) (r : Int) (q m : Nat) : takeV (.mk 3 n s l r) (q + 1) (m + 1) = if q < l.length then Option.none else match takeVs l q m with
    | Option.none => Option.none
    | some q' => if n == 0 && s.toList.isEmpty && r == 0 then some q' else Option.none := by rw [takeV]; rfl
theorem takeV_0 (n : Int) (s : ByteArray) (l : List Va) (r : Int) (q nest : Nat) : takeV (.mk 0 n s l r) (q + 1) nest = if n == 0 && s.toList.isEmpty && r == 0 && l.isEmpty then some q else Option.none := by unfold takeV; rfl
theorem takeV_1 (n : Int) (s : ByteArray) (l : List Va) (r : Int) (q nest : Nat) : takeV (.mk 1 n s l r) (q + 1) nest = if s.toList.isEmpty && r == 0 && l.isEmpty then some q else Option.none := by unfold takeV; rfl
theorem takeV_2 (n : Int) (s : ByteArray) (l : List Va) (r : Int) (q nest : Nat) : takeV (.mk 2 n s l r) (q + 1) nest = if decide ((s.size : Int) ≤ 256) && n == 0 && r == 0 && l.isEmpty then some q else Option.none := by unfold takeV; rfl
theorem takeV_4 (n : Int) (s : ByteArray) (l : List Va) (r : Int) (q nest : Nat) : takeV (.mk 4 n s l r) (q + 1) nest = if decide (1 ≤ r) && n == 0 && s.toList.isEmpty && l.isEmpty then some q else Option.none := by unfold takeV; rfl
theorem rdV_num (nest : Nat) (c : UInt8) (t : L8) (p : Nat) (h95 : c ≠ 95) (hc : c = 45 ∨ digB c = true) : rdV nest (c :: t) p = match numV true (c :: t) with | .ok n r => .ok (.mk 1 n ⟨#[]⟩ [] 0, p + 1) r | .no r => .no r := by
  cases nest <;> (unfold rdV; rw [if_neg h95, if_pos hc]; rfl)
theorem rdV_list (m : Nat) (t : L8) (p : Nat) : rdV (m + 1) (91 :: t) p = match lsV (rdV m) 514 t (p + 1) [] with | .ok (l, q) r => .ok (.mk 3 0 ⟨#[]⟩ l 0, q) r | .no r => .no r := by
  unfold rdV
  rw [if_neg (by decide), if_neg (by decide), if_neg (by decide), if_neg (by decide), if_pos rfl]
  rfl
theorem rdV_ref (nest : Nat) (d : UInt8) (t : L8) (p : Nat) (hd : 49 ≤ d.toNat ∧ d.toNat ≤ 57) : rdV nest (35 :: d :: t) p = match numV false (d :: t) with | .ok n r => .ok (.mk 4 0 ⟨#[]⟩ [] n, p + 1) r | .no r => .no r := by
  cases nest <;> (unfold rdV; rw [if_neg (by decide), if_neg (by decide), if_pos rfl]; simp only; rw [if_neg (by omega)]; rfl)
theorem rdV_text (nest : Nat) (t : L8) (p : Nat) : rdV nest (34 :: t) p = match qa 256 .run t [] with | .ok b r => .ok (.mk 2 0 (txtV b) [] 0, p + 1) r | .no r => .no r := by
  cases nest <;> (unfold rdV; rw [if_neg (by decide), if_neg (by decide), if_neg (by decide), if_pos rfl]; rfl)
mutual
/-- A value's text is read as it. -/
theorem rd_text : ∀ (x : Va) (p nest q' : Nat) (r : L8), takeV x (512 - p) nest = some q' → p < 512 → Fit x → dig0 r = false → rdV nest (textL x ++ r) p = .ok (x, 512 - q') r
  | .mk k n s l r0, p, nest, q', r, h, hp, hf, hr => by
    obtain ⟨q, hq⟩ : ∃ q, 512 - p = q + 1 := ⟨511 - p, by omega⟩
    rw [hq] at h
    unfold Fit at hf
    by_cases k1 : k = 1
    · subst k1
      have h' : (if s.toList.isEmpty && r0 == 0 && l.isEmpty then some q else Option.none) = some q' := by rw [takeV_1] at h; exact h
      by_cases hc : (s.toList.isEmpty && r0 == 0 && l.isEmpty) = true
      · rw [if_pos hc] at h'
        simp only [Bool.and_eq_true, beq_iff_eq] at hc
        obtain ⟨⟨c1, c2⟩, c3⟩ := hc
        obtain rfl := emp_of c1
        obtain rfl : l = [] := by simpa using c3
        subst c2
        injection h' with h'
        have e : textL (.mk 1 n ⟨#[]⟩ [] 0) = Lib.itoa n := by unfold textL; rfl
        rw [e]
        have hnum := num_text n hf.1.1 hf.1.2 r hr
        cases hi : Lib.itoa n ++ r with
        | nil => rw [hi] at hnum; cases hnum
        | cons c t =>
          have hc2 : c = 45 ∨ digB c = true := by
            unfold Lib.itoa at hi
            split at hi
            · injection hi with e1 _; exact .inl e1.symm
            · obtain ⟨c2, ds, e1, e2, -⟩ := dec_cons n.toNat
              rw [e1] at hi
              injection hi with e3 _
              exact .inr (by rw [← e3]; exact e2)
          rw [rdV_num nest c t p (by rintro rfl; rcases hc2 with h | h <;> exact absurd h (by decide)) hc2, ← hi, hnum]
          rw [show p + 1 = 512 - q' by omega]
      · rw [if_neg hc] at h'; cases h'
    by_cases k2 : k = 2
    · subst k2
      have h' : (if decide ((s.size : Int) ≤ 256) && n == 0 && r0 == 0 && l.isEmpty then some q else Option.none) = some q' := by rw [takeV_2] at h; exact h
      by_cases hc : (decide ((s.size : Int) ≤ 256) && n == 0 && r0 == 0 && l.isEmpty) = true
      · rw [if_pos hc] at h'
        simp only [Bool.and_eq_true, beq_iff_eq, decide_eq_true_eq] at hc
        obtain ⟨⟨⟨c1, c2⟩, c3⟩, c4⟩ := hc
        obtain rfl : l = [] := by simpa using c4
        subst c2 c3
        injection h' with h'
        have e : textL (.mk 2 0 s [] 0) = quoteL s.data.toList := by unfold textL; rfl
        rw [e]
        show rdV nest (34 :: (qbs s.data.toList ++ [34] ++ r)) p = _
        have hsz : s.data.toList.length = s.size := by simp
        rw [rdV_text, List.append_assoc, show ([34] ++ r : L8) = 34 :: r from rfl, qa_qbs 256 r s.data.toList [] (by rw [hsz]; simp; omega)]
        simp only [List.nil_append]
        rw [txtV_data, show p + 1 = 512 - q' by omega]
      · rw [if_neg hc] at h'; cases h'
    by_cases k4 : k = 4
    · subst k4
      have h' : (if decide (1 ≤ r0) && n == 0 && s.toList.isEmpty && l.isEmpty then some q else Option.none) = some q' := by rw [takeV_4] at h; exact h
      by_cases hc : (decide (1 ≤ r0) && n == 0 && s.toList.isEmpty && l.isEmpty) = true
      · rw [if_pos hc] at h'
        simp only [Bool.and_eq_true, beq_iff_eq, decide_eq_true_eq] at hc
        obtain ⟨⟨⟨c1, c2⟩, c3⟩, c4⟩ := hc
        obtain rfl := emp_of c3
        obtain rfl : l = [] := by simpa using c4
        subst c2
        injection h' with h'
        have e : textL (.mk 4 0 ⟨#[]⟩ [] r0) = 35 :: Lib.itoa r0 := by unfold textL; rfl
        rw [e]
        obtain ⟨c, t, e1, e2, e3, e4⟩ := ref_text r0 c1 hf.2.1.2 r hr
        show rdV nest (35 :: (Lib.itoa r0 ++ r)) p = _
        rw [e1, rdV_ref nest c t p ⟨e2, e3⟩, e4]
        rw [show p + 1 = 512 - q' by omega]
      · rw [if_neg hc] at h'; cases h'
    by_cases k3 : k = 3
    · subst k3
      cases nest with
      | zero => rw [takeV] at h; cases h
      | succ m =>
        rw [takeV_3] at h
        by_cases hql : q < l.length
        · rw [if_pos hql] at h; cases h
        rw [if_neg hql] at h
        cases ht : takeVs l q m with
        | none => rw [ht] at h; cases h
        | some q2 =>
          rw [ht] at h
          simp only at h
          by_cases hc : (n == 0 && s.toList.isEmpty && r0 == 0) = true
          · rw [if_pos hc] at h
            injection h with h
            subst h
            simp only [Bool.and_eq_true, beq_iff_eq] at hc
            obtain ⟨⟨c1, c2⟩, c3⟩ := hc
            obtain rfl := emp_of c2
            subst c1 c3
            have e : textL (.mk 3 0 ⟨#[]⟩ l 0) = 91 :: (textsL l ++ [93]) := by unfold textL; rfl
            rw [e]
            show rdV (m + 1) (91 :: (textsL l ++ [93] ++ r)) p = _
            rw [rdV_list, List.append_assoc, show ([93] ++ r : L8) = 93 :: r from rfl]
            have hqp : q = 512 - (p + 1) := by omega
            rw [hqp] at ht hql
            rw [rds_first l (p + 1) m q2 514 r ht (by omega) hf.2.2 (by omega)]
          · rw [if_neg hc] at h; cases h
    by_cases k0 : k = 0
    · subst k0
      have h' : (if n == 0 && s.toList.isEmpty && r0 == 0 && l.isEmpty then some q else Option.none) = some q' := by rw [takeV_0] at h; exact h
      by_cases hc : (n == 0 && s.toList.isEmpty && r0 == 0 && l.isEmpty) = true
      · rw [if_pos hc] at h'
        simp only [Bool.and_eq_true, beq_iff_eq] at hc
        obtain ⟨⟨⟨c1, c2⟩, c3⟩, c4⟩ := hc
        obtain rfl := emp_of c2
        obtain rfl : l = [] := by simpa using c4
        subst c1 c3
        injection h' with h'
        have e : textL (.mk 0 0 ⟨#[]⟩ [] 0) = [95] := by unfold textL; rfl
        rw [e]
        have e2 : rdV nest (95 :: r) p = .ok (.mk 0 0 ⟨#[]⟩ [] 0, p + 1) r := by cases nest <;> (unfold rdV; rw [if_pos rfl])
        show rdV nest (95 :: r) p = _
        rw [e2, show p + 1 = 512 - q' by omega]
      · rw [if_neg hc] at h'; cases h'
    · exfalso
      have b0 : (k == 0) = false := by simpa using k0
      have b1 : (k == 1) = false := by simpa using k1
      have b2 : (k == 2) = false := by simpa using k2
      have b3 : (k == 3) = false := by simpa using k3
      have b4 : (k == 4) = false := by simpa using k4
      unfold takeV at h
      simp only [b0, b1, b2, b3, b4, Bool.false_eq_true, if_false] at h
      cases h
theorem rds_first : ∀ (l : List Va) (p m q' k : Nat) (r : L8), takeVs l (512 - p) m = some q' → p ≤ 512 → Fits l → l.length + 1 ≤ k → lsV (rdV m) k (textsL l ++ 93 :: r) p [] = .ok (l, 512 - q') r
  | [], p, m, q', k, r, h, hp, hf, hk => by
    obtain ⟨k, rfl⟩ : ∃ j, k = j + 1 := ⟨k - 1, by simp at hk; omega⟩
    rw [takeVs] at h
    injection h with h
    show lsV (rdV m) (k + 1) (93 :: r) p [] = _
    rw [lsV, if_pos rfl, show p = 512 - q' by omega]
  | x :: l, p, m, q', k, r, h, hp, hf, hk => by
    obtain ⟨k, rfl⟩ : ∃ j, k = j + 1 := ⟨k - 1, by simp at hk; omega⟩
    simp only [List.length_cons] at hk
    rw [takeVs] at h
    unfold Fits at hf
    cases hx : takeV x (512 - p) m with
    | none => rw [hx] at h; cases h
    | some q2 =>
      rw [hx] at h
      have hlt := takeV_sz x _ _ _ hx
      have hge := szV_ge x
      obtain ⟨c, t, e1, e2, -⟩ := text_head x
      have hrd := rd_text x p m q2 (textsT l ++ 93 :: r) hx (by omega) hf.1 (dig0_tail l r)
      show lsV (rdV m) (k + 1) (textL x ++ textsT l ++ 93 :: r) p [] = _
      rw [List.append_assoc]
      rw [e1] at hrd ⊢
      show lsV (rdV m) (k + 1) (c :: (t ++ (textsT l ++ 93 :: r))) p [] = _
      rw [lsV, if_neg e2, if_neg (by rintro (h1 | h1); omega; exact h1.1 rfl), if_pos rfl]
      have hrd2 : rdV m (c :: (t ++ (textsT l ++ 93 :: r))) p = .ok (x, 512 - q2) (textsT l ++ 93 :: r) := hrd
      rw [hrd2]
      simp only [List.nil_append]
      exact rds_text l [x] (512 - q2) m q' k r (by rw [show 512 - (512 - q2) = q2 by omega]; exact h) (by omega) hf.2 (by omega) (by simp)
theorem rds_text : ∀ (l done : List Va) (p m q' k : Nat) (r : L8), takeVs l (512 - p) m = some q' → p ≤ 512 → Fits l → l.length + 1 ≤ k → done ≠ [] → lsV (rdV m) k (textsT l ++ 93 :: r) p done = .ok (done ++ l, 512 - q') r
  | [], done, p, m, q', k, r, h, hp, hf, hk, hd => by
    obtain ⟨k, rfl⟩ : ∃ j, k = j + 1 := ⟨k - 1, by simp at hk; omega⟩
    rw [takeVs] at h
    injection h with h
    show lsV (rdV m) (k + 1) (93 :: r) p done = _
    rw [lsV, if_pos rfl, List.append_nil, show p = 512 - q' by omega]
  | x :: l, done, p, m, q', k, r, h, hp, hf, hk, hd => by
    obtain ⟨k, rfl⟩ : ∃ j, k = j + 1 := ⟨k - 1, by simp at hk; omega⟩
    simp only [List.length_cons] at hk
    rw [takeVs] at h
    unfold Fits at hf
    cases hx : takeV x (512 - p) m with
    | none => rw [hx] at h; cases h
    | some q2 =>
      rw [hx] at h
      have hlt := takeV_sz x _ _ _ hx
      have hge := szV_ge x
      have hrd := rd_text x p m q2 (textsT l ++ 93 :: r) hx (by omega) hf.1 (dig0_tail l r)
      show lsV (rdV m) (k + 1) (32 :: (textL x ++ textsT l ++ 93 :: r)) p done = _
      rw [lsV, if_neg (by decide), if_neg (by rintro (h1 | h1); omega; exact h1.2 rfl), if_neg hd, List.append_assoc, hrd]
      simp only
      rw [rds_text l (done ++ [x]) (512 - q2) m q' k r (by rw [show 512 - (512 - q2) = q2 by omega]; exact h) (by omega) hf.2 (by omega) (by simp)]
      rw [List.append_assoc]; rfl
end
/-- What a reader has read is written as it was. -/
def InvF (f : L8 → Nat → Rs (Va × Nat)) (m : Nat) : Prop := ∀ (t : L8) (p : Nat) (x : Va) (q : Nat) (r : L8), f t p = .ok (x, q) r → p < 512 →
  t = textL x ++ r ∧ takeV x (512 - p) m = some (512 - q) ∧ p < q ∧ q ≤ 512 ∧ Fit x
theorem ls_inv {f : L8 → Nat → Rs (Va × Nat)} {m : Nat} (hf : InvF f m) : ∀ (k : Nat) (t : L8) (p : Nat) (l l' : List Va) (q : Nat) (r : L8), lsV f k t p l = .ok (l', q) r → p ≤ 512 →
    ∃ ys, l' = l ++ ys ∧ t = (if l = [] then textsL ys else textsT ys) ++ 93 :: r ∧ takeVs ys (512 - p) m = some (512 - q) ∧ p + ys.length ≤ q ∧ q ≤ 512 ∧ Fits ys
  | 0, t, p, l, l', q, r, h, _ => by rw [lsV] at h; cases h
  | k + 1, [], p, l, l', q, r, h, _ => by rw [lsV] at h; cases h
  | k + 1, c :: t, p, l, l', q, r, h, hp => by
    rw [lsV] at h
    by_cases h93 : c = 93
    · rw [if_pos h93] at h
      injection h with e1 e2
      injection e1 with e1 e3
      subst e1 e2 e3 h93
      exact ⟨[], by simp, by split <;> rfl, by rw [takeVs], by simp, hp, by unfold Fits; trivial⟩
    rw [if_neg h93] at h
    by_cases hb : 512 ≤ p ∨ (l ≠ [] ∧ c ≠ 32)
    · rw [if_pos hb] at h; cases h
    rw [if_neg hb] at h
    cases hx : f (if l = [] then c :: t else t) p with
    | no r2 => rw [hx] at h; cases h
    | ok y r2 =>
      obtain ⟨x, q2⟩ := y
      rw [hx] at h
      obtain ⟨g1, g2, g3, g4, g5⟩ := hf _ p x q2 r2 hx (by omega)
      obtain ⟨ys, e1, e2, e3, e4, e5, e6⟩ := ls_inv hf k r2 q2 (l ++ [x]) l' q r h g4
      refine ⟨x :: ys, by rw [e1]; simp, ?_, ?_, by simp only [List.length_cons]; omega, e5, by unfold Fits; exact ⟨g5, e6⟩⟩
      · rw [if_neg (by simp)] at e2
        by_cases hl : l = []
        · rw [if_pos hl] at g1 ⊢
          rw [g1, e2]
          show _ = textL x ++ textsT ys ++ 93 :: r
          rw [List.append_assoc]
        · rw [if_neg hl] at g1 ⊢
          have hc : c = 32 := by
            by_cases hc : c = 32
            · exact hc
            · exact absurd (.inr ⟨hl, hc⟩) hb
          rw [g1, e2, hc]
          show _ = 32 :: (textL x ++ textsT ys) ++ 93 :: r
          simp
      · rw [takeVs, g2]
        exact e3
theorem rd_inv : ∀ (nest : Nat), InvF (rdV nest) nest
  | nest, [], p, x, q, r, h, hp => by cases nest <;> (unfold rdV at h; cases h)
  | nest, c :: t, p, x, q, r, h, hp => by
    obtain ⟨q0, hq0⟩ : ∃ q0, 512 - p = q0 + 1 := ⟨511 - p, by omega⟩
    have hqe : q0 = 512 - (p + 1) := by omega
    rw [hq0]
    by_cases h95 : c = 95
    · subst h95
      have e2 : rdV nest (95 :: t) p = .ok (.mk 0 0 ⟨#[]⟩ [] 0, p + 1) t := by cases nest <;> (unfold rdV; rw [if_pos rfl])
      rw [e2] at h
      injection h with e1 e3
      injection e1 with e1 e4
      subst e1 e3 e4
      refine ⟨by unfold textL; rfl, ?_, by omega, by omega, by unfold Fit Fits; decide⟩
      rw [takeV_0]
      simp only [emp_true]
      rw [hqe]; rfl
    by_cases hnum : c = 45 ∨ digB c = true
    · rw [rdV_num nest c t p h95 hnum] at h
      cases hN : numV true (c :: t) with
      | no r2 => rw [hN] at h; cases h
      | ok n r2 =>
        rw [hN] at h
        injection h with e1 e3
        injection e1 with e1 e4
        subst e1 e3 e4
        obtain ⟨g1, g2, g3, g4⟩ := text_num c t n r2 hnum hN
        refine ⟨by rw [g1]; unfold textL; rfl, ?_, by omega, by omega, by unfold Fit Fits; exact ⟨⟨g3, g4⟩, by decide, trivial⟩⟩
        rw [takeV_1]
        simp only [emp_true]
        rw [hqe]; rfl
    by_cases h35 : c = 35
    · subst h35
      cases t with
      | nil => cases nest <;> (unfold rdV at h; rw [if_neg (by decide), if_neg (by decide), if_pos rfl] at h; cases h)
      | cons d t =>
        by_cases hd : d.toNat < 49 ∨ 57 < d.toNat
        · have e2 : rdV nest (35 :: d :: t) p = .no (d :: t) := by cases nest <;> (unfold rdV; rw [if_neg (by decide), if_neg (by decide), if_pos rfl]; simp only; rw [if_pos hd])
          rw [e2] at h; cases h
        have hd2 : 49 ≤ d.toNat ∧ d.toNat ≤ 57 := by omega
        rw [rdV_ref nest d t p hd2] at h
        cases hN : numV false (d :: t) with
        | no r2 => rw [hN] at h; cases h
        | ok n r2 =>
          rw [hN] at h
          injection h with e1 e3
          injection e1 with e1 e4
          subst e1 e3 e4
          obtain ⟨g1, g2, g3, g4⟩ := text_ref d t n r2 hd2 hN
          refine ⟨by rw [g1]; unfold textL; rfl, ?_, by omega, by omega, by unfold Fit Fits; exact ⟨by decide, ⟨by omega, g4⟩, trivial⟩⟩
          rw [takeV_4]
          simp only [emp_true, decide_eq_true g3]
          rw [hqe]; rfl
    by_cases h34 : c = 34
    · subst h34
      rw [rdV_text] at h
      cases hQ : qa 256 .run t [] with
      | no r2 => rw [hQ] at h; cases h
      | ok b r2 =>
        rw [hQ] at h
        injection h with e1 e3
        injection e1 with e1 e4
        subst e1 e3 e4
        obtain ⟨l, g1, g2, g3, g4⟩ := qa_inv 256 _ t [] b r2 (Nat.le_refl _) hQ
        rw [List.nil_append] at g1
        subst g1
        have hb : (txtV b).size ≤ 256 := by have := g4 (by simp); show b.length ≤ 256; simpa using this
        refine ⟨?_, ?_, by omega, by omega, by unfold Fit Fits; decide⟩
        · unfold textL
          show 34 :: t = (34 :: (qbs b ++ [34])) ++ r2
          rw [g2]; simp
        · have hb2 : decide (((txtV b).size : Int) ≤ 256) = true := decide_eq_true (by omega)
          rw [takeV_2]
          simp only [hb2]
          rw [hqe]; rfl
    by_cases h91 : c = 91
    · subst h91
      cases nest with
      | zero => unfold rdV at h; rw [if_neg (by decide), if_neg (by decide), if_neg (by decide), if_neg (by decide), if_pos rfl] at h; cases h
      | succ m =>
        rw [rdV_list] at h
        cases hL : lsV (rdV m) 514 t (p + 1) [] with
        | no r2 => rw [hL] at h; cases h
        | ok y r2 =>
          obtain ⟨ys, q2⟩ := y
          rw [hL] at h
          injection h with e1 e3
          injection e1 with e1 e4
          subst e1 e3 e4
          obtain ⟨zs, g1, g2, g3, g4, g5, g6⟩ := ls_inv (rd_inv m) 514 t (p + 1) [] ys q2 r2 hL (by omega)
          rw [List.nil_append] at g1
          subst g1
          refine ⟨?_, ?_, by omega, g5, by unfold Fit; exact ⟨by decide, by decide, g6⟩⟩
          · rw [g2, if_pos rfl]; unfold textL; simp
          · rw [takeV_3, if_neg (by omega), hqe, g3]
            simp only [emp_true]
            rfl
    · exfalso
      have e2 : rdV nest (c :: t) p = .no (c :: t) := by cases nest <;> (unfold rdV; rw [if_neg h95, if_neg hnum, if_neg h35, if_neg h34, if_neg h91])
      rw [e2] at h; cases h
/-- A value that may be is read out of its text. -/
theorem read_text (x : Va) (h : mayV x = true) (hf : Fit x) : readL (textL x) = .ok x [] := by
  unfold mayV at h
  cases ht : takeV x 512 16 with
  | none => rw [ht] at h; cases h
  | some q =>
    have := rd_text x 0 16 q [] ht (by decide) hf rfl
    rw [List.append_nil] at this
    unfold readL
    rw [this]
/-- What is read of a text is a value that may be, of this text. -/
theorem text_read (t : L8) (x : Va) (r : L8) (h : readL t = .ok x r) : mayV x = true ∧ textL x = t ∧ Fit x := by
  unfold readL at h
  cases ht : rdV 16 t 0 with
  | no r2 => rw [ht] at h; cases h
  | ok y r2 =>
    obtain ⟨x2, q⟩ := y
    rw [ht] at h
    cases r2 with
    | cons c u => cases h
    | nil =>
      injection h with e1 e2
      subst e1
      obtain ⟨g1, g2, g3, g4, g5⟩ := rd_inv 16 t 0 x2 q [] ht (by decide)
      rw [List.append_nil] at g1
      refine ⟨?_, g1.symm, g5⟩
      unfold mayV
      rw [g2]; rfl
end Go.Proofs.YtjmelamllapmiaaGreatDoor
