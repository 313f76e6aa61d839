/- Plain laws: a quoted form is told back as the bytes, and a value's text read back as the value; what is read is written as it was. -/
import Derived.Test.YtkhpfghehjcfoaaDoorM
import Derived.Test.YtkhpfghehjcfoaaDoorJ
import Derived.Test.YtkhpfghehjcfoaaDoorSb
import Derived.Test.YtkhpfghehjcfoaaDoorO
namespace Go.Proofs.YtkhpfghehjcfoaaDoor
open Go.RowKit

theorem hex_hi : ∀ c : Fin 256, hexD (hexc (c.val / 16)) = some (c.val / 16) ∧ hexD (hexc (c.val % 16)) = some (c.val % 16) := by decide +kernel
theorem qa_92 (most : Nat) (t b : L8) (h : b.length < most) : qa most .run (92 :: t) b = qa most .bs t b := by
  rw [qa, if_neg (by decide), if_neg (by rintro (h1 | h1 | h1); · omega
                                         · exact absurd h1 (by decide)
                                         · exact absurd h1 (by decide)), if_pos rfl]
theorem u8_of_parts (c : UInt8) : UInt8.ofNat (c.toNat / 16 * 16 + c.toNat % 16) = c := by
  rw [show c.toNat / 16 * 16 + c.toNat % 16 = c.toNat by omega]
  exact UInt8.ofNat_toNat
theorem qb_step (most : Nat) (c : UInt8) (t b : L8) (h : b.length < most) : qa most .run (qb c ++ t) b = qa most .run t (b ++ [c]) := by
  have hc := c.toNat_lt
  unfold qb
  by_cases h1 : c = 34 ∨ c = 92
  · rw [if_pos h1]
    show qa most .run (92 :: c :: t) b = _
    rw [qa_92 _ _ _ h, qa, if_pos h1]
  rw [if_neg h1]
  by_cases h2 : c = 10
  · rw [if_pos h2]
    show qa most .run (92 :: 110 :: t) b = _
    rw [qa_92 _ _ _ h, qa, if_neg (by decide), if_pos rfl, h2]
  rw [if_neg h2]
  by_cases h3 : c.toNat < 32 ∨ 126 < c.toNat
  · rw [if_pos h3]
    show qa most .run (92 :: 120 :: hexc (c.toNat / 16) :: hexc (c.toNat % 16) :: t) b = _
    obtain ⟨e1, e2⟩ := hex_hi ⟨c.toNat, hc⟩
    simp only at e1 e2
    have h10 : c.toNat ≠ 10 := fun e => h2 (UInt8.toNat_inj.1 e)
    rw [qa_92 _ _ _ h, qa, if_neg (by decide), if_neg (by decide), if_pos rfl, qa, e1]
    simp only
    rw [if_neg (by omega), qa, e2]
    simp only
    rw [if_neg (by omega), u8_of_parts]
  · rw [if_neg h3]
    show qa most .run (c :: t) b = _
    have k1 : c ≠ 34 := fun e => h1 (.inl e)
    have k2 : c ≠ 92 := fun e => h1 (.inr e)
    rw [qa, if_neg k1, if_neg (by omega), if_neg k2]
theorem qa_qbs (most : Nat) (r : L8) : ∀ (l b : L8), b.length + l.length ≤ most → qa most .run (qbs l ++ 34 :: r) b = .ok (b ++ l) r
  | [], b, _ => by
    show qa most .run (34 :: r) b = _
    rw [qa, if_pos rfl, List.append_nil]
  | c :: l, b, h => by
    simp only [List.length_cons] at h
    rw [qbs, List.append_assoc, qb_step most c _ b (by omega), qa_qbs most r l (b ++ [c]) (by simp; omega)]
    simp
theorem hex_inv : ∀ c : Fin 256, ∀ a, hexD (UInt8.ofNat c.val) = some a → hexc a = UInt8.ofNat c.val ∧ a < 16 := by decide +kernel
theorem hexD_inv {h : UInt8} {a : Nat} (e : hexD h = some a) : hexc a = h ∧ a < 16 := by
  have := hex_inv ⟨h.toNat, h.toNat_lt⟩ a
  simp only [UInt8.ofNat_toNat] at this
  exact this e
theorem esc_qb {t r : L8} {x : UInt8} (h : esc t = .ok x r) : 92 :: t = qb x ++ r := by
  cases t with
  | nil => cases h
  | cons c t =>
    unfold esc at h
    simp only at h
    by_cases h1 : c = 34 ∨ c = 92
    · rw [if_pos h1] at h
      injection h with e1 e2
      subst e1 e2
      unfold qb; rw [if_pos h1]; rfl
    rw [if_neg h1] at h
    by_cases h2 : c = 110
    · rw [if_pos h2] at h
      injection h with e1 e2
      subst e1 e2 h2
      rfl
    rw [if_neg h2] at h
    by_cases h3 : c = 120
    rotate_left
    · rw [if_neg h3] at h; cases h
    rw [if_pos h3] at h
    subst h3
    cases t with
    | nil => cases h
    | cons g u =>
      simp only at h
      cases hg : hexD g with
      | none => rw [hg] at h; cases h
      | some a =>
        rw [hg] at h
        simp only at h
        obtain ⟨ea, ha⟩ := hexD_inv hg
        by_cases h4 : 2 ≤ a ∧ a ≤ 6
        · rw [if_pos h4] at h; cases h
        rw [if_neg h4] at h
        cases u with
        | nil => cases h
        | cons l u =>
          simp only at h
          cases hl : hexD l with
          | none => rw [hl] at h; cases h
          | some d =>
            rw [hl] at h
            simp only at h
            obtain ⟨ed, hd⟩ := hexD_inv hl
            by_cases h5 : (a = 0 ∧ d = 10) ∨ (a = 7 ∧ d ≠ 15)
            · rw [if_pos h5] at h; cases h
            rw [if_neg h5] at h
            injection h with e1 e2
            subst e2
            have hx : x.toNat = a * 16 + d := by rw [← e1, UInt8.toNat_ofNat']; omega
            have k1 : ¬ (x = 34 ∨ x = 92) := by
              rintro (e | e) <;> rw [e] at hx
              · have : (34 : UInt8).toNat = 34 := rfl
                omega
              · have : (92 : UInt8).toNat = 92 := rfl
                omega
            have k2 : x ≠ 10 := by
              intro e
              rw [e] at hx
              have : (10 : UInt8).toNat = 10 := rfl
              omega
            unfold qb
            rw [if_neg k1, if_neg k2, if_pos (by omega)]
            rw [show x.toNat / 16 = a by omega, show x.toNat % 16 = d by omega, ea, ed]
            rfl
theorem qa_inv (most : Nat) : ∀ (n : Nat) (t b x r : L8), t.length ≤ n → qa most .run t b = .ok x r → ∃ l, x = b ++ l ∧ t = qbs l ++ 34 :: r ∧ (most ≤ b.length → l = []) ∧ (b.length ≤ most → b.length + l.length ≤ most)
  | n, [], b, x, r, _, h => by rw [qa] at h; cases h
  | 0, c :: t, b, x, r, hn, h => by simp at hn
  | n + 1, c :: t, b, x, r, hn, h => by
    simp only [List.length_cons] at hn
    rw [qa] at h
    by_cases h1 : c = 34
    · rw [if_pos h1] at h
      injection h with e1 e2
      subst e1 e2 h1
      exact ⟨[], by simp, rfl, fun _ => rfl, fun h => by simpa using h⟩
    rw [if_neg h1] at h
    by_cases h2 : most ≤ b.length ∨ c.toNat < 32 ∨ 126 < c.toNat
    · rw [if_pos h2] at h; cases h
    rw [if_neg h2] at h
    by_cases h3 : c = 92
    · rw [if_pos h3, qa_bs] at h
      subst h3
      cases hE : esc t with
      | no t2 => rw [hE] at h; cases h
      | ok y t2 =>
        rw [hE] at h
        have e := esc_qb hE
        have hl := congrArg List.length e
        have hq := (qb_len y).1
        have hq2 : 2 ≤ (qb y).length := by
          by_cases g1 : y = 34 ∨ y = 92
          · unfold qb; rw [if_pos g1]; simp
          by_cases g2 : y = 10
          · unfold qb; rw [if_neg g1, if_pos g2]; simp
          by_cases g3 : y.toNat < 32 ∨ 126 < y.toNat
          · unfold qb; rw [if_neg g1, if_neg g2, if_pos g3]; simp
          · exfalso
            have e' := e
            unfold qb at e'
            rw [if_neg g1, if_neg g2, if_neg g3] at e'
            injection e' with e5 _
            exact g1 (.inr e5.symm)
        simp only [List.length_cons, List.length_append] at hl
        obtain ⟨l, e1, e2, e3, e4⟩ := qa_inv most n t2 (b ++ [y]) x r (by omega) h
        refine ⟨y :: l, by rw [e1]; simp, by rw [e, e2, qbs, List.append_assoc], fun h => absurd (.inl h) h2, fun h => ?_⟩
        have := e4 (by simp; omega)
        simp at this ⊢
        omega
    · rw [if_neg h3] at h
      obtain ⟨l, e1, e2, e3, e4⟩ := qa_inv most n t (b ++ [c]) x r (by omega) h
      have hq : qb c = [c] := by
        have k10 : c ≠ 10 := by
          intro e
          rw [e] at h2
          exact h2 (.inr (.inl (by decide)))
        unfold qb
        rw [if_neg (by rintro (e | e); exact h1 e; exact h3 e), if_neg k10, if_neg (by omega)]
      refine ⟨c :: l, by rw [e1]; simp, by rw [e2, qbs, hq]; rfl, fun h => absurd (.inl h) h2, fun h => ?_⟩
      have := e4 (by simp; omega)
      simp at this ⊢
      omega
/-- Bytes quoted are told back. -/
theorem unq_quote (l : L8) (most : Nat) (h : l.length ≤ most) : unqL most (quoteL l) = .ok l [] := by
  unfold unqL quo quoteL
  simp only [if_true]
  rw [show qbs l ++ [34] = qbs l ++ 34 :: [] from rfl, qa_qbs most [] l [] (by simpa using h)]
  simp
/-- What was taken as a quoted form is that of what was told. -/
theorem quote_unq (most : Nat) (t b r : L8) (h : unqL most t = .ok b r) : quoteL b = t := by
  unfold unqL at h
  cases hq : quo most t with
  | no t2 => rw [hq] at h; cases h
  | ok b2 t2 =>
    rw [hq] at h
    cases t2 with
    | cons c u => cases h
    | nil =>
      injection h with e1 e2
      subst e1
      cases t with
      | nil => cases hq
      | cons c u =>
        unfold quo at hq
        simp only at hq
        by_cases h34 : c = 34
        · rw [if_pos h34] at hq
          obtain ⟨l, e1, e2, -, -⟩ := qa_inv most _ u [] b2 [] (Nat.le_refl _) hq
          rw [List.nil_append] at e1
          subst e1 h34
          rw [e2]; rfl
        · rw [if_neg h34] at hq; cases hq
end Go.Proofs.YtkhpfghehjcfoaaDoor
