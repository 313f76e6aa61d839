/- Plain laws: a token's form is cut into the token. -/
import Derived.Test.YtkhpfghehjcfoaaDoorZb
import Derived.Test.YtkhpfghehjcfoaaDoorZa
import Derived.Test.YtkhpfghehjcfoaaDoorRa
namespace Go.Proofs.YtkhpfghehjcfoaaDoor
open Go.RowKit

/-- Neither a letter nor a digit stands first. -/
def word0 : L8 → Bool
  | [] => false
  | c :: _ => wordB c
/-- Does such a byte stand first? -/
def hd0 (q : UInt8 → Bool) : L8 → Bool
  | [] => false
  | c :: _ => q c
theorem tws (q : UInt8 → Bool) : ∀ (l r : L8), l.all q = true → hd0 q r = false → (l ++ r).takeWhile q = l ∧ (l ++ r).dropWhile q = r
  | [], [], _, _ => ⟨rfl, rfl⟩
  | [], c :: r, _, h => by
    have h : q c = false := h
    simp [h]
  | c :: l, r, h, hr => by
    simp only [List.all_cons, Bool.and_eq_true] at h
    obtain ⟨h1, h2⟩ := tws q l r h.2 hr
    simp only [List.cons_append, List.takeWhile, List.dropWhile, h.1]
    exact ⟨by rw [h1], h2⟩
theorem dig_word0 {r : L8} (h : word0 r = false) : hd0 digB r = false := by
  cases r with
  | nil => rfl
  | cons c t =>
    have h : wordB c = false := h
    unfold wordB at h
    simp only [Bool.or_eq_false_iff] at h
    exact h.2
theorem word_word0 {r : L8} (h : word0 r = false) : hd0 wordB r = false := by
  cases r with
  | nil => rfl
  | cons c t => exact h
theorem dec_numO (u : Nat) (neg : Bool) (h : u ≤ (if neg then 9223372036854775808 else 9223372036854775807)) (h0 : neg = true → 0 < u) : numO neg (Lib.decDigits u) = some (if neg then -(u : Int) else u) := by
  obtain ⟨h1, h2, h3, h4⟩ := dec_spec u u (Nat.le_refl _)
  unfold numO
  rw [if_neg, h1, if_pos h]
  intro hh
  rcases hh with hh | ⟨hh, hh2⟩
  · exact h3 hh
  · obtain ⟨c, ds, e1, e2, e3, e4, e5⟩ := dec_cons u
    rw [e1] at hh hh2
    simp only [List.head?_cons, Option.some.injEq] at hh
    obtain ⟨hu, hds⟩ := e4 hh
    subst hds
    rcases hh2 with hh2 | hh2
    · simp at hh2
    · have := h0 hh2; omega
theorem dig_lett {c : UInt8} (h : digB c = true) : lett c = false := by
  unfold digB at h
  unfold lett
  simp only [Bool.and_eq_true, decide_eq_true_eq] at h
  rw [Bool.and_eq_false_iff]
  left
  rw [decide_eq_false_iff_not]
  omega
theorem sgn_facts : ∀ c : Fin 256, sgnB (UInt8.ofNat c.val) = true → lett (UInt8.ofNat c.val) = false ∧ digB (UInt8.ofNat c.val) = false ∧ UInt8.ofNat c.val ≠ 45 ∧ UInt8.ofNat c.val ≠ 35 ∧ UInt8.ofNat c.val ≠ 34 ∧ UInt8.ofNat c.val ≠ 32 := by decide +kernel
theorem sgn_not {c : UInt8} (h : sgnB c = true) : lett c = false ∧ digB c = false ∧ c ≠ 45 ∧ c ≠ 35 ∧ c ≠ 34 ∧ c ≠ 32 := by
  have e : UInt8.ofNat c.toNat = c := by simp
  have := sgn_facts ⟨c.toNat, c.toNat_lt⟩
  simp only [e] at this
  exact this h
theorem tok_form (N : Nat) (a : Int) (t : Tk) (r : L8) (hm : tokMay t = true) (hok : TkOk t) (hN : t.s.length ≤ N) (hr : word0 r = false) : tokL N a (formL t ++ r) = .ok { t with at_ := a } r := by
  obtain ⟨k, a0, n, s, q⟩ := t
  obtain ⟨hs, hn, hq⟩ := hok
  simp only at hs hn hq hN
  unfold tokMay at hm
  simp only at hm
  unfold formL
  simp only
  by_cases h1 : k = 1
  · subst h1
    rw [if_pos rfl] at hm
    rw [if_neg (by decide), if_neg (by decide), if_neg (by decide)]
    simp only [Bool.and_eq_true, beq_iff_eq] at hm
    obtain ⟨⟨rfl, rfl⟩, hnm⟩ := hm
    cases s with
    | nil => simp [nameB] at hnm
    | cons c u =>
      simp only [nameB, Bool.and_eq_true, decide_eq_true_eq] at hnm
      have hall : (c :: u).all wordB = true := by
        rw [List.all_cons, Bool.and_eq_true]
        refine ⟨by unfold wordB; rw [hnm.1.1]; rfl, hnm.1.2⟩
      obtain ⟨g1, g2⟩ := tws wordB (c :: u) r hall (word_word0 hr)
      rw [tokL_letter N a (c :: u ++ r) c (u ++ r) rfl hnm.1.1, g1, g2, if_neg (by simp; omega)]
  by_cases h2 : k = 2
  · subst h2
    rw [if_neg (by decide), if_pos rfl] at hm
    rw [if_pos rfl]
    simp only [Bool.and_eq_true, beq_iff_eq, List.isEmpty_iff] at hm
    obtain ⟨rfl, rfl⟩ := hm
    by_cases hn0 : n < 0
    · obtain ⟨u, hu⟩ : ∃ u : Nat, n = -(u : Int) := ⟨n.natAbs, by omega⟩
      subst hu
      have hall := (dec_spec u u (Nat.le_refl _)).2.1
      obtain ⟨g1, g2⟩ := tws digB (Lib.decDigits u) r hall (dig_word0 hr)
      rw [Lib.itoa_neg u (by omega), tokL_neg N a (45 :: Lib.decDigits u ++ r) 45 (Lib.decDigits u ++ r) rfl rfl, g1, g2, dec_numO u true (by simp; omega) (fun _ => by omega)]
      rfl
    · obtain ⟨u, hu⟩ : ∃ u : Nat, n = (u : Int) := ⟨n.toNat, by omega⟩
      subst hu
      have hall := (dec_spec u u (Nat.le_refl _)).2.1
      obtain ⟨g1, g2⟩ := tws digB (Lib.decDigits u) r hall (dig_word0 hr)
      obtain ⟨c, ds, e1, e2, e3, e4, e5⟩ := dec_cons u
      rw [Lib.itoa_nonneg u]
      have hd : Lib.decDigits u ++ r = c :: (ds ++ r) := by rw [e1]; rfl
      rw [tokL_dig N a _ c (ds ++ r) hd (dig_lett e2) e2, g1, g2, dec_numO u false (by simp; omega) (fun h => by cases h)]
      rfl
  by_cases h3 : k = 3
  · subst h3
    rw [if_neg (by decide), if_neg (by decide), if_pos rfl] at hm
    rw [if_neg (by decide), if_pos rfl]
    simp only [Bool.and_eq_true, beq_iff_eq] at hm
    obtain ⟨rfl, rfl⟩ := hm
    have e : quoteL s ++ r = 34 :: (qbs s ++ 34 :: r) := by unfold quoteL; simp
    rw [e]
    have hq := qa_qbs N r s [] (by simpa using hN)
    simp only [tokL]
    rw [if_neg (by decide), if_neg (by decide), if_neg (by decide), if_neg (by decide), if_pos trivial, hq]
    rfl
  by_cases h4 : k = 4
  · subst h4
    rw [if_neg (by decide), if_neg (by decide), if_neg (by decide), if_pos rfl] at hm
    rw [if_neg (by decide), if_neg (by decide), if_pos rfl]
    simp only [Bool.and_eq_true, beq_iff_eq, List.isEmpty_iff, decide_eq_true_eq] at hm
    obtain ⟨⟨rfl, rfl⟩, hq1⟩ := hm
    obtain ⟨u, hu⟩ : ∃ u : Nat, q = (u : Int) := ⟨q.toNat, by omega⟩
    subst hu
    have hall := (dec_spec u u (Nat.le_refl _)).2.1
    obtain ⟨g1, g2⟩ := tws digB (Lib.decDigits u) r hall (dig_word0 hr)
    rw [Lib.itoa_nonneg u]
    simp only [List.cons_append, tokL]
    rw [if_neg (by decide), if_neg (by decide), if_neg (by decide), if_pos trivial, g1, g2, dec_numO u false (by simp; omega) (fun h => by cases h)]
    have hu1 : ¬ ((u : Int) < 1) := by omega
    simp [hu1]
  by_cases h5 : k = 5
  · subst h5
    rw [if_neg (by decide), if_neg (by decide), if_neg (by decide), if_neg (by decide), if_pos rfl] at hm
    rw [if_neg (by decide), if_neg (by decide), if_neg (by decide)]
    simp only [Bool.and_eq_true, beq_iff_eq] at hm
    obtain ⟨⟨rfl, rfl⟩, hos⟩ := hm
    match s, hos with
    | [c], hos =>
      have hos : sgnB c = true := hos
      obtain ⟨f1, f2, f3, f4, f5, -⟩ := sgn_not hos
      simp only [List.cons_append, List.nil_append, tokL]
      rw [if_neg (by rw [f1]; decide), if_neg (by rw [f2]; decide), if_neg f3, if_neg f4, if_neg f5, if_pos hos]
  · rw [if_neg h1, if_neg h2, if_neg h3, if_neg h4, if_neg h5] at hm
    cases hm
end Go.Proofs.YtkhpfghehjcfoaaDoor
