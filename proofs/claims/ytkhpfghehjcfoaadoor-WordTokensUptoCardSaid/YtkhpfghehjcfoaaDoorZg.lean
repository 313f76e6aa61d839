/- Plain laws: what is cut may be joined, to a line no longer than the line and a blank a token. -/
import Derived.Test.YtkhpfghehjcfoaaDoorZf
namespace Go.Proofs.YtkhpfghehjcfoaaDoor
open Go.RowKit

theorem tws_split (q : UInt8 → Bool) : ∀ l : L8, l = l.takeWhile q ++ l.dropWhile q ∧ (l.takeWhile q).all q = true
  | [] => ⟨rfl, rfl⟩
  | c :: l => by
    obtain ⟨h1, h2⟩ := tws_split q l
    by_cases hc : q c = true
    · simp only [List.takeWhile, List.dropWhile, hc, List.cons_append, List.all_cons, h2, Bool.and_self, and_true]
      exact congrArg (c :: ·) h1
    · have hc : q c = false := by simpa using hc
      simp [List.takeWhile, List.dropWhile, hc]
theorem numO_inv (neg : Bool) (d : L8) (n : Int) (hall : d.all digB = true) (h : numO neg d = some n) : Lib.decDigits (valD 0 d) = d ∧ (if neg then n = -(valD 0 d : Int) ∧ 0 < valD 0 d ∧ valD 0 d ≤ 9223372036854775808 else n = (valD 0 d : Int) ∧ valD 0 d ≤ 9223372036854775807) := by
  unfold numO at h
  by_cases hc : d = [] ∨ (d.head? = some 48 ∧ (1 < d.length ∨ neg = true))
  · rw [if_pos hc] at h; cases h
  rw [if_neg hc] at h
  have hne : d ≠ [] := fun e => hc (.inl e)
  have hd : d.head? = some 48 → d = [48] ∧ neg = false := fun e => by
    have h1 : ¬ (1 < d.length ∨ neg = true) := fun e2 => hc (.inr ⟨e, e2⟩)
    cases d with
    | nil => exact absurd rfl hne
    | cons c u =>
      simp only [List.head?_cons, Option.some.injEq] at e
      cases u with
      | nil => exact ⟨by rw [e], by cases neg <;> simp_all⟩
      | cons => simp at h1
  have hdec := dec_inv d.length d (Nat.le_refl _) hall hne (fun e => (hd e).1)
  refine ⟨hdec, ?_⟩
  cases neg with
  | false =>
    simp only [Bool.false_eq_true, if_false] at h ⊢
    by_cases hv : valD 0 d ≤ 9223372036854775807
    · rw [if_pos hv] at h
      injection h with h
      exact ⟨h.symm, hv⟩
    · rw [if_neg hv] at h; cases h
  | true =>
    simp only [if_true] at h ⊢
    by_cases hv : valD 0 d ≤ 9223372036854775808
    · rw [if_pos hv] at h
      injection h with h
      refine ⟨h.symm, ?_, hv⟩
      cases d with
      | nil => exact absurd rfl hne
      | cons c u =>
        have h48 : c ≠ 48 := fun e => by have := (hd (by rw [e]; rfl)).2; cases this
        have hcd : digB c = true := by simp only [List.all_cons, Bool.and_eq_true] at hall; exact hall.1
        simp only [digB, Bool.and_eq_true, decide_eq_true_eq] at hcd
        have hcn : c.toNat ≠ 48 := fun e => h48 (UInt8.toNat_inj.1 e)
        rw [valD_cons]
        have := valD_ge u (0 * 10 + (c.toNat - 48))
        omega
    · rw [if_neg hv] at h; cases h
theorem tok_inv (most : Nat) (hmost : most ≤ 1073741824) (a : Int) (l : L8) (k : Tk) (r : L8) (h : tokL most a l = .ok k r) : tokMay k = true ∧ TkOk k ∧ l = formL k ++ r := by
  cases l with
  | nil => simp [tokL] at h
  | cons c t =>
    by_cases h1 : lett c = true
    · rw [tokL_letter most a (c :: t) c t rfl h1] at h
      obtain ⟨g1, g2⟩ := tws_split wordB (c :: t)
      by_cases hl : 32 < ((c :: t).takeWhile wordB).length
      · rw [if_pos hl] at h; cases h
      · rw [if_neg hl] at h
        injection h with e1 e2
        subst e1 e2
        have hw : wordB c = true := by unfold wordB; rw [h1]; rfl
        have e : (c :: t).takeWhile wordB = c :: t.takeWhile wordB := by simp [List.takeWhile, hw]
        refine ⟨?_, ⟨by show ((c :: t).takeWhile wordB).length ≤ _; omega, by simp, by simp⟩, ?_⟩
        · unfold tokMay
          simp only [if_true]
          rw [e] at hl g2 ⊢
          simp only [List.all_cons, Bool.and_eq_true] at g2
          simp only [beq_self_eq_true, Bool.and_self, Bool.true_and, nameB, h1, Bool.and_eq_true, decide_eq_true_eq]
          exact ⟨g2.2, by simp at hl; omega⟩
        · unfold formL
          simp only
          rw [if_neg (by decide), if_neg (by decide), if_neg (by decide)]
          exact g1
    have h1 : lett c = false := by simpa using h1
    by_cases h2 : digB c = true
    · rw [tokL_dig most a (c :: t) c t rfl h1 h2] at h
      obtain ⟨g1, g2⟩ := tws_split digB (c :: t)
      cases hn : numO false ((c :: t).takeWhile digB) with
      | none => rw [hn] at h; cases h
      | some n =>
        rw [hn] at h
        injection h with e1 e2
        subst e1 e2
        obtain ⟨f1, f2⟩ := numO_inv false _ n g2 hn
        simp only [Bool.false_eq_true, if_false] at f2
        obtain ⟨rfl, f3⟩ := f2
        refine ⟨rfl, ⟨by simp, by simp only; omega, by simp⟩, ?_⟩
        unfold formL
        simp only [if_true]
        rw [Lib.itoa_nonneg, f1]
        exact g1
    have h2 : digB c = false := by simpa using h2
    by_cases h3 : c = 45
    · rw [tokL_neg most a (c :: t) c t rfl h3] at h
      obtain ⟨g1, g2⟩ := tws_split digB t
      cases hn : numO true (t.takeWhile digB) with
      | none => rw [hn] at h; cases h
      | some n =>
        rw [hn] at h
        injection h with e1 e2
        subst e1 e2
        obtain ⟨f1, f2⟩ := numO_inv true _ n g2 hn
        simp only [if_true] at f2
        obtain ⟨rfl, f3, f4⟩ := f2
        refine ⟨rfl, ⟨by simp, by simp only; omega, by simp⟩, ?_⟩
        unfold formL
        simp only [if_true]
        rw [Lib.itoa_neg _ f3, f1, h3]
        exact congrArg (45 :: ·) g1
    by_cases h4 : c = 35
    · subst h4
      simp only [tokL] at h
      rw [if_neg (by decide), if_neg (by decide), if_neg (by decide), if_pos trivial] at h
      obtain ⟨g1, g2⟩ := tws_split digB t
      cases hn : numO false (t.takeWhile digB) with
      | none => rw [hn] at h; cases h
      | some n =>
        rw [hn] at h
        simp only at h
        by_cases hn1 : n < 1
        · rw [if_pos hn1] at h; cases h
        rw [if_neg hn1] at h
        injection h with e1 e2
        subst e1 e2
        obtain ⟨f1, f2⟩ := numO_inv false _ n g2 hn
        simp only [Bool.false_eq_true, if_false] at f2
        obtain ⟨rfl, f3⟩ := f2
        refine ⟨by simp [tokMay]; omega, ⟨by simp, by simp, by simp only; omega⟩, ?_⟩
        unfold formL
        simp only
        rw [if_neg (by decide), if_neg (by decide), if_pos trivial, Lib.itoa_nonneg, f1]
        exact congrArg (35 :: ·) g1
    by_cases h5 : c = 34
    · subst h5
      simp only [tokL] at h
      rw [if_neg (by decide), if_neg (by decide), if_neg (by decide), if_neg (by decide), if_pos trivial] at h
      cases hq : qa most .run t [] with
      | no t' => rw [hq] at h; cases h
      | ok b r' =>
        rw [hq] at h
        injection h with e1 e2
        subst e1 e2
        obtain ⟨x, f1, f2, f3, f4⟩ := qa_inv most t.length t [] b r' (Nat.le_refl _) hq
        have f1 : b = x := by simpa using f1
        subst f1
        have f4 := f4 (by simp)
        refine ⟨rfl, ⟨by simp at f4; simp only; omega, by simp, by simp⟩, ?_⟩
        unfold formL quoteL
        simp only
        rw [if_neg (by decide), if_pos trivial, f2]
        simp
    simp only [tokL] at h
    rw [if_neg (by rw [h1]; decide), if_neg (by rw [h2]; decide), if_neg h3, if_neg h4, if_neg h5] at h
    by_cases h6 : sgnB c = true
    · rw [if_pos h6] at h
      injection h with e1 e2
      subst e1 e2
      refine ⟨?_, ⟨by simp, by simp, by simp⟩, ?_⟩
      · unfold tokMay
        simp only
        rw [if_neg (by decide), if_neg (by decide), if_neg (by decide), if_neg (by decide), if_pos trivial]
        simp only [beq_self_eq_true, Bool.and_self, Bool.true_and]
        exact h6
      · unfold formL
        simp only
        rw [if_neg (by decide), if_neg (by decide), if_neg (by decide)]
        rfl
    · rw [if_neg h6] at h; cases h
theorem cut_inv (N : Nat) (hN : N ≤ 1073741824) : ∀ (f : Nat) (T : L8) (tight : Bool) (acc res : List Tk) (r : L8), cutL N f T tight acc = .ok res r →
    ∃ m, res = acc ++ m ∧ (∀ t ∈ m, tokMay t = true ∧ TkOk t) ∧ (tailF m).length ≤ T.length + m.length
  | 0, T, tight, acc, res, r, h => by simp [cutL] at h
  | f + 1, [], tight, acc, res, r, h => by
    simp only [cutL, Rs.ok.injEq] at h
    exact ⟨[], by simp [h.1], fun t ht => absurd ht (by simp), by simp [tailF]⟩
  | f + 1, c :: T, tight, acc, res, r, h => by
    by_cases h32 : c = 32
    · rw [cutL_blank N f c T tight acc h32] at h
      obtain ⟨m, h1, h2, h3⟩ := cut_inv N hN f T false acc res r h
      exact ⟨m, h1, h2, by simp; omega⟩
    by_cases hb : tight = true ∧ sgnB c = false
    · rw [cutL_bad N f c T tight acc h32 hb] at h; cases h
    rw [cutL_tok N f c T tight acc h32 hb] at h
    cases ht : tokL N ((N - (c :: T).length : Nat) : Int) (c :: T) with
    | no r' => rw [ht] at h; cases h
    | ok k r' =>
      rw [ht] at h
      obtain ⟨g1, g2, g3⟩ := tok_inv N hN _ _ k r' ht
      obtain ⟨m, h1, h2, h3⟩ := cut_inv N hN f r' _ (acc ++ [k]) res r h
      refine ⟨k :: m, by rw [h1]; simp, fun t ht => ?_, ?_⟩
      · rcases List.mem_cons.1 ht with rfl | ht
        · exact ⟨g1, g2⟩
        · exact h2 t ht
      · have : (c :: T).length = (formL k).length + r'.length := by rw [g3, List.length_append]
        rw [this]
        simp [tailF]
        omega
/-- What was cut out of a line may be joined. -/
theorem cut_join (s : ByteArray) (hs : s.size ≤ 500000) (m : List Tk) (r : L8) (h : cutR s = .ok m r) : ∃ t, joinR m = (t, 0) ∧ t.length ≤ s.size + m.length ∧ ∀ x ∈ m, TkOk x := by
  obtain ⟨m', h1, h2, h3⟩ := cut_inv s.size (by omega) _ _ _ _ _ _ h
  have h1 : m = m' := by simpa using h1
  subst h1
  have hsz : s.data.toList.length = s.size := by simp
  rw [hsz] at h3
  have hml : m.length ≤ s.size + 1 := by
    have h9 := cutL_len _ _ _ _ _ _ _ h
    simp only [List.length_nil] at h9
    omega
  have hall : m.all tokMay = true := List.all_eq_true.2 fun x hx => (h2 x hx).1
  unfold joinR
  rw [if_pos hall]
  cases m with
  | nil => exact ⟨[], rfl, by simp, fun x hx => absurd hx (by simp)⟩
  | cons t l =>
    have hl : (formL t ++ tailF l).length + 1 = (tailF (t :: l)).length := by simp [tailF]
    refine ⟨formL t ++ tailF l, ?_, by omega, fun x hx => (h2 x hx).2⟩
    rw [joinG, if_neg]
    · have e := joinG_ok l ([] ++ ((if true = true then [] else [32]) ++ formL t)) (by
        simp only [if_true, List.nil_append]
        omega)
      rw [e]
      simp [joinO]
    · simp only [if_true, List.nil_append]
      have : (formL t).length ≤ (formL t ++ tailF l).length := by simp
      omega
end Go.Proofs.YtkhpfghehjcfoaaDoor
