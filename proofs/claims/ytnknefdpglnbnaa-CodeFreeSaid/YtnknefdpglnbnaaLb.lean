/- The plain law of expressions and values: the document's measures (parts, depth, fields) say what mayE and mayV say. The plain law of CodeWorks: what the document's work works out, and what Work answers, are the same. -/
import Derived.Test.YtnknefdpglnbnaaK
namespace Go.Proofs.Ytnknefdpglnbnaa
open Go.RowKit

mutual
def prE : Ex → Nat → Nat
  | .mk _ _ _ l, d => if 16 < d then 513 else prEs l (d + 1) 1
def prEs : List Ex → Nat → Nat → Nat
  | [], _, n => n
  | x :: l, d, n => if n ≤ 512 then prEs l d (n + prE x d) else n
end
mutual
def dpE : Ex → Nat
  | .mk k _ _ l => if k = 3 then dpEs l 0 + 1 else 0
def dpEs : List Ex → Nat → Nat
  | [], m => m
  | x :: l, m => dpEs l (max m (dpE x))
end
def fldOk (k n : Int) (s : ByteArray) (len : Nat) : Bool :=
  if k = 1 then s.toList.isEmpty && len == 0 else if k = 2 then n == 0 && (decide ((s.size : Int) ≤ 256) && len == 0) else if k = 3 then n == 0 && s.toList.isEmpty else if k = 4 then n == 0 && (mayN s && len == 0) else false
mutual
def fldE : Ex → Bool
  | .mk k n s l => fldEs l && fldOk k n s l.length
def fldEs : List Ex → Bool
  | [] => true
  | x :: l => fldE x && fldEs l
end
theorem dpEs_le (l : List Ex) (m N : Nat) : dpEs l m ≤ N ↔ m ≤ N ∧ dpEs l 0 ≤ N := by
  induction l generalizing m with
  | nil => simp [dpEs]
  | cons x l ih =>
    simp only [dpEs]
    rw [ih, ih (max 0 (dpE x))]
    omega
theorem dpEs_cons (x : Ex) (l : List Ex) (N : Nat) : dpEs (x :: l) 0 ≤ N ↔ dpE x ≤ N ∧ dpEs l 0 ≤ N := by
  simp only [dpEs]
  rw [dpEs_le]
  omega
theorem fldEs_nil_of {k n : Int} {s : ByteArray} {l : List Ex} (h : fldE (.mk k n s l) = true) (hk : ¬ k = 3) : l = [] := by
  simp only [fldE, fldOk, Bool.and_eq_true] at h
  have h2 := h.2
  split at h2
  · simp at h2; exact h2.2
  · split at h2
    · simp at h2; exact h2.2.2
    · split at h2
      · simp at h2; exact h2.2.2
      · simp at h2
mutual
theorem mayX_eq : ∀ (x : Ex) (nest : Nat) (left : Int), (mayX x nest left).1 = (fldE x && (decide (dpE x ≤ nest) && decide ((szE x : Int) ≤ left)))
  | .mk k n s l, nest, left => by
    unfold mayX fldE dpE szE fldOk
    by_cases hl : left - 1 < 0
    · have : decide (((1 + szEs l : Nat) : Int) ≤ left) = false := by simp; omega
      rw [if_pos (by simp [hl]), this, Bool.and_false, Bool.and_false]
    · by_cases hk1 : k = 1
      · subst hk1
        cases l with
        | nil => simp [hl, szEs, fldEs]; cases hs : s.toList.isEmpty <;> simp_all <;> omega
        | cons x l => simp [hl]
      · by_cases hk2 : k = 2
        · subst hk2
          cases l with
          | nil =>
            have h1 : decide (((1 + szEs [] : Nat) : Int) ≤ left) = true := decide_eq_true (by simp only [szEs]; omega)
            rw [h1]
            have e : decide (s.size ≤ 256) = decide ((s.size : Int) ≤ 256) := by rw [Bool.eq_iff_iff]; simp only [decide_eq_true_eq]; omega
            rw [e]
            generalize decide ((s.size : Int) ≤ 256) = c
            by_cases hn : n = 0 <;> simp [hl, fldEs, hn]
          | cons x l => simp [hl]
        · by_cases hk4 : k = 4
          · subst hk4
            cases l with
            | nil =>
              have h1 : decide (((1 + szEs [] : Nat) : Int) ≤ left) = true := decide_eq_true (by simp only [szEs]; omega)
              rw [h1]
              by_cases hn : n = 0 <;> simp [hl, fldEs, hn]
            | cons x l => simp [hl]
          · by_cases hk3 : k = 3
            · subst hk3
              by_cases hn : n = 0
              · cases hs : s.toList.isEmpty
                · simp [hl]
                · cases nest with
                  | zero => simp [hl, hn]
                  | succ m =>
                    have := mayXs_eq l m (left - 1) (by omega)
                    simp [hl, hn, this]
                    rw [Bool.eq_iff_iff]
                    simp
                    intro _
                    omega
              · simp [hl, hn]
            · simp [hk1, hk2, hk3, hk4]
theorem mayXs_eq : ∀ (l : List Ex) (nest : Nat) (left : Int), 0 ≤ left → (mayXs l nest left).1 = (fldEs l && (decide (dpEs l 0 ≤ nest) && decide ((szEs l : Int) ≤ left)))
  | [], nest, left, h => by simp [mayXs, fldEs, dpEs, szEs, h]
  | x :: l, nest, left, h => by
    have h1 := mayX_eq x nest left
    unfold mayXs fldEs szEs
    split
    · rename_i ht
      rw [ht] at h1
      have h2 : fldE x = true ∧ dpE x ≤ nest ∧ (szE x : Int) ≤ left := by simpa using h1.symm
      rw [mayX_sz x nest left ht, mayXs_eq l nest _ (by omega), h2.1, Bool.true_and]
      congr 1
      rw [Bool.eq_iff_iff]
      simp only [Bool.and_eq_true, decide_eq_true_eq]
      rw [dpEs_cons]
      omega
    · rename_i hf
      have hf' : (mayX x nest left).1 = false := by simpa using hf
      rw [hf'] at h1
      symm
      rw [Bool.eq_false_iff]
      intro hc
      simp only [Bool.and_eq_true, decide_eq_true_eq] at hc
      obtain ⟨⟨c1, c2⟩, c3, c4⟩ := hc
      rw [dpEs_cons] at c3
      have : fldE x = true ∧ dpE x ≤ nest ∧ (szE x : Int) ≤ left := ⟨c1, c3.1, by omega⟩
      simp [this] at h1
end
mutual
theorem prE_eq : ∀ (x : Ex) (d : Nat), fldE x = true → dpE x + d ≤ 16 → (prE x d ≤ 512 → prE x d = szE x) ∧ (szE x ≤ 512 → prE x d = szE x)
  | .mk k n s l, d, hf, hd => by
    unfold prE szE
    rw [if_neg (by omega)]
    by_cases hk : k = 3
    · subst hk
      have h1 : fldEs l = true := by simp only [fldE, Bool.and_eq_true] at hf; exact hf.1
      have h2 : dpEs l 0 + (d + 1) ≤ 16 := by simp only [dpE, if_true] at hd; omega
      exact prEs_eq l (d + 1) 1 h1 h2
    · have := fldEs_nil_of hf hk
      subst this
      simp [prEs, szEs]
theorem prEs_eq : ∀ (l : List Ex) (d n : Nat), fldEs l = true → dpEs l 0 + d ≤ 16 → (prEs l d n ≤ 512 → prEs l d n = n + szEs l) ∧ (n + szEs l ≤ 512 → prEs l d n = n + szEs l)
  | [], d, n, _, _ => by simp [prEs, szEs]
  | x :: l, d, n, hf, hd => by
    simp only [fldEs, Bool.and_eq_true] at hf
    have hd2 : dpE x ≤ 16 - d ∧ dpEs l 0 ≤ 16 - d := (dpEs_cons x l _).1 (by omega)
    have hx := prE_eq x d hf.1 (by omega)
    have hl := prEs_eq l d (n + prE x d) hf.2 (by omega)
    have hge := prEs_ge l d (n + prE x d)
    unfold prEs szEs
    split
    · constructor
      · intro h
        have := hl.1 h
        have := hx.1 (by omega)
        omega
      · intro h
        have := hx.2 (by omega)
        have := hl.2 (by omega)
        omega
    · omega
theorem prEs_ge : ∀ (l : List Ex) (d n : Nat), n ≤ prEs l d n
  | [], d, n => by simp [prEs]
  | x :: l, d, n => by
    have := prEs_ge l d (n + prE x d)
    unfold prEs
    split <;> omega
end
theorem mayE_eq (x : Ex) : mayE x = (decide (prE x 0 ≤ 512) && (decide (dpE x ≤ 16) && fldE x)) := by
  unfold mayE
  rw [mayX_eq, Bool.eq_iff_iff]
  simp only [Bool.and_eq_true, decide_eq_true_eq]
  constructor
  · rintro ⟨h1, h2, h3⟩
    have := (prE_eq x 0 h1 (by omega)).2 (by omega)
    exact ⟨by omega, h2, h1⟩
  · rintro ⟨h1, h2, h3⟩
    have := (prE_eq x 0 h3 (by omega)).1 h1
    exact ⟨h3, h2, by omega⟩
mutual
theorem prE_bd : ∀ (x : Ex) (d : Nat), prE x d ≤ 513 * (18 - d) + 513
  | .mk _ _ _ l, d => by
    unfold prE
    split
    · omega
    · have := prEs_bd l (d + 1) 1 (by omega)
      omega
theorem prEs_bd : ∀ (l : List Ex) (d n : Nat), n ≤ 513 * (18 - d) + 1025 → prEs l d n ≤ 513 * (18 - d) + 1025
  | [], d, n, h => by simpa [prEs] using h
  | x :: l, d, n, h => by
    have h1 := prE_bd x d
    unfold prEs
    split
    · exact prEs_bd l d _ (by omega)
    · exact h
end
mutual
theorem dpE_sz : ∀ (x : Ex), dpE x ≤ szE x
  | .mk k n s l => by
    have := dpEs_sz l
    unfold dpE szE
    split <;> omega
theorem dpEs_sz : ∀ (l : List Ex), dpEs l 0 ≤ szEs l
  | [] => by simp [dpEs]
  | x :: l => by
    have h1 := dpE_sz x
    have h2 := dpEs_sz l
    unfold szEs
    rw [dpEs_cons]
    omega
end
/-! ### Values -/
mutual
def szV : Va → Nat | .mk _ _ _ l _ => 1 + szVs l
def szVs : List Va → Nat | [] => 0 | x :: l => szV x + szVs l
end
mutual
def prV : Va → Nat → Nat
  | .mk _ _ _ l _, d => if 16 < d then 513 else prVs l (d + 1) 1
def prVs : List Va → Nat → Nat → Nat
  | [], _, n => n
  | x :: l, d, n => if n ≤ 512 then prVs l d (n + prV x d) else n
end
mutual
def dpV : Va → Nat
  | .mk k _ _ l _ => if k = 3 then dpVs l 0 + 1 else 0
def dpVs : List Va → Nat → Nat
  | [], m => m
  | x :: l, m => dpVs l (max m (dpV x))
end
def fldV1 : Va → Bool
  | .mk k n s l r => if k = 0 then n == 0 && (s.toList.isEmpty && (l.length == 0 && r == 0)) else if k = 1 then s.toList.isEmpty && (l.length == 0 && r == 0) else if k = 2 then n == 0 && (decide ((s.size : Int) ≤ 256) && (l.length == 0 && r == 0)) else if k = 3 then n == 0 && (s.toList.isEmpty && r == 0) else if k = 4 then n == 0 && (s.toList.isEmpty && (l.length == 0 && decide (1 ≤ r))) else false
mutual
def fldV : Va → Bool
  | .mk k n s l r => fldVs l && fldV1 (.mk k n s l r)
def fldVs : List Va → Bool
  | [] => true
  | x :: l => fldV x && fldVs l
end
theorem dpVs_le (l : List Va) (m N : Nat) : dpVs l m ≤ N ↔ m ≤ N ∧ dpVs l 0 ≤ N := by
  induction l generalizing m with
  | nil => simp [dpVs]
  | cons x l ih =>
    simp only [dpVs]
    rw [ih, ih (max 0 (dpV x))]
    omega
theorem dpVs_cons (x : Va) (l : List Va) (N : Nat) : dpVs (x :: l) 0 ≤ N ↔ dpV x ≤ N ∧ dpVs l 0 ≤ N := by
  simp only [dpVs]
  rw [dpVs_le]
  omega
theorem fldVs_nil_of {k n : Int} {s : ByteArray} {l : List Va} {r : Int} (h : fldV (.mk k n s l r) = true) (hk : ¬ k = 3) : l = [] := by
  simp only [fldV, fldV1, Bool.and_eq_true] at h
  have h2 := h.2
  rw [if_neg hk] at h2
  by_cases h0 : k = 0
  · simp [h0] at h2; exact h2.2.2.1
  · by_cases h1 : k = 1
    · simp [h1] at h2; exact h2.2.1
    · by_cases h3 : k = 2
      · simp [h3] at h2; exact h2.2.2.1
      · by_cases h4 : k = 4
        · simp [h4] at h2; exact h2.2.2.1
        · simp [h0, h1, h3, h4] at h2
theorem szV_pos (x : Va) : 1 ≤ szV x := by cases x; unfold szV; omega
theorem len_szVs : ∀ (l : List Va), l.length ≤ szVs l
  | [] => by simp [szVs]
  | x :: l => by have := len_szVs l; have := szV_pos x; simp only [List.length_cons, szVs]; omega
mutual
theorem takeV_eq : ∀ (x : Va) (parts nest : Nat), takeV x parts nest = if fldV x = true ∧ dpV x ≤ nest ∧ szV x ≤ parts then some (parts - szV x) else Option.none
  | .mk k n s l r, parts, nest => by
    cases parts with
    | zero => rw [if_neg (by have := szV_pos (.mk k n s l r); omega)]; unfold takeV; rfl
    | succ q =>
      unfold takeV fldV fldV1 dpV szV
      by_cases hk3 : k = 3
      · subst hk3
        simp only [show ((3 : Int) == 0) = false from rfl, show ((3 : Int) == 1) = false from rfl, show ((3 : Int) == 2) = false from rfl, show ((3 : Int) == 4) = false from rfl, show ((3 : Int) == 3) = true from rfl, Bool.false_eq_true, if_false, if_true, show ¬ (3 : Int) = 0 from by decide, show ¬ (3 : Int) = 1 from by decide, show ¬ (3 : Int) = 2 from by decide]
        cases nest with
        | zero => rw [if_neg (by omega)]
        | succ m =>
          simp only
          have hlen := len_szVs l
          split
          · rw [if_neg (by omega)]
          · rw [takeVs_eq l q m]
            by_cases hc : fldVs l = true ∧ dpVs l 0 ≤ m ∧ szVs l ≤ q
            · rw [if_pos hc]
              simp only [hc.1, Bool.true_and]
              by_cases hz : (n == 0 && (s.toList.isEmpty && r == 0)) = true
              · rw [if_pos (by rw [Bool.and_assoc]; exact hz), if_pos ⟨hz, by omega, by omega⟩]
                congr 1
                omega
              · rw [if_neg (by rw [Bool.and_assoc]; exact hz), if_neg (fun h => hz h.1)]
            · rw [if_neg hc, if_neg]
              rintro ⟨h1, h2, h3⟩
              simp only [Bool.and_eq_true] at h1
              exact hc ⟨h1.1, by omega, by omega⟩
      · cases l with
        | cons x l =>
          rw [if_neg]
          · by_cases h0 : k = 0
            · simp [h0]
            · by_cases h1 : k = 1
              · simp [h1]
              · by_cases h2 : k = 2
                · simp [h2]
                · by_cases h4 : k = 4
                  · simp [h4]
                  · simp [h0, h1, h2, h4, hk3]
          · rintro ⟨h, _⟩
            have := fldVs_nil_of (k := k) (n := n) (s := s) (l := x :: l) (r := r) (by unfold fldV fldV1; exact h) hk3
            simp at this
        | nil =>
          simp only [fldVs, szVs, Bool.true_and, hk3, if_false, Nat.zero_le, true_and]
          by_cases h0 : k = 0
          · simp [h0, Bool.and_assoc]
          · by_cases h1 : k = 1
            · simp [h1]
            · by_cases h2 : k = 2
              · simp only [h2, if_true, show ((2 : Int) == 0) = false from rfl, show ((2 : Int) == 1) = false from rfl, show ((2 : Int) == 2) = true from rfl, Bool.false_eq_true, if_false, show ¬ (2 : Int) = 0 from by decide, show ¬ (2 : Int) = 1 from by decide]
                have e : (decide ((s.size : Int) ≤ 256) && n == 0 && r == 0 && ([] : List Va).isEmpty) = (n == 0 && (decide ((s.size : Int) ≤ 256) && (([] : List Va).length == 0 && r == 0))) := by
                  cases decide ((s.size : Int) ≤ 256) <;> cases (n == 0) <;> cases (r == 0) <;> rfl
                rw [e]
                cases (n == 0 && (decide ((s.size : Int) ≤ 256) && (([] : List Va).length == 0 && r == 0))) <;> simp
              · by_cases h4 : k = 4
                · simp only [h4, if_true, show ((4 : Int) == 0) = false from rfl, show ((4 : Int) == 1) = false from rfl, show ((4 : Int) == 2) = false from rfl, show ((4 : Int) == 4) = true from rfl, Bool.false_eq_true, if_false, show ¬ (4 : Int) = 0 from by decide, show ¬ (4 : Int) = 1 from by decide, show ¬ (4 : Int) = 2 from by decide]
                  have e : (decide (1 ≤ r) && n == 0 && s.toList.isEmpty && ([] : List Va).isEmpty) = (n == 0 && (s.toList.isEmpty && (([] : List Va).length == 0 && decide (1 ≤ r)))) := by
                    cases decide (1 ≤ r) <;> cases (n == 0) <;> cases s.toList.isEmpty <;> rfl
                  rw [e]
                  cases (n == 0 && (s.toList.isEmpty && (([] : List Va).length == 0 && decide (1 ≤ r)))) <;> simp
                · simp [h0, h1, h2, h4, hk3]
theorem takeVs_eq : ∀ (l : List Va) (parts nest : Nat), takeVs l parts nest = if fldVs l = true ∧ dpVs l 0 ≤ nest ∧ szVs l ≤ parts then some (parts - szVs l) else Option.none
  | [], parts, nest => by simp [takeVs, fldVs, dpVs, szVs]
  | x :: l, parts, nest => by
    unfold takeVs szVs
    rw [takeV_eq x parts nest]
    by_cases hx : fldV x = true ∧ dpV x ≤ nest ∧ szV x ≤ parts
    · rw [if_pos hx]
      simp only
      rw [takeVs_eq l _ nest]
      by_cases hl : fldVs l = true ∧ dpVs l 0 ≤ nest ∧ szVs l ≤ parts - szV x
      · rw [if_pos hl, if_pos ⟨by simp [fldVs, hx.1, hl.1], (dpVs_cons x l _).2 ⟨hx.2.1, hl.2.1⟩, by omega⟩]
        congr 1
        omega
      · rw [if_neg hl, if_neg]
        rintro ⟨h1, h2, h3⟩
        simp only [fldVs, Bool.and_eq_true] at h1
        exact hl ⟨h1.2, ((dpVs_cons x l _).1 h2).2, by omega⟩
    · rw [if_neg hx]
      simp only
      rw [if_neg]
      rintro ⟨h1, h2, h3⟩
      simp only [fldVs, Bool.and_eq_true] at h1
      exact hx ⟨h1.1, ((dpVs_cons x l _).1 h2).1, by omega⟩
end
mutual
theorem prV_eq : ∀ (x : Va) (d : Nat), fldV x = true → dpV x + d ≤ 16 → (prV x d ≤ 512 → prV x d = szV x) ∧ (szV x ≤ 512 → prV x d = szV x)
  | .mk k n s l r, d, hf, hd => by
    unfold prV szV
    rw [if_neg (by omega)]
    by_cases hk : k = 3
    · subst hk
      have h1 : fldVs l = true := by simp only [fldV, Bool.and_eq_true] at hf; exact hf.1
      have h2 : dpVs l 0 + (d + 1) ≤ 16 := by simp only [dpV, if_true] at hd; omega
      exact prVs_eq l (d + 1) 1 h1 h2
    · have := fldVs_nil_of hf hk
      subst this
      simp [prVs, szVs]
theorem prVs_eq : ∀ (l : List Va) (d n : Nat), fldVs l = true → dpVs l 0 + d ≤ 16 → (prVs l d n ≤ 512 → prVs l d n = n + szVs l) ∧ (n + szVs l ≤ 512 → prVs l d n = n + szVs l)
  | [], d, n, _, _ => by simp [prVs, szVs]
  | x :: l, d, n, hf, hd => by
    simp only [fldVs, Bool.and_eq_true] at hf
    have hd2 : dpV x ≤ 16 - d ∧ dpVs l 0 ≤ 16 - d := (dpVs_cons x l _).1 (by omega)
    have hx := prV_eq x d hf.1 (by omega)
    have hl := prVs_eq l d (n + prV x d) hf.2 (by omega)
    have hge := prVs_ge l d (n + prV x d)
    unfold prVs szVs
    split
    · constructor
      · intro h
        have := hl.1 h
        have := hx.1 (by omega)
        omega
      · intro h
        have := hx.2 (by omega)
        have := hl.2 (by omega)
        omega
    · omega
theorem prVs_ge : ∀ (l : List Va) (d n : Nat), n ≤ prVs l d n
  | [], d, n => by simp [prVs]
  | x :: l, d, n => by
    have := prVs_ge l d (n + prV x d)
    unfold prVs
    split <;> omega
end
theorem mayV_iff (x : Va) : mayV x = true ↔ fldV x = true ∧ dpV x ≤ 16 ∧ szV x ≤ 512 := by
  unfold mayV
  rw [takeV_eq]
  split
  · rename_i h; simp [h]
  · rename_i h; simpa using h
theorem measV_eq (x : Va) (h : mayV x = true) : measV x = szV x := by
  have h' := (mayV_iff x).1 h
  unfold measV
  rw [takeV_eq, if_pos h']
  simp only
  omega
theorem mayV_eq (x : Va) : mayV x = (decide (prV x 0 ≤ 512) && (decide (dpV x ≤ 16) && fldV x)) := by
  rw [Bool.eq_iff_iff, mayV_iff]
  simp only [Bool.and_eq_true, decide_eq_true_eq]
  constructor
  · rintro ⟨h1, h2, h3⟩
    have := (prV_eq x 0 h1 (by omega)).2 (by omega)
    exact ⟨by omega, h2, h1⟩
  · rintro ⟨h1, h2, h3⟩
    have := (prV_eq x 0 h3 (by omega)).1 h1
    exact ⟨h3, h2, by omega⟩
mutual
theorem prV_bd : ∀ (x : Va) (d : Nat), prV x d ≤ 513 * (18 - d) + 513
  | .mk _ _ _ l _, d => by
    unfold prV
    split
    · omega
    · have := prVs_bd l (d + 1) 1 (by omega)
      omega
theorem prVs_bd : ∀ (l : List Va) (d n : Nat), n ≤ 513 * (18 - d) + 1025 → prVs l d n ≤ 513 * (18 - d) + 1025
  | [], d, n, h => by simpa [prVs] using h
  | x :: l, d, n, h => by
    have h1 := prV_bd x d
    unfold prVs
    split
    · exact prVs_bd l d _ (by omega)
    · exact h
end
mutual
theorem dpV_sz : ∀ (x : Va), dpV x ≤ szV x
  | .mk k n s l _ => by
    have := dpVs_sz l
    unfold dpV szV
    split <;> omega
theorem dpVs_sz : ∀ (l : List Va), dpVs l 0 ≤ szVs l
  | [] => by simp [dpVs]
  | x :: l => by
    have h1 := dpV_sz x
    have h2 := dpVs_sz l
    unfold szVs
    rw [dpVs_cons]
    omega
end
end Go.Proofs.Ytnknefdpglnbnaa
namespace Go.Proofs.Ytnknefdpglnbnaa
open Go.RowKit

/-- What a name stands for, as it stands there. -/
def rawX (l : List Na) (n : ByteArray) : Va := match getN l n with | Option.none => zeroVa | some x => x
mutual
def workR (ns : List Na) : Ex → Va
  | .mk k n s l =>
    if k = 1 then .mk 1 n ⟨#[]⟩ [] 0
    else if k = 2 then .mk 2 0 s [] 0
    else if k = 3 then .mk 3 0 ⟨#[]⟩ (workRs ns l) 0
    else if k = 4 then rawX ns s
    else zeroVa
def workRs (ns : List Na) : List Ex → List Va
  | [] => []
  | x :: l => workR ns x :: workRs ns l
end
theorem getN_mem (l : List Na) (n : ByteArray) (x : Va) (h : getN l n = some x) : ∃ s, (s, x) ∈ l := by
  induction l with
  | nil => simp [getN] at h
  | cons a l ih =>
    obtain ⟨s, y⟩ := a
    unfold getN at h
    split at h
    · simp at h; exact ⟨s, by simp [h]⟩
    · obtain ⟨t, ht⟩ := ih h; exact ⟨t, by simp [ht]⟩
theorem zeroVa_may : mayV zeroVa = true := by rw [mayV_iff]; unfold zeroVa; simp [fldV, fldVs, fldV1, dpV, szV, szVs]
theorem rawX_may (l : List Na) (n : ByteArray) (h : mayNs l = true) : mayV (rawX l n) = true := by
  unfold rawX
  split
  · exact zeroVa_may
  · rename_i x hx
    obtain ⟨s, hs⟩ := getN_mem l n x hx
    simp only [mayNs, Bool.and_eq_true, List.all_eq_true] at h
    exact (h.1.2 _ hs).2
theorem getX_raw (l : List Na) (n : ByteArray) (h : mayNs l = true) : getX l n = rawX l n := by
  have := rawX_may l n h
  unfold rawX at this
  unfold getX rawX
  cases hg : getN l n with
  | none => rfl
  | some x =>
    rw [hg] at this
    simp only at this ⊢
    simp [ownX, this]
theorem szV_one (k n : Int) (s : ByteArray) (r : Int) : szV (.mk k n s [] r) = 1 := by simp [szV, szVs]
mutual
/-- .. while there are parts left, the same; else, too few were left. -/
theorem workX_raw (ns : List Na) (h : mayNs ns = true) : ∀ (x : Ex) (left : Int), ((szV (workR ns x) : Int) ≤ left → workX ns x left = (workR ns x, left - szV (workR ns x))) ∧ (left < szV (workR ns x) → (workX ns x left).2 < 0)
  | .mk k n s l, left => by
    unfold workR workX
    by_cases h1 : k = 1
    · subst h1; simp [szV_one]; omega
    · by_cases h2 : k = 2
      · subst h2; simp [szV_one]; omega
      · by_cases h3 : k = 3
        · subst h3
          have := workXs_raw ns h l left
          simp only [show ((3 : Int) == 1) = false from rfl, show ((3 : Int) == 2) = false from rfl, show ((3 : Int) == 4) = false from rfl, show ((3 : Int) == 3) = true from rfl, Bool.false_eq_true, if_false, if_true, show ¬ (3 : Int) = 1 from by decide, show ¬ (3 : Int) = 2 from by decide]
          unfold szV
          constructor
          · intro hl
            rw [this.1 (by omega)]
            simp only [Prod.mk.injEq, true_and]
            omega
          · intro hl
            by_cases hc : (szVs (workRs ns l) : Int) ≤ left
            · rw [this.1 hc]; simp only; omega
            · have := this.2 (by omega); omega
        · by_cases h4 : k = 4
          · subst h4
            simp only [show ((4 : Int) == 1) = false from rfl, show ((4 : Int) == 2) = false from rfl, show ((4 : Int) == 4) = true from rfl, Bool.false_eq_true, if_false, if_true, show ¬ (4 : Int) = 1 from by decide, show ¬ (4 : Int) = 2 from by decide, show ¬ (4 : Int) = 3 from by decide]
            rw [getX_raw ns s h, measV_eq _ (rawX_may ns s h)]
            exact ⟨fun _ => rfl, fun hl => by omega⟩
          · have e1 : (k == 1) = false := by simpa using h1
            have e2 : (k == 2) = false := by simpa using h2
            have e3 : (k == 3) = false := by simpa using h3
            have e4 : (k == 4) = false := by simpa using h4
            simp only [e1, e2, e3, e4, h1, h2, h3, h4, Bool.false_eq_true, if_false]
            rw [show szV zeroVa = 1 from by decide]
            exact ⟨fun _ => rfl, fun hl => by omega⟩
theorem workXs_raw (ns : List Na) (h : mayNs ns = true) : ∀ (l : List Ex) (left : Int), ((szVs (workRs ns l) : Int) ≤ left → workXs ns l left = (workRs ns l, left - szVs (workRs ns l))) ∧ (left < szVs (workRs ns l) → (workXs ns l left).2 < 0)
  | [], left => by simp [workXs, workRs, szVs]
  | x :: l, left => by
    have h1 := workX_raw ns h x left
    have hp := szV_pos (workR ns x)
    unfold workXs workRs szVs
    constructor
    · intro hl
      rw [if_neg (by omega), h1.1 (by omega), (workXs_raw ns h l _).1 (by omega)]
      simp only [Prod.mk.injEq, true_and]
      omega
    · intro hl
      split
      · simp only; omega
      · by_cases hc : (szV (workR ns x) : Int) ≤ left
        · rw [h1.1 hc]
          exact (workXs_raw ns h l _).2 (by simp only; omega)
        · have hneg := h1.2 (by omega)
          have := (workXs_left ns l (workX ns x left).2).2
          simp only
          omega
end
/-- What the document's Work answers. -/
def workW (ns : List Na) (x : Ex) : Va × Int :=
  if mayNs ns && orNoneE x then (if mayV (workR ns x) then (workR ns x, 0) else (zeroVa, 8)) else (zeroVa, 2)
theorem workW_eq (ns : List Na) (x : Ex) : workV ns x = workW ns x := by
  unfold workV workW
  cases hm : mayNs ns
  · simp
  · cases ho : orNoneE x
    · simp
    · simp only [Bool.and_self, if_true]
      have h := workX_raw ns hm x 512
      by_cases hc : (szV (workR ns x) : Int) ≤ 512
      · rw [h.1 hc]
        have hn : ¬ (512 - (szV (workR ns x) : Int)) < 0 := by omega
        cases hv : mayV (workR ns x) <;> simp [hn]
      · have h2 := h.2 (by omega)
        have hv : mayV (workR ns x) = false := by
          rw [Bool.eq_false_iff]; intro hv
          have := ((mayV_iff _).1 hv).2.2
          omega
        simp [h2, hv]
end Go.Proofs.Ytnknefdpglnbnaa
