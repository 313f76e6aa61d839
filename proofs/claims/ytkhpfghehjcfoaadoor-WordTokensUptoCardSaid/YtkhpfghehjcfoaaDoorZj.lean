/- Plain laws: the taker makes the value of its tokens. -/
import Derived.Test.YtkhpfghehjcfoaaDoorZi
namespace Go.Proofs.YtkhpfghehjcfoaaDoor
open Go.RowKit

theorem tkV_num (nest : Nat) (a n : Int) (r : List Tk) (p : Nat) : tkV nest (⟨2, a, n, [], 0⟩ :: r) p = .ok (.mk 1 n ⟨#[]⟩ [] 0, p + 1) r := by
  cases nest <;> (unfold tkV; rw [if_neg (show ¬ tokMay (⟨2, a, n, [], 0⟩ : Tk) = false by simp [tokMay]), if_pos rfl])
theorem tkV_text (nest : Nat) (a : Int) (s : L8) (r : List Tk) (p : Nat) (h : s.length ≤ 256) : tkV nest (⟨3, a, 0, s, 0⟩ :: r) p = .ok (.mk 2 0 (txtV s) [] 0, p + 1) r := by
  cases nest <;> (unfold tkV; rw [if_neg (show ¬ tokMay (⟨3, a, 0, s, 0⟩ : Tk) = false by simp [tokMay]), if_neg (by simp), if_pos ⟨rfl, h⟩])
theorem tkV_ref (nest : Nat) (a q : Int) (r : List Tk) (p : Nat) (h : 1 ≤ q) : tkV nest (⟨4, a, 0, [], q⟩ :: r) p = .ok (.mk 4 0 ⟨#[]⟩ [] q, p + 1) r := by
  cases nest <;> (unfold tkV; rw [if_neg (show ¬ tokMay (⟨4, a, 0, [], q⟩ : Tk) = false by simp [tokMay, h]), if_neg (by simp), if_neg (by simp), if_pos rfl])
theorem tkV_none (nest : Nat) (a : Int) (r : List Tk) (p : Nat) : tkV nest (⟨5, a, 0, [95], 0⟩ :: r) p = .ok (.mk 0 0 ⟨#[]⟩ [] 0, p + 1) r := by
  cases nest <;> (unfold tkV; rw [if_neg (show ¬ tokMay (⟨5, a, 0, [95], 0⟩ : Tk) = false by simp [tokMay]; decide), if_neg (by simp), if_neg (by simp), if_neg (by simp), if_pos ⟨rfl, rfl⟩])
theorem tkV_list (n : Nat) (a : Int) (t : List Tk) (p : Nat) : tkV (n + 1) (⟨5, a, 0, [91], 0⟩ :: t) p = match tkLs (tkV n) 514 t (p + 1) [] with | .ok (l, q) r => .ok (.mk 3 0 ⟨#[]⟩ l 0, q) r | .no r => .no r := by
  rw [tkV, if_neg (show ¬ tokMay (⟨5, a, 0, [91], 0⟩ : Tk) = false by simp [tokMay]; decide), if_neg (by simp), if_neg (by simp), if_neg (by simp), if_neg (by simp), if_pos ⟨rfl, rfl⟩]
  rfl
theorem tkV_may (nest : Nat) (c : Tk) (t : List Tk) (p : Nat) (x : Va × Nat) (r : List Tk) (h : tkV nest (c :: t) p = .ok x r) : tokMay c = true := by
  cases hm : tokMay c with
  | true => rfl
  | false => cases nest <;> (unfold tkV at h; rw [if_pos hm] at h; cases h)
theorem tksV_head (x : Va) : ∃ t u, tksV x = t :: u ∧ ¬ (t.k = 5 ∧ t.s = [93]) := by
  obtain ⟨k, n, s, l, r⟩ := x
  unfold tksV
  split
  · exact ⟨_, _, rfl, by simp⟩
  split
  · exact ⟨_, _, rfl, by simp⟩
  split
  · exact ⟨_, _, rfl, by simp⟩
  split
  · exact ⟨_, _, rfl, by simp⟩
  · exact ⟨_, _, rfl, by simp⟩
mutual
theorem tkV_toks : ∀ (x : Va) (p nest q' : Nat) (m r : List Tk), takeV x (512 - p) nest = some q' → p < 512 → SF m (tksV x) → tkV nest (m ++ r) p = .ok (x, 512 - q') r
  | .mk k n s l r0, p, nest, q', m, r, h, hp, hm => by
    obtain ⟨q, hq⟩ : ∃ q, 512 - p = q + 1 := ⟨511 - p, by omega⟩
    rw [hq] at h
    by_cases k1 : k = 1
    · subst k1
      rw [takeV_1] at h
      by_cases hc : (s.toList.isEmpty && r0 == 0 && l.isEmpty) = true
      · rw [if_pos hc] at h
        simp only [Bool.and_eq_true, beq_iff_eq] at hc
        obtain ⟨⟨c1, c2⟩, c3⟩ := hc
        obtain rfl := emp_of c1
        obtain rfl : l = [] := by simpa using c3
        subst c2
        injection h with h
        have e2 : tksV (.mk 1 n ⟨#[]⟩ [] 0) = [⟨2, 0, n, [], 0⟩] := by unfold tksV; rfl
        rw [e2] at hm
        obtain ⟨a, rfl⟩ := hm.one
        rw [show 512 - q' = p + 1 by omega]
        exact tkV_num nest a n r p
      · rw [if_neg hc] at h; cases h
    by_cases k2 : k = 2
    · subst k2
      rw [takeV_2] at h
      by_cases hc : (decide ((s.size : Int) ≤ 256) && n == 0 && r0 == 0 && l.isEmpty) = true
      · rw [if_pos hc] at h
        simp only [Bool.and_eq_true, beq_iff_eq, decide_eq_true_eq] at hc
        obtain ⟨⟨⟨c1, c2⟩, c3⟩, c4⟩ := hc
        obtain rfl : l = [] := by simpa using c4
        subst c2 c3
        injection h with h
        have e2 : tksV (.mk 2 0 s [] 0) = [⟨3, 0, 0, s.data.toList, 0⟩] := by unfold tksV; rfl
        rw [e2] at hm
        obtain ⟨a, rfl⟩ := hm.one
        rw [show 512 - q' = p + 1 by omega]
        have := tkV_text nest a s.data.toList r p (by simp; omega)
        rw [txtV_data] at this
        exact this
      · rw [if_neg hc] at h; cases h
    by_cases k4 : k = 4
    · subst k4
      rw [takeV_4] at h
      by_cases hc : (decide (1 ≤ r0) && n == 0 && s.toList.isEmpty && l.isEmpty) = true
      · rw [if_pos hc] at h
        simp only [Bool.and_eq_true, beq_iff_eq, decide_eq_true_eq] at hc
        obtain ⟨⟨⟨c1, c2⟩, c3⟩, c4⟩ := hc
        obtain rfl := emp_of c3
        obtain rfl : l = [] := by simpa using c4
        subst c2
        injection h with h
        have e2 : tksV (.mk 4 0 ⟨#[]⟩ [] r0) = [⟨4, 0, 0, [], r0⟩] := by unfold tksV; rfl
        rw [e2] at hm
        obtain ⟨a, rfl⟩ := hm.one
        rw [show 512 - q' = p + 1 by omega]
        exact tkV_ref nest a r0 r p c1
      · rw [if_neg hc] at h; cases h
    by_cases k3 : k = 3
    · subst k3
      cases nest with
      | zero => rw [takeV] at h; cases h
      | succ nest =>
        rw [takeV_3] at h
        by_cases hql : q < l.length
        · rw [if_pos hql] at h; cases h
        rw [if_neg hql] at h
        cases ht : takeVs l q nest with
        | none => rw [ht] at h; cases h
        | some q2 =>
          rw [ht] at h
          simp only at h
          by_cases hc : (n == 0 && s.toList.isEmpty && r0 == 0) = true
          · rw [if_pos hc] at h
            injection h with h
            subst h
            simp only [Bool.and_eq_true, beq_iff_eq] at hc
            obtain ⟨⟨c1, c2⟩, c3⟩ := hc
            obtain rfl := emp_of c2
            subst c1 c3
            have e2 : tksV (.mk 3 0 ⟨#[]⟩ l 0) = [⟨5, 0, 0, [91], 0⟩] ++ (tksVs l ++ [⟨5, 0, 0, [93], 0⟩]) := by unfold tksV; rfl
            rw [e2] at hm
            obtain ⟨m1, m2, rfl, g1, g2⟩ := hm.split
            obtain ⟨m3, m4, rfl, g3, g4⟩ := g2.split
            obtain ⟨a, rfl⟩ := g1.one
            obtain ⟨b, rfl⟩ := g4.one
            have hqp : q = 512 - (p + 1) := by omega
            rw [hqp] at ht hql
            have := tkLs_toks l [] (p + 1) nest q2 514 m3 r b ht (by omega) (by omega) g3
            show tkV (nest + 1) (⟨5, a, 0, [91], 0⟩ :: (m3 ++ [⟨5, b, 0, [93], 0⟩] ++ r)) p = _
            rw [tkV_list, List.append_assoc, show ([⟨5, b, 0, [93], 0⟩] ++ r : List Tk) = ⟨5, b, 0, [93], 0⟩ :: r from rfl, this]
            rfl
          · rw [if_neg hc] at h; cases h
    by_cases k0 : k = 0
    · subst k0
      rw [takeV_0] at h
      by_cases hc : (n == 0 && s.toList.isEmpty && r0 == 0 && l.isEmpty) = true
      · rw [if_pos hc] at h
        simp only [Bool.and_eq_true, beq_iff_eq] at hc
        obtain ⟨⟨⟨c1, c2⟩, c3⟩, c4⟩ := hc
        obtain rfl := emp_of c2
        obtain rfl : l = [] := by simpa using c4
        subst c1 c3
        injection h with h
        have e2 : tksV (.mk 0 0 ⟨#[]⟩ [] 0) = [⟨5, 0, 0, [95], 0⟩] := by unfold tksV; rfl
        rw [e2] at hm
        obtain ⟨a, rfl⟩ := hm.one
        rw [show 512 - q' = p + 1 by omega]
        exact tkV_none nest a r p
      · rw [if_neg hc] at h; cases h
    · exfalso
      have b0 : (k == 0) = false := by simpa using k0
      have b1 : (k == 1) = false := by simpa using k1
      have b2 : (k == 2) = false := by simpa using k2
      have b3 : (k == 3) = false := by simpa using k3
      have b4 : (k == 4) = false := by simpa using k4
      unfold takeV at h
      simp only [b0, b1, b2, b3, b4, Bool.false_eq_true, if_false] at h
      cases h
theorem tkLs_toks : ∀ (l done : List Va) (p m q' k : Nat) (mm r : List Tk) (b : Int), takeVs l (512 - p) m = some q' → p ≤ 512 → l.length + 1 ≤ k → SF mm (tksVs l) → tkLs (tkV m) k (mm ++ ⟨5, b, 0, [93], 0⟩ :: r) p done = .ok (done ++ l, 512 - q') r
  | [], done, p, m, q', k, mm, r, b, h, hp, hk, hm => by
    obtain ⟨k, rfl⟩ : ∃ j, k = j + 1 := ⟨k - 1, by simp at hk; omega⟩
    rw [takeVs] at h
    injection h with h
    rw [tksVs] at hm
    match mm, hm with
    | [], _ =>
      show tkLs (tkV m) (k + 1) (⟨5, b, 0, [93], 0⟩ :: r) p done = _
      rw [tkLs, if_neg (show ¬ tokMay (⟨5, b, 0, [93], 0⟩ : Tk) = false by simp [tokMay]; decide), if_pos ⟨rfl, rfl⟩, List.append_nil, show p = 512 - q' by omega]
  | x :: l, done, p, m, q', k, mm, r, b, h, hp, hk, hm => by
    obtain ⟨k, rfl⟩ : ∃ j, k = j + 1 := ⟨k - 1, by simp at hk; omega⟩
    simp only [List.length_cons] at hk
    rw [takeVs] at h
    rw [tksVs] at hm
    cases hx : takeV x (512 - p) m with
    | none => rw [hx] at h; cases h
    | some q2 =>
      rw [hx] at h
      have hlt := takeV_sz x _ _ _ hx
      have hge := szV_ge x
      obtain ⟨m1, m2, rfl, g1, g2⟩ := hm.split
      have hrd := tkV_toks x p m q2 m1 (m2 ++ ⟨5, b, 0, [93], 0⟩ :: r) hx (by omega) g1
      obtain ⟨t, u, e1, e2⟩ := tksV_head x
      rw [e1] at g1
      match m1, g1, hrd with
      | c :: m1, g1, hrd =>
        have hc : ¬ (c.k = 5 ∧ c.s = [93]) := by rw [g1.1.1, g1.1.2.2.1]; exact e2
        have hmay := tkV_may _ _ _ _ _ _ hrd
        rw [List.append_assoc]
        show tkLs (tkV m) (k + 1) (c :: (m1 ++ (m2 ++ ⟨5, b, 0, [93], 0⟩ :: r))) p done = _
        have hrd : tkV m (c :: (m1 ++ (m2 ++ ⟨5, b, 0, [93], 0⟩ :: r))) p = .ok (x, 512 - q2) (m2 ++ ⟨5, b, 0, [93], 0⟩ :: r) := hrd
        rw [tkLs, if_neg (by rw [hmay]; decide), if_neg hc, if_neg (by omega), hrd]
        have := tkLs_toks l (done ++ [x]) (512 - q2) m q' k m2 r b (by rw [show 512 - (512 - q2) = q2 by omega]; exact h) (by omega) (by omega) g2
        simp only
        rw [this, List.append_assoc]
        rfl
end
end Go.Proofs.YtkhpfghehjcfoaaDoor
