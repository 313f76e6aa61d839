/- Plain laws behind WordTokens: a value's tokens may be, the taker makes it of them; what Cut and Tokens tell. -/
import Derived.Test.YtkhpfghehjcfoaaDoorZj
import Derived.Test.YtkhpfghehjcfoaaDoorXs
namespace Go.Proofs.YtkhpfghehjcfoaaDoor
open Go.RowKit

theorem tkOk_mk {k a n r : Int} {s : L8} (h1 : s.length ≤ 1073741824) (h2 : -9223372036854775808 ≤ n ∧ n ≤ 9223372036854775807) (h3 : -9223372036854775808 ≤ r ∧ r ≤ 9223372036854775807) : TkOk ⟨k, a, n, s, r⟩ := ⟨h1, h2, h3⟩
mutual
theorem tksV_ok : ∀ (x : Va) (q nest q' : Nat), takeV x q nest = some q' → Fit x → ∀ t ∈ tksV x, TkOk t
  | .mk k n s l r, 0, nest, q', h, hf, t, ht => by rw [takeV] at h; cases h
  | .mk k n s l r, q + 1, nest, q', h, hf, t, ht => by
    unfold Fit at hf
    obtain ⟨hf1, hf2, hf3⟩ := hf
    by_cases k1 : k = 1
    · subst k1
      have e2 : tksV (.mk 1 n s l r) = [⟨2, 0, n, [], 0⟩] := by unfold tksV; rfl
      rw [e2, List.mem_singleton] at ht
      subst ht
      exact tkOk_mk (by simp) hf1 (by decide)
    by_cases k2 : k = 2
    · subst k2
      have e2 : tksV (.mk 2 n s l r) = [⟨3, 0, 0, s.data.toList, 0⟩] := by unfold tksV; rfl
      rw [e2, List.mem_singleton] at ht
      subst ht
      rw [takeV_2] at h
      by_cases hc : (decide ((s.size : Int) ≤ 256) && n == 0 && r == 0 && l.isEmpty) = true
      · simp only [Bool.and_eq_true, decide_eq_true_eq] at hc
        exact tkOk_mk (by simp; omega) (by decide) (by decide)
      · rw [if_neg hc] at h; cases h
    by_cases k4 : k = 4
    · subst k4
      have e2 : tksV (.mk 4 n s l r) = [⟨4, 0, 0, [], r⟩] := by unfold tksV; rfl
      rw [e2, List.mem_singleton] at ht
      subst ht
      exact tkOk_mk (by simp) (by decide) hf2
    by_cases k3 : k = 3
    · subst k3
      have e2 : tksV (.mk 3 n s l r) = ⟨5, 0, 0, [91], 0⟩ :: (tksVs l ++ [⟨5, 0, 0, [93], 0⟩]) := by unfold tksV; rfl
      rw [e2, List.mem_cons, List.mem_append, List.mem_singleton] at ht
      rcases ht with rfl | ht | rfl
      · exact tkOk_mk (by simp) (by decide) (by decide)
      · cases nest with
        | zero => rw [takeV] at h; cases h
        | succ nest =>
          rw [takeV_3] at h
          by_cases hql : q < l.length
          · rw [if_pos hql] at h; cases h
          rw [if_neg hql] at h
          cases hv : takeVs l q nest with
          | none => rw [hv] at h; cases h
          | some q2 => exact tksVs_ok l q nest q2 hv hf3 t ht
      · exact tkOk_mk (by simp) (by decide) (by decide)
    · have e2 : tksV (.mk k n s l r) = [⟨5, 0, 0, [95], 0⟩] := by unfold tksV; rw [if_neg k1, if_neg k2, if_neg k4, if_neg k3]
      rw [e2, List.mem_singleton] at ht
      subst ht
      exact tkOk_mk (by simp) (by decide) (by decide)
theorem tksVs_ok : ∀ (l : List Va) (q nest q' : Nat), takeVs l q nest = some q' → Fits l → ∀ t ∈ tksVs l, TkOk t
  | [], q, nest, q', h, hf, t, ht => by rw [tksVs] at ht; cases ht
  | x :: l, q, nest, q', h, hf, t, ht => by
    unfold Fits at hf
    rw [takeVs] at h
    rw [tksVs, List.mem_append] at ht
    cases hx : takeV x q nest with
    | none => rw [hx] at h; cases h
    | some q2 =>
      rw [hx] at h
      rcases ht with ht | ht
      · exact tksV_ok x q nest q2 hx hf.1 t ht
      · exact tksVs_ok l q2 nest q' h hf.2 t ht
end
theorem SF.ok : ∀ {m l : List Tk}, SF m l → (∀ t ∈ l, TkOk t) → ∀ t ∈ m, TkOk t
  | [], [], _, _, t, ht => by cases ht
  | x :: m, y :: l, h, hl, t, ht => by
    rcases List.mem_cons.1 ht with rfl | ht
    · obtain ⟨⟨h1, h2, h3, h4⟩, -⟩ := h
      have := hl y (by simp)
      exact ⟨by rw [h3]; exact this.1, by rw [h2]; exact this.2.1, by rw [h4]; exact this.2.2⟩
    · exact SF.ok h.2 (fun t ht => hl t (by simp [ht])) t ht
  | [], _ :: _, h, _, _, _ => h.elim
  | _ :: _, [], h, _, _, _ => h.elim
/-- What Tokens tells of a value that may be, and what Front makes of it. -/
theorem tokX_may (x : Va) (h : mayV x = true) (hf : Fit x) : (tokX x).2 = 0 ∧ (∀ t ∈ (tokX x).1, TkOk t) ∧ (tokX x).1.length ≤ 1048577 ∧ ∀ r, ∃ k, tkV 16 ((tokX x).1 ++ r) 0 = .ok (x, k) r := by
  obtain ⟨m, h1, h2⟩ := text_cut x h hf
  have hs : ¬ 1048576 < (txtV (textL x)).size := by
    have h1 := textL_len x hf
    have h2 := mayV_sz x h
    show ¬ 1048576 < (textL x).length
    omega
  have hc : cutY (txtV (textL x)) = (m, 0, 0) := by unfold cutY; rw [if_neg hs, h1]
  have e1 : tokX x = (m, 0) := by unfold tokX; rw [if_pos h, hc]
  have hlen := cutY_len (txtV (textL x))
  rw [hc] at hlen
  rw [e1]
  obtain ⟨q', hq⟩ : ∃ q', takeV x 512 16 = some q' := by
    unfold mayV at h
    exact Option.isSome_iff_exists.1 h
  exact ⟨rfl, h2.sf.ok (tksV_ok x 512 16 q' hq hf), hlen, fun r => ⟨_, tkV_toks x 0 16 q' m r hq (by decide) h2.sf⟩⟩
theorem tokX_not (x : Va) (h : mayV x = false) : tokX x = ([], 2) := by unfold tokX; rw [if_neg (by rw [h]; decide)]
theorem joinR_e (l : List Tk) : (joinR l).2 = 0 ∨ (joinR l).2 = 2 ∨ (joinR l).2 = 4 := by
  unfold joinR
  split
  · cases joinG true [] l with
    | none => exact .inr (.inr rfl)
    | some b => exact .inl rfl
  · exact .inr (.inl rfl)
/-- What Cut tells of a line of at most 100000 bytes. -/
theorem cutY_line (s : ByteArray) (h : s.size ≤ 100000) : (cutY s).2.2 = 30 ∨ ∃ m t, cutY s = (m, 0, 0) ∧ joinR m = (t, 0) ∧ t.length ≤ s.size + m.length ∧ (∀ x ∈ m, TkOk x) ∧ m.length ≤ 100001 := by
  cases hL : cutR s with
  | no t => left; unfold cutY; rw [if_neg (by omega), hL]
  | ok m r =>
    right
    obtain ⟨t, h1, h2, h3⟩ := cut_join s (by omega) m r hL
    have hl := cutL_len _ _ _ _ _ _ _ hL
    exact ⟨m, t, by unfold cutY; rw [if_neg (by omega), hL], h1, h2, h3, by simp at hl; omega⟩
/-- What is joined is cut. -/
theorem cutY_join (l : List Tk) (hok : ∀ t ∈ l, TkOk t) (s : L8) (h : joinR l = (s, 0)) : ∃ m, cutY (txtV s) = (m, 0, 0) ∧ Placed m l (txtV s).size ∧ s.length ≤ 1048576 := by
  obtain ⟨h1, m, h2, h3⟩ := join_cut l hok s h
  exact ⟨m, by unfold cutY; rw [if_neg (by show ¬ 1048576 < s.length; omega), h2], h3, h1⟩
end Go.Proofs.YtkhpfghehjcfoaaDoor
