/- Plain laws: the cut of a join; what is cut may be joined. -/
import Derived.Test.YtkhpfghehjcfoaaDoorZe
namespace Go.Proofs.YtkhpfghehjcfoaaDoor
open Go.RowKit

theorem joinG_eq : ∀ (l : List Tk) (b s : L8), joinG false b l = some s → s = b ++ tailF l ∧ (b.length ≤ 1048576 → s.length ≤ 1048576)
  | [], b, s, h => by
    simp only [joinG, Option.some.injEq] at h
    subst h
    exact ⟨by simp [tailF], id⟩
  | t :: l, b, s, h => by
    rw [joinG] at h
    by_cases hc : 1048576 < (b ++ ((if false = true then [] else [32]) ++ formL t)).length
    · rw [if_pos hc] at h; cases h
    · rw [if_neg hc] at h
      obtain ⟨h1, h2⟩ := joinG_eq l _ s h
      exact ⟨by rw [h1]; simp [tailF], fun _ => h2 (by omega)⟩
theorem joinG_ok : ∀ (l : List Tk) (b : L8), (b ++ tailF l).length ≤ 1048576 → joinG false b l = some (b ++ tailF l)
  | [], b, _ => by simp [joinG, tailF]
  | t :: l, b, h => by
    have e : b ++ tailF (t :: l) = (b ++ ((if false = true then [] else [32]) ++ formL t)) ++ tailF l := by simp [tailF]
    rw [joinG, if_neg, joinG_ok l _ (by rw [← e]; exact h), e]
    rw [e, List.length_append] at h
    omega
theorem qbs_ge (l : L8) : l.length ≤ (qbs l).length := by
  induction l with
  | nil => simp [qbs]
  | cons c t ih => have := (qb_len c).1; simp [qbs]; omega
theorem form_s (t : Tk) (hm : tokMay t = true) : t.s.length ≤ (formL t).length := by
  unfold tokMay at hm
  unfold formL
  by_cases h2 : t.k = 2
  · rw [if_neg (by omega), if_pos h2] at hm
    simp only [Bool.and_eq_true, List.isEmpty_iff] at hm
    rw [hm.1]; simp
  by_cases h3 : t.k = 3
  · rw [if_neg h2, if_pos h3]
    have := qbs_ge t.s
    unfold quoteL
    simp
    omega
  by_cases h4 : t.k = 4
  · rw [if_neg (by omega), if_neg h2, if_neg h3, if_pos h4] at hm
    simp only [Bool.and_eq_true, List.isEmpty_iff] at hm
    rw [hm.1.2]; simp
  rw [if_neg h2, if_neg h3, if_neg h4]
  exact Nat.le_refl _
theorem tailF_mem : ∀ (l : List Tk) (t : Tk), t ∈ l → (formL t).length ≤ (tailF l).length
  | x :: l, t, h => by
    rcases List.mem_cons.1 h with rfl | h
    · simp [tailF]; omega
    · have := tailF_mem l t h
      simp [tailF]; omega
theorem txtV_size (s : L8) : (txtV s).size = s.length := rfl
theorem join_cut (l : List Tk) (hok : ∀ t ∈ l, TkOk t) (s : L8) (h : joinR l = (s, 0)) : s.length ≤ 1048576 ∧ ∃ m, cutR (txtV s) = .ok m [] ∧ Placed m l s.length := by
  unfold joinR at h
  by_cases ha : l.all tokMay = true
  · rw [if_pos ha] at h
    have hmay := fun t ht => List.all_eq_true.1 ha t ht
    have hcut : cutR (txtV s) = cutL s.length (s.length + 1) s false [] := rfl
    cases l with
    | nil =>
      simp only [joinG, joinO, Prod.mk.injEq] at h
      obtain ⟨rfl, -⟩ := h
      exact ⟨by simp, [], by rw [hcut]; rfl, rfl, fun i hi => absurd hi (by simp), fun i hi => absurd hi (by simp), fun i hi => absurd hi (by simp)⟩
    | cons t l =>
      rw [joinG] at h
      by_cases hc : 1048576 < ([] ++ ((if true = true then [] else [32]) ++ formL t)).length
      · rw [if_pos hc] at h
        simp only [joinO, Prod.mk.injEq] at h
        exact absurd h.2 (by decide)
      · rw [if_neg hc] at h
        cases hG : joinG false ([] ++ ((if true = true then [] else [32]) ++ formL t)) l with
        | none =>
          rw [hG] at h
          simp only [joinO, Prod.mk.injEq] at h
          exact absurd h.2 (by decide)
        | some s' =>
          rw [hG] at h
          simp only [joinO, Prod.mk.injEq, and_true] at h
          subst h
          obtain ⟨h1, h2⟩ := joinG_eq l _ _ hG
          have h1 : s' = formL t ++ tailF l := by simpa using h1
          have hlen : s'.length = (formL t).length + (tailF l).length := by rw [h1, List.length_append]
          have hm := hmay t (by simp)
          have hN : ∀ x ∈ t :: l, tokMay x = true ∧ TkOk x ∧ x.s.length ≤ s'.length := fun x hx => by
            refine ⟨hmay x hx, hok x hx, ?_⟩
            have g1 := form_s x (hmay x hx)
            rcases List.mem_cons.1 hx with rfl | hx'
            · omega
            · have := tailF_mem l x hx'; omega
          obtain ⟨m, g1, g2⟩ := cut_tail s'.length l s'.length (decide (t.k ≠ 5)) ([] ++ [{ t with at_ := ((s'.length - (formL t ++ tailF l).length : Nat) : Int) }]) (fun x hx => hN x (by simp [hx])) (by
            obtain ⟨c, u, e, -⟩ := form_hd t hm
            have : 1 ≤ (formL t).length := by rw [e]; simp
            omega) (by omega)
          have hcut1 : cutL s'.length (s'.length + 1) s' false [] = .ok ({ t with at_ := ((s'.length - (formL t ++ tailF l).length : Nat) : Int) } :: m) [] := by
            have e := cut_one s'.length s'.length t (tailF l) [] hm (hN t (by simp)).2.1 (hN t (by simp)).2.2 (tailF_word0 l)
            rw [g1, ← h1] at e
            rw [e, ← h1]
            rfl
          refine ⟨h2 (by omega), { t with at_ := ((s'.length - (formL t ++ tailF l).length : Nat) : Int) } :: m, by rw [hcut]; exact hcut1, PlR.placed ?_⟩
          refine ⟨?_, ?_, ⟨rfl, rfl, rfl, rfl⟩, g2.mono ?_⟩
          all_goals
            have hf : 1 ≤ (formL t).length := by
              obtain ⟨c, u, e, -⟩ := form_hd t hm
              rw [e]; simp
            have e0 : (formL t ++ tailF l).length = s'.length := by rw [← h1]
          · show (0 : Int) ≤ ((s'.length - (formL t ++ tailF l).length : Nat) : Int)
            omega
          · show ((s'.length - (formL t ++ tailF l).length : Nat) : Int) < s'.length
            omega
          · show ((s'.length - (formL t ++ tailF l).length : Nat) : Int) + 1 ≤ _
            omega
  · rw [if_neg ha] at h
    simp only [Prod.mk.injEq] at h
    exact absurd h.2 (by decide)
end Go.Proofs.YtkhpfghehjcfoaaDoor
