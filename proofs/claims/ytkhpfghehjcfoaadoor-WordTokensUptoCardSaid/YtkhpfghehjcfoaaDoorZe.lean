/- Plain laws: joined tokens are cut into them. -/
import Derived.Test.YtkhpfghehjcfoaaDoorZd
import Derived.Test.YtkhpfghehjcfoaaDoorXr
namespace Go.Proofs.YtkhpfghehjcfoaaDoor
open Go.RowKit

/-- The tokens m are l's but for their places, which rise from lo on and lie below N. -/
def PlR (N : Int) : Int → List Tk → List Tk → Prop
  | _, [], [] => True
  | lo, x :: m, t :: l => lo ≤ x.at_ ∧ x.at_ < N ∧ (x.k = t.k ∧ x.n = t.n ∧ x.s = t.s ∧ x.r = t.r) ∧ PlR N (x.at_ + 1) m l
  | _, _, _ => False
theorem PlR.mono {N : Int} : ∀ {m l : List Tk} {lo lo' : Int}, lo' ≤ lo → PlR N lo m l → PlR N lo' m l
  | [], [], _, _, _, _ => trivial
  | x :: m, t :: l, lo, lo', h, ⟨h1, h2, h3, h4⟩ => ⟨by omega, h2, h3, h4⟩
  | [], _ :: _, _, _, _, h => h
  | _ :: _, [], _, _, _, h => h
theorem PlR.length {N : Int} : ∀ {m l : List Tk} {lo : Int}, PlR N lo m l → m.length = l.length
  | [], [], _, _ => rfl
  | x :: m, t :: l, _, h => by simp [PlR.length h.2.2.2]
  | [], _ :: _, _, h => h.elim
  | _ :: _, [], _, h => h.elim
theorem PlR.get {N : Int} : ∀ {m l : List Tk} {lo : Int}, PlR N lo m l → ∀ (i : Nat) (hi : i < m.length), lo ≤ m[i].at_ ∧ m[i].at_ < N ∧ (∀ hi' : i < l.length, m[i].k = l[i].k ∧ m[i].n = l[i].n ∧ m[i].s = l[i].s ∧ m[i].r = l[i].r)
  | [], [], _, _, i, hi => absurd hi (by simp)
  | x :: m, t :: l, lo, h, 0, hi => ⟨h.1, h.2.1, fun _ => h.2.2.1⟩
  | x :: m, t :: l, lo, h, i + 1, hi => by
    obtain ⟨g1, g2, g3⟩ := PlR.get h.2.2.2 i (by simpa using hi)
    have := h.1
    exact ⟨by simp only [List.getElem_cons_succ]; omega, by simpa using g2, fun hi' => by simpa using g3 (by simpa using hi')⟩
  | [], _ :: _, _, h, _, _ => h.elim
  | _ :: _, [], _, h, _, _ => h.elim
theorem PlR.rise {N : Int} : ∀ {m l : List Tk} {lo : Int}, PlR N lo m l → ∀ (i : Nat) (hi : i + 1 < m.length), m[i].at_ < m[i + 1].at_
  | [], [], _, _, i, hi => absurd hi (by simp)
  | x :: m, t :: l, lo, h, 0, hi => by
    have := (PlR.get h.2.2.2 0 (by simpa using hi)).1
    simp only [List.getElem_cons_zero, List.getElem_cons_succ]
    omega
  | x :: m, t :: l, lo, h, i + 1, hi => by
    have := PlR.rise h.2.2.2 i (by simpa using hi)
    simpa using this
  | [], _ :: _, _, h, _, _ => h.elim
  | _ :: _, [], _, h, _, _ => h.elim
theorem PlR.placed {N : Nat} {m l : List Tk} (h : PlR (N : Int) 0 m l) : Placed m l N :=
  ⟨h.length, fun i hi => ⟨(h.get i hi).1, (h.get i hi).2.1⟩, fun i hi => h.rise i hi, fun i hi hi' => (h.get i hi).2.2 hi'⟩
/-- The forms, a blank ahead of each. -/
def tailF : List Tk → L8
  | [] => []
  | t :: l => 32 :: (formL t ++ tailF l)
theorem tailF_word0 (l : List Tk) : word0 (tailF l) = false := by cases l <;> rfl
theorem itoa_hd (n : Int) : ∃ c u, Lib.itoa n = c :: u ∧ c ≠ 32 := by
  by_cases hn : n < 0
  · obtain ⟨u, hu⟩ : ∃ u : Nat, n = -(u : Int) := ⟨n.natAbs, by omega⟩
    subst hu
    exact ⟨45, _, Lib.itoa_neg u (by omega), by decide⟩
  · obtain ⟨u, hu⟩ : ∃ u : Nat, n = (u : Int) := ⟨n.toNat, by omega⟩
    subst hu
    obtain ⟨c, ds, e1, e2, -⟩ := dec_cons u
    exact ⟨c, ds, by rw [Lib.itoa_nonneg u, e1], by rintro rfl; exact absurd e2 (by decide)⟩
theorem form_hd (t : Tk) (hm : tokMay t = true) : ∃ c u, formL t = c :: u ∧ c ≠ 32 := by
  unfold tokMay at hm
  unfold formL
  by_cases h2 : t.k = 2
  · rw [if_pos h2]; exact itoa_hd _
  by_cases h3 : t.k = 3
  · rw [if_neg h2, if_pos h3]; exact ⟨34, _, rfl, by decide⟩
  by_cases h4 : t.k = 4
  · rw [if_neg h2, if_neg h3, if_pos h4]; exact ⟨35, _, rfl, by decide⟩
  rw [if_neg h2, if_neg h3, if_neg h4]
  by_cases h1 : t.k = 1
  · rw [if_pos h1] at hm
    simp only [Bool.and_eq_true] at hm
    cases hs : t.s with
    | nil => rw [hs] at hm; simp [nameB] at hm
    | cons c u =>
      rw [hs] at hm
      have h := hm.2
      simp only [nameB, Bool.and_eq_true] at h
      exact ⟨c, u, rfl, by rintro rfl; exact absurd h.1.1 (by decide)⟩
  by_cases h5 : t.k = 5
  · rw [if_neg h1, if_neg h2, if_neg h3, if_neg h4, if_pos h5] at hm
    simp only [Bool.and_eq_true] at hm
    have h := hm.2
    match hs : t.s, h with
    | [c], h => exact ⟨c, [], rfl, (sgn_not h).2.2.2.2.2⟩
  · rw [if_neg h1, if_neg h2, if_neg h3, if_neg h4, if_neg h5] at hm
    cases hm
/-- One token, at the front, where nothing is tight. -/
theorem cut_one (N f : Nat) (t : Tk) (r : L8) (acc : List Tk) (hm : tokMay t = true) (hok : TkOk t) (hN : t.s.length ≤ N) (hr : word0 r = false) : cutL N (f + 1) (formL t ++ r) false acc = cutL N f r (decide (t.k ≠ 5)) (acc ++ [{ t with at_ := ((N - (formL t ++ r).length : Nat) : Int) }]) := by
  obtain ⟨c, u, e, hc⟩ := form_hd t hm
  have h := tok_form N ((N - (formL t ++ r).length : Nat) : Int) t r hm hok hN hr
  rw [e] at h ⊢
  simp only [List.cons_append] at h ⊢
  rw [cutL_tok N f c (u ++ r) false acc hc (by simp), h]
theorem cut_tail (N : Nat) : ∀ (l : List Tk) (f : Nat) (tight : Bool) (acc : List Tk), (∀ t ∈ l, tokMay t = true ∧ TkOk t ∧ t.s.length ≤ N) → (tailF l).length < f → (tailF l).length ≤ N →
    ∃ m, cutL N f (tailF l) tight acc = .ok (acc ++ m) [] ∧ PlR N ((N : Int) - (tailF l).length) m l
  | [], f, tight, acc, _, hf, _ => by
    obtain ⟨f, rfl⟩ : ∃ g, f = g + 1 := ⟨f - 1, by omega⟩
    exact ⟨[], by simp [tailF, cutL], trivial⟩
  | t :: l, f, tight, acc, hl, hf, hN => by
    obtain ⟨hm, hok, hs⟩ := hl t (by simp)
    obtain ⟨c, u, e, hc⟩ := form_hd t hm
    have hlen : (tailF (t :: l)).length = 1 + ((formL t).length + (tailF l).length) := by simp [tailF]; omega
    have hf1 : 1 ≤ (formL t).length := by rw [e]; simp
    rw [hlen] at hf hN
    obtain ⟨f, rfl⟩ : ∃ g, f = g + 2 := ⟨f - 2, by omega⟩
    obtain ⟨m, h1, h2⟩ := cut_tail N l f (decide (t.k ≠ 5)) (acc ++ [{ t with at_ := ((N - (formL t ++ tailF l).length : Nat) : Int) }]) (fun x hx => hl x (by simp [hx])) (by omega) (by omega)
    refine ⟨{ t with at_ := ((N - (formL t ++ tailF l).length : Nat) : Int) } :: m, ?_, ?_⟩
    · show cutL N (f + 1 + 1) (32 :: (formL t ++ tailF l)) tight acc = _
      rw [cutL_blank N (f + 1) 32 _ tight acc rfl, cut_one N f t _ acc hm hok hs (tailF_word0 l), h1]
      simp
    · rw [hlen]
      have hl2 : (formL t ++ tailF l).length = (formL t).length + (tailF l).length := List.length_append
      refine ⟨?_, ?_, ⟨rfl, rfl, rfl, rfl⟩, h2.mono ?_⟩
      · show _ ≤ ((N - (formL t ++ tailF l).length : Nat) : Int)
        omega
      · show ((N - (formL t ++ tailF l).length : Nat) : Int) < _
        omega
      · show ((N - (formL t ++ tailF l).length : Nat) : Int) + 1 ≤ _
        omega
end Go.Proofs.YtkhpfghehjcfoaaDoor
