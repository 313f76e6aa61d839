/- Plain laws: the tokens of a value are cut out of its text; the taker makes the value of them. -/
import Derived.Test.YtkhpfghehjcfoaaDoorZh
namespace Go.Proofs.YtkhpfghehjcfoaaDoor
open Go.RowKit

theorem text_cut (x : Va) (h : mayV x = true) (hf : Fit x) : ∃ m, cutR (txtV (textL x)) = .ok m [] ∧ PlR ((textL x).length : Int) 0 m (tksV x) := by
  obtain ⟨q', hq⟩ : ∃ q', takeV x 512 16 = some q' := by
    unfold mayV at h
    exact Option.isSome_iff_exists.1 h
  obtain ⟨m, t, g, h1, h2, h3⟩ := vcut x 512 16 q' (textL x).length ((textL x).length + 1) [] [] hq hf rfl (by simp) (by simp)
  rw [List.append_nil] at h1 h3
  obtain ⟨g, rfl⟩ : ∃ g', g = g' + 1 := ⟨g - 1, by simp at h2; omega⟩
  refine ⟨m, ?_, ?_⟩
  · show cutL (textL x).length ((textL x).length + 1) (textL x) false [] = _
    rw [h1]
    simp [cutL]
  · have e : ((textL x).length : Int) - ([] : L8).length = (textL x).length := by simp
    rw [e] at h3
    exact h3.mono (by omega)
/-- What the taker reads: the rest. -/
inductive TRs (α : Type) where
  | ok (x : α) (r : List Tk)
  | no (r : List Tk)
/-- A list's values behind its bracket: f reads one. -/
def tkLs (f : List Tk → Nat → TRs (Va × Nat)) : Nat → List Tk → Nat → List Va → TRs (List Va × Nat)
  | 0, t, _, _ => .no t
  | _ + 1, [], _, _ => .no []
  | k + 1, c :: t, p, l =>
    if tokMay c = false then .no (c :: t)
    else if c.k = 5 ∧ c.s = [93] then .ok (l, p) t
    else if 512 ≤ p then .no (c :: t)
    else match f (c :: t) p with
      | .ok (v, q) r => tkLs f k r q (l ++ [v])
      | .no r => .no r
/-- A value of the tokens, so many lists around it at most. -/
def tkV : Nat → List Tk → Nat → TRs (Va × Nat)
  | _, [], _ => .no []
  | nest, c :: t, p =>
    if tokMay c = false then .no (c :: t)
    else if c.k = 2 then .ok (.mk 1 c.n ⟨#[]⟩ [] 0, p + 1) t
    else if c.k = 3 ∧ c.s.length ≤ 256 then .ok (.mk 2 0 (txtV c.s) [] 0, p + 1) t
    else if c.k = 4 then .ok (.mk 4 0 ⟨#[]⟩ [] c.r, p + 1) t
    else if c.k = 5 ∧ c.s = [95] then .ok (.mk 0 0 ⟨#[]⟩ [] 0, p + 1) t
    else if c.k = 5 ∧ c.s = [91] then
      (match nest with
      | 0 => .no (c :: t)
      | n + 1 => match tkLs (tkV n) 514 t (p + 1) [] with | .ok (l, q) r => .ok (.mk 3 0 ⟨#[]⟩ l 0, q) r | .no r => .no r)
    else .no (c :: t)
/-- Alike, but for the places. -/
def SF : List Tk → List Tk → Prop
  | [], [] => True
  | x :: m, t :: l => (x.k = t.k ∧ x.n = t.n ∧ x.s = t.s ∧ x.r = t.r) ∧ SF m l
  | _, _ => False
theorem PlR.sf {N : Int} : ∀ {m l : List Tk} {lo : Int}, PlR N lo m l → SF m l
  | [], [], _, _ => trivial
  | _x :: _m, _t :: _l, _, h => ⟨h.2.2.1, PlR.sf h.2.2.2⟩
  | [], _ :: _, _, h => h.elim
  | _ :: _, [], _, h => h.elim
theorem SF.split : ∀ {l1 : List Tk} {m l2 : List Tk}, SF m (l1 ++ l2) → ∃ m1 m2, m = m1 ++ m2 ∧ SF m1 l1 ∧ SF m2 l2
  | [], m, l2, h => ⟨[], m, rfl, trivial, h⟩
  | t :: l1, [], l2, h => h.elim
  | t :: l1, x :: m, l2, h => by
    obtain ⟨m1, m2, h1, h2, h3⟩ := SF.split (l1 := l1) h.2
    exact ⟨x :: m1, m2, by rw [h1]; rfl, ⟨h.1, h2⟩, h3⟩
theorem SF.one {m : List Tk} {t : Tk} (h : SF m [t]) : ∃ a, m = [{ t with at_ := a }] := by
  match m, h with
  | [x], h =>
    obtain ⟨⟨h1, h2, h3, h4⟩, -⟩ := h
    obtain ⟨k, a, n, s, r⟩ := x
    simp only at h1 h2 h3 h4
    exact ⟨a, by rw [h1, h2, h3, h4]⟩
  | _ :: _ :: _, h => exact h.2.elim
end Go.Proofs.YtkhpfghehjcfoaaDoor
