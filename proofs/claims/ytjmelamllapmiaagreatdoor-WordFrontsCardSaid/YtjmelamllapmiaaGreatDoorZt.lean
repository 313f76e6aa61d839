/- What the taker reads, in plain Lean. -/
import Derived.Test.YtjmelamllapmiaaGreatDoorR
namespace Go.Proofs.YtjmelamllapmiaaGreatDoor
open Go.RowKit

/-- What the taker reads: the rest. -/
inductive TRs (α : Type) where
  | ok (x : α) (r : List Tk)
  | no (r : List Tk)
/-- A list's values behind its bracket: f reads one. -/
def tkLs (f : List Tk → Nat → TRs (Va × Nat)) : Nat → List Tk → Nat → List Va → TRs (List Va × Nat)
  | 0, t, _, _ => .no t
  | _ + 1, [], _, _ => .no []
  | k + 1, c :: t, p, l =>
    if tokMay c = false then .no (c :: t)
    else if c.k = 5 ∧ c.s = [93] then .ok (l, p) t
    else if 512 ≤ p then .no (c :: t)
    else match f (c :: t) p with
      | .ok (v, q) r => tkLs f k r q (l ++ [v])
      | .no r => .no r
/-- A value of the tokens, so many lists around it at most. -/
def tkV : Nat → List Tk → Nat → TRs (Va × Nat)
  | _, [], _ => .no []
  | nest, c :: t, p =>
    if tokMay c = false then .no (c :: t)
    else if c.k = 2 then .ok (.mk 1 c.n ⟨#[]⟩ [] 0, p + 1) t
    else if c.k = 3 ∧ c.s.length ≤ 256 then .ok (.mk 2 0 (txtV c.s) [] 0, p + 1) t
    else if c.k = 4 then .ok (.mk 4 0 ⟨#[]⟩ [] c.r, p + 1) t
    else if c.k = 5 ∧ c.s = [95] then .ok (.mk 0 0 ⟨#[]⟩ [] 0, p + 1) t
    else if c.k = 5 ∧ c.s = [91] then
      (match nest with
      | 0 => .no (c :: t)
      | n + 1 => match tkLs (tkV n) 514 t (p + 1) [] with | .ok (l, q) r => .ok (.mk 3 0 ⟨#[]⟩ l 0, q) r | .no r => .no r)
    else .no (c :: t)
end Go.Proofs.YtjmelamllapmiaaGreatDoor
