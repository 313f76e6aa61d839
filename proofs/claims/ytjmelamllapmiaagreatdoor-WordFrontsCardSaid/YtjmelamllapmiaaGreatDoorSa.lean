/- What the reader of values reads, in plain Lean: quoted forms byte by byte, numbers, values; what is stuck is told with the rest at which it is. -/
import Derived.Test.YtjmelamllapmiaaGreatDoorA
namespace Go.Proofs.YtjmelamllapmiaaGreatDoor
open Go.RowKit

abbrev L8 := List UInt8
/-- What a reader does: it goes on, with the rest, or is stuck at this rest. -/
inductive Rs (α : Type) where
  | ok (a : α) (t : L8)
  | no (t : L8)
def hexD (c : UInt8) : Option Nat :=
  if 48 ≤ c.toNat ∧ c.toNat ≤ 57 then some (c.toNat - 48) else if 97 ≤ c.toNat ∧ c.toNat ≤ 102 then some (c.toNat - 87) else Option.none
/-- Where a reader of a quoted form stands: plain, behind a backslash, behind its x, behind the first digit. -/
inductive Qs where
  | run | bs | hx | lo (a : Nat)
/-- A quoted form of at most so many bytes, behind its first sign. -/
def qa (most : Nat) : Qs → L8 → L8 → Rs L8
  | _, [], _ => .no []
  | .run, c :: t, b =>
    if c = 34 then .ok b t else if most ≤ b.length ∨ c.toNat < 32 ∨ 126 < c.toNat then .no (c :: t)
    else if c = 92 then qa most .bs t b else qa most .run t (b ++ [c])
  | .bs, c :: t, b => if c = 34 ∨ c = 92 then qa most .run t (b ++ [c]) else if c = 110 then qa most .run t (b ++ [10]) else if c = 120 then qa most .hx t b else .no (c :: t)
  | .hx, c :: t, b => match hexD c with | Option.none => .no (c :: t) | some a => if 2 ≤ a ∧ a ≤ 6 then .no (c :: t) else qa most (.lo a) t b
  | .lo a, c :: t, b => match hexD c with | Option.none => .no (c :: t) | some d => if (a = 0 ∧ d = 10) ∨ (a = 7 ∧ d ≠ 15) then .no (c :: t) else qa most .run t (b ++ [UInt8.ofNat (a * 16 + d)])
/-- What stands behind a backslash. -/
def esc : L8 → Rs UInt8
  | [] => .no []
  | c :: t => if c = 34 ∨ c = 92 then .ok c t else if c = 110 then .ok 10 t else if c = 120 then
      (match t with
      | [] => .no []
      | h :: u => match hexD h with
        | Option.none => .no (h :: u)
        | some a => if 2 ≤ a ∧ a ≤ 6 then .no (h :: u) else
          (match u with
          | [] => .no []
          | l :: r => match hexD l with
            | Option.none => .no (l :: r)
            | some d => if (a = 0 ∧ d = 10) ∨ (a = 7 ∧ d ≠ 15) then .no (l :: r) else .ok (UInt8.ofNat (a * 16 + d)) r))
      else .no (c :: t)
theorem qa_bs (most : Nat) (t b : L8) : qa most .bs t b = match esc t with | .ok x r => qa most .run r (b ++ [x]) | .no r => .no r := by
  cases t with
  | nil => rfl
  | cons c t =>
    simp only [qa, esc]
    split
    · rfl
    · split
      · rfl
      · split
        · cases t with
          | nil => rfl
          | cons h u =>
            simp only [qa]
            cases hexD h with
            | none => rfl
            | some a =>
              simp only
              split
              · rfl
              · cases u with
                | nil => rfl
                | cons l r =>
                  simp only [qa]
                  cases hexD l with
                  | none => rfl
                  | some d =>
                    simp only
                    split <;> rfl
        · rfl
def digB (c : UInt8) : Bool := decide (48 ≤ c.toNat) && decide (c.toNat ≤ 57)
/-- Digits, as far as they fit. -/
def numL (most : Nat) : L8 → Nat → Bool → Rs Nat
  | [], n, _ => .ok n []
  | c :: t, n, begun => if digB c then (if (begun ∧ n = 0) ∨ (most - (c.toNat - 48)) / 10 < n then .no (c :: t) else numL most t (n * 10 + (c.toNat - 48)) true) else .ok n (c :: t)
abbrev posM : Nat := 9223372036854775807
/-- A number, whose first byte stands there. -/
def numV (minus : Bool) : L8 → Rs Int
  | [] => .no []
  | c :: t => if minus ∧ c = 45 then
      (match t with
      | [] => .no []
      | d :: _ => if d.toNat < 49 ∨ 57 < d.toNat then .no t else match numL (posM + 1) t 0 false with | .ok n r => .ok (-(n : Int)) r | .no r => .no r)
    else match numL posM (c :: t) 0 false with | .ok n r => .ok (n : Int) r | .no r => .no r
def txtV (b : L8) : ByteArray := ⟨b.toArray⟩
/-- A list's values behind its bracket: f reads one. -/
def lsV (f : L8 → Nat → Rs (Va × Nat)) : Nat → L8 → Nat → List Va → Rs (List Va × Nat)
  | 0, t, _, _ => .no t
  | _ + 1, [], _, _ => .no []
  | k + 1, c :: t, p, l =>
    if c = 93 then .ok (l, p) t
    else if 512 ≤ p ∨ (l ≠ [] ∧ c ≠ 32) then .no (c :: t)
    else match f (if l = [] then c :: t else t) p with
      | .ok (v, q) r => lsV f k r q (l ++ [v])
      | .no r => .no r
/-- A value, so many lists around it at most. -/
def rdV : Nat → L8 → Nat → Rs (Va × Nat)
  | _, [], _ => .no []
  | nest, c :: t, p =>
    if c = 95 then .ok (.mk 0 0 ⟨#[]⟩ [] 0, p + 1) t
    else if c = 45 ∨ digB c then (match numV true (c :: t) with | .ok n r => .ok (.mk 1 n ⟨#[]⟩ [] 0, p + 1) r | .no r => .no r)
    else if c = 35 then
      (match t with
      | [] => .no []
      | d :: _ => if d.toNat < 49 ∨ 57 < d.toNat then .no t else match numV false t with | .ok n r => .ok (.mk 4 0 ⟨#[]⟩ [] n, p + 1) r | .no r => .no r)
    else if c = 34 then (match qa 256 .run t [] with | .ok b r => .ok (.mk 2 0 (txtV b) [] 0, p + 1) r | .no r => .no r)
    else if c = 91 then
      (match nest with
      | 0 => .no (c :: t)
      | n + 1 => match lsV (rdV n) 514 t (p + 1) [] with | .ok (l, q) r => .ok (.mk 3 0 ⟨#[]⟩ l 0, q) r | .no r => .no r)
    else .no (c :: t)
end Go.Proofs.YtjmelamllapmiaaGreatDoor
