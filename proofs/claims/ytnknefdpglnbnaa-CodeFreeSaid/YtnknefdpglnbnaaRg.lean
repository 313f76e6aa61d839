/- The operations of one region of a function, by its number. -/
import Derived.Test.YtnknefdpglnbnaaRows
import Derived.WalkKit
namespace Go.RegP
open Go
def reg? (n : Nat) : Code → Option (Array Oper)
  | .region m ops _ => if m = n then some ops else Option.none
  | .seq a b => match reg? n a with | some o => some o | Option.none => reg? n b
  | .cond _ a b => match reg? n a with | some o => some o | Option.none => reg? n b
  | .block _ b => reg? n b
  | .loop b => reg? n b
  | .rangeFunc _ _ a b => match reg? n a with | some o => some o | Option.none => reg? n b
  | .scope b => reg? n b
  | _ => Option.none
def opsOf (f : Func) (n : Nat) : Array Oper := match f.body with | some c => (reg? n c).getD #[] | Option.none => #[]
end Go.RegP
