/- A byte of an argument as a natural number below 256; general. -/
import Derived.ProofKit
import Derived.OpenShut
namespace Go.LawRow
open Go Go.RowKit
theorem u8_nat {x : Int} (h : (Lit.int IntKind.u8 x).wf = true) : ∃ n : Nat, x = n ∧ n < 256 := by
  have hb := bounds_u8 h
  obtain ⟨n, rfl⟩ := Int.eq_ofNat_of_zero_le hb.1
  exact ⟨n, rfl, by omega⟩
end Go.LawRow
