/- bare, blank. -/
import Derived.Test.YthafojadcodkoaaTd
import Derived.Test.YthafojadcodkoaaTs
import Derived.WalkSpells
import Derived.Deep.Cut
namespace Go.Proofs.Ythafojadcodkoaa
open Go.RowKit

theorem Below.al {w W : World} {o : Obj} (h : Below w.heap.size w W) : Below w.heap.size w (W.alloc o) := h.alloc h.size _
theorem Below.dr {w W : World} (h : Below w.heap.size w W) : Below w.heap.size w W.drew := h.drew
/-- The sixteen cells of a thing, whatever they are. -/
def IsCells (v : Value) : Prop := ∃ (k home v0 v1 : Int) (v2 : ByteArray) (vA : Option Addr) (vl vc : Nat) (v4 : Int) (sA : Option Addr) (sl sc : Nat) (n lost of_ by_ set : Int) (full : Bool) (cA : Option Addr) (cl cc : Nat) (nA : Option Addr) (nl nc : Nat), v = .agg #[.int .u8 k, .int .i64 home, .int .u8 v0, .int .i64 v1, .string v2, .slice vA vl vc, .int .i64 v4, .slice sA sl sc, .int .i64 n, .int .i64 lost, .int .i64 of_, .int .i64 by_, .int .u8 set, .bool full, .slice cA cl cc, .slice nA nl nc]
theorem infoB25 : (Try.prog.info? 25).map (fun i => (i.zero, i.size, i.bytes)) = some (some (.int .i64 0), 1, 8) := by kernel_rfl
theorem infoB2 : (Try.prog.info? 2).map (fun i => (i.zero, i.size, i.bytes)) = some (some (.int .i64 0), 1, 8) := by kernel_rfl
theorem infoB4 : (Try.prog.info? 4).map (fun i => (i.zero, i.size, i.bytes)) = some (some (.bool false), 1, 1) := by kernel_rfl
theorem infoB49 : (Try.prog.info? 49).map (fun i => (i.zero, i.size, i.bytes)) = some (some (.agg #[.int .u8 0, .int .i64 0, .string ⟨#[]⟩, .slice Option.none 0 0, .int .i64 0]), 5, 64) := by kernel_rfl
theorem infoB50 : (Try.prog.info? 50).map (fun i => (i.zero, i.size, i.bytes)) = some (some (.slice Option.none 0 0), 1, 24) := by kernel_rfl
theorem infoB51 : (Try.prog.info? 51).map (fun i => (i.zero, i.size, i.bytes)) = some (some (.slice Option.none 0 0), 1, 24) := by kernel_rfl
section
attribute [local irreducible] RegT.seqT RegT.seqM wpList
set_option maxRecDepth 100000 in
set_option maxHeartbeats 8000000 in
theorem bare_cell (w : World) :
    Calls Try.prog 33 #[.agg #[.int .u8 1, .int .i64 0, .int .u8 0, .int .i64 0, .string ⟨#[]⟩, .slice Option.none 0 0, .int .i64 0, .slice Option.none 0 0, .int .i64 0, .int .i64 0, .int .i64 0, .int .i64 0, .int .u8 0, .bool false, .slice Option.none 0 0, .slice Option.none 0 0]] w fun e w' => Below w.heap.size w w' ∧ e = .returned (.agg #[.int .u8 1, .int .i64 0, .int .u8 0, .int .i64 0, .string ⟨#[]⟩, .slice Option.none 0 0, .int .i64 0, .slice Option.none 0 0, .int .i64 0, .int .i64 0, .int .i64 0, .int .i64 0, .int .u8 0, .bool false, .slice Option.none 0 0, .slice Option.none 0 0]) := by
  go_enter Try.func33, Try.ntmps33
  go_wp2_with fail
  refine bodyPost_ret (by simp [results, Try.f33]; go_simp; try rfl) rfl ⟨?_, rfl⟩
  repeat (first | exact Below.refl _ _ | assumption | apply Below.al | apply Below.dr)
set_option maxRecDepth 100000 in
theorem blank_any (w : World) (k n : Int) (z : ByteArray) (A : Option Addr) (l c : Nat) (r : Int) :
    Calls Try.prog 34 #[.agg #[.int .u8 k, .int .i64 n, .string z, .slice A l c, .int .i64 r]] w fun e w' => Below w.heap.size w w' ∧ ∃ β : Bool, e = .returned (.bool β) := by
  go_enter Try.func34, Try.ntmps34
  go_wp2_with fail
  all_goals (go_ret; refine ⟨?_, _, rfl⟩; repeat (first | exact Below.refl _ _ | assumption | apply Below.al | apply Below.dr))
set_option maxRecDepth 100000 in
theorem blank_zero (w : World) :
    Calls Try.prog 34 #[.agg #[.int .u8 0, .int .i64 0, .string ⟨#[]⟩, .slice Option.none 0 0, .int .i64 0]] w fun e w' => Below w.heap.size w w' ∧ e = .returned (.bool true) := by
  go_enter Try.func34, Try.ntmps34
  go_wp2_with fail
  all_goals (go_ret; refine ⟨?_, rfl⟩; repeat (first | exact Below.refl _ _ | assumption | apply Below.al | apply Below.dr))
end
end Go.Proofs.Ythafojadcodkoaa
