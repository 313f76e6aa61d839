/- bare: the kinds 1, 2, 4, 3. -/
import Derived.Test.YthafojadcodkoaaTv
namespace Go.Proofs.Ythafojadcodkoaa
open Go.RowKit
section
attribute [local irreducible] RegT.seqT RegT.seqM wpList
set_option maxRecDepth 100000 in
set_option maxHeartbeats 4000000 in
theorem bare_k1 (w : World) (s : WV)  (q1 : ((s.k : Int) == 1) = true) :
    Calls Try.prog 33 #[.agg #[.int .u8 s.k, .int .i64 s.home, .int .u8 s.v0, .int .i64 s.v1, .string s.v2, .slice s.vA s.vl s.vc, .int .i64 s.v4, .slice s.sA s.sl s.sc, .int .i64 s.n, .int .i64 s.lost, .int .i64 s.of_, .int .i64 s.by_, .int .u8 s.set, .bool s.full, .slice s.cA s.cl s.cc, .slice s.nA s.nl s.nc]] w fun e w' => Below w.heap.size w w' ∧ ∃ v, e = .returned v ∧ IsCells v := by
  go_enter Try.func33, Try.ntmps33
  go_wp2_with fail
  refine bodyPost_ret (by simp [results, Try.f33]; go_simp; rfl) rfl ?_
  refine ⟨?_, _, rfl, _, _, _, _, _, _, _, _, _, _, _, _, _, _, _, _, _, _, _, _, _, _, _, _, rfl⟩; repeat (first | exact Below.refl _ _ | assumption | apply Below.al | apply Below.dr)
set_option maxRecDepth 100000 in
set_option maxHeartbeats 4000000 in
theorem bare_k2 (w : World) (s : WV) (q1 : ((s.k : Int) == 1) = false) (q2 : ((s.k : Int) == 2) = true) :
    Calls Try.prog 33 #[.agg #[.int .u8 s.k, .int .i64 s.home, .int .u8 s.v0, .int .i64 s.v1, .string s.v2, .slice s.vA s.vl s.vc, .int .i64 s.v4, .slice s.sA s.sl s.sc, .int .i64 s.n, .int .i64 s.lost, .int .i64 s.of_, .int .i64 s.by_, .int .u8 s.set, .bool s.full, .slice s.cA s.cl s.cc, .slice s.nA s.nl s.nc]] w fun e w' => Below w.heap.size w w' ∧ ∃ v, e = .returned v ∧ IsCells v := by
  go_enter Try.func33, Try.ntmps33
  go_wp2_with fail
  refine bodyPost_ret (by simp [results, Try.f33]; go_simp; rfl) rfl ?_
  refine ⟨?_, _, rfl, _, _, _, _, _, _, _, _, _, _, _, _, _, _, _, _, _, _, _, _, _, _, _, _, rfl⟩; repeat (first | exact Below.refl _ _ | assumption | apply Below.al | apply Below.dr)
set_option maxRecDepth 100000 in
set_option maxHeartbeats 4000000 in
theorem bare_k4 (w : World) (s : WV) (q1 : ((s.k : Int) == 1) = false) (q2 : ((s.k : Int) == 2) = false) (q4 : ((s.k : Int) == 4) = true) :
    Calls Try.prog 33 #[.agg #[.int .u8 s.k, .int .i64 s.home, .int .u8 s.v0, .int .i64 s.v1, .string s.v2, .slice s.vA s.vl s.vc, .int .i64 s.v4, .slice s.sA s.sl s.sc, .int .i64 s.n, .int .i64 s.lost, .int .i64 s.of_, .int .i64 s.by_, .int .u8 s.set, .bool s.full, .slice s.cA s.cl s.cc, .slice s.nA s.nl s.nc]] w fun e w' => Below w.heap.size w w' ∧ ∃ v, e = .returned v ∧ IsCells v := by
  go_enter Try.func33, Try.ntmps33
  go_wp2_with fail
  refine bodyPost_ret (by simp [results, Try.f33]; go_simp; rfl) rfl ?_
  refine ⟨?_, _, rfl, _, _, _, _, _, _, _, _, _, _, _, _, _, _, _, _, _, _, _, _, _, _, _, _, rfl⟩; repeat (first | exact Below.refl _ _ | assumption | apply Below.al | apply Below.dr)
set_option maxRecDepth 100000 in
set_option maxHeartbeats 4000000 in
theorem bare_k3 (w : World) (s : WV) (q1 : ((s.k : Int) == 1) = false) (q2 : ((s.k : Int) == 2) = false) (q4 : ((s.k : Int) == 4) = false) (q3 : ((s.k : Int) == 3) = true) :
    Calls Try.prog 33 #[.agg #[.int .u8 s.k, .int .i64 s.home, .int .u8 s.v0, .int .i64 s.v1, .string s.v2, .slice s.vA s.vl s.vc, .int .i64 s.v4, .slice s.sA s.sl s.sc, .int .i64 s.n, .int .i64 s.lost, .int .i64 s.of_, .int .i64 s.by_, .int .u8 s.set, .bool s.full, .slice s.cA s.cl s.cc, .slice s.nA s.nl s.nc]] w fun e w' => Below w.heap.size w w' ∧ ∃ v, e = .returned v ∧ IsCells v := by
  go_enter Try.func33, Try.ntmps33
  go_wp2_with fail
  refine bodyPost_ret (by simp [results, Try.f33]; go_simp; rfl) rfl ?_
  refine ⟨?_, _, rfl, _, _, _, _, _, _, _, _, _, _, _, _, _, _, _, _, _, _, _, _, _, _, _, _, rfl⟩; repeat (first | exact Below.refl _ _ | assumption | apply Below.al | apply Below.dr)
end
end Go.Proofs.Ythafojadcodkoaa
