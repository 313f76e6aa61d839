/- bare, whatever the kind. -/
import Derived.Test.YthafojadcodkoaaTva
import Derived.Test.YthafojadcodkoaaTvb
import Derived.Test.YthafojadcodkoaaTvc
import Derived.Test.YthafojadcodkoaaTvd
namespace Go.Proofs.Ythafojadcodkoaa
open Go.RowKit
theorem bare_any (w : World) (s : WV) :
    Calls Try.prog 33 #[.agg #[.int .u8 s.k, .int .i64 s.home, .int .u8 s.v0, .int .i64 s.v1, .string s.v2, .slice s.vA s.vl s.vc, .int .i64 s.v4, .slice s.sA s.sl s.sc, .int .i64 s.n, .int .i64 s.lost, .int .i64 s.of_, .int .i64 s.by_, .int .u8 s.set, .bool s.full, .slice s.cA s.cl s.cc, .slice s.nA s.nl s.nc]] w fun e w' => Below w.heap.size w w' ∧ ∃ v, e = .returned v ∧ IsCells v := by
  cases q1 : ((s.k : Int) == 1) with
  | true => exact bare_k1 w s  q1
  | false =>
  cases q2 : ((s.k : Int) == 2) with
  | true => exact bare_k2 w s q1 q2
  | false =>
  cases q4 : ((s.k : Int) == 4) with
  | true => exact bare_k4 w s q1 q2 q4
  | false =>
  cases q3 : ((s.k : Int) == 3) with
  | true => exact bare_k3 w s q1 q2 q4 q3
  | false =>
  cases q6 : ((s.k : Int) == 6) with
  | true => exact bare_k6 w s q1 q2 q4 q3 q6
  | false =>
  cases q11 : ((s.k : Int) == 11) with
  | true => exact bare_k11 w s q1 q2 q4 q3 q6 q11
  | false =>
  cases q7 : ((s.k : Int) == 7) with
  | true => exact bare_k7 w s q1 q2 q4 q3 q6 q11 q7
  | false =>
  cases q8 : ((s.k : Int) == 8) with
  | true => exact bare_k8 w s q1 q2 q4 q3 q6 q11 q7 q8
  | false =>
  cases q9 : ((s.k : Int) == 9) with
  | true => exact bare_k9 w s q1 q2 q4 q3 q6 q11 q7 q8 q9
  | false =>
  cases q10 : ((s.k : Int) == 10) with
  | true => exact bare_k10 w s q1 q2 q4 q3 q6 q11 q7 q8 q9 q10
  | false =>
  cases q12 : ((s.k : Int) == 12) with
  | true => exact bare_k12 w s q1 q2 q4 q3 q6 q11 q7 q8 q9 q10 q12
  | false =>
  cases q13 : ((s.k : Int) == 13) with
  | true => exact bare_k13 w s q1 q2 q4 q3 q6 q11 q7 q8 q9 q10 q12 q13
  | false =>
  cases q15 : ((s.k : Int) == 15) with
  | true => exact bare_k15 w s q1 q2 q4 q3 q6 q11 q7 q8 q9 q10 q12 q13 q15
  | false =>
  cases q16 : ((s.k : Int) == 16) with
  | true => exact bare_k16 w s q1 q2 q4 q3 q6 q11 q7 q8 q9 q10 q12 q13 q15 q16
  | false =>
  cases q14 : ((s.k : Int) == 14) with
  | true => exact bare_k14 w s q1 q2 q4 q3 q6 q11 q7 q8 q9 q10 q12 q13 q15 q16 q14
  | false =>
  exact bare_k0 w s q1 q2 q4 q3 q6 q11 q7 q8 q9 q10 q12 q13 q15 q16 q14
end Go.Proofs.Ythafojadcodkoaa
