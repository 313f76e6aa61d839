/- Statements: what it is for a Go value to read as one. -/
import Derived.Test.YtnknefdpglnbnaaO
import Derived.Test.YtnknefdpglnbnaaQ
namespace Go.Proofs.Ytnknefdpglnbnaa
open Go.RowKit

/-- A statement's value, cell by cell. -/
structure SV where
  (op ab wh : Int)
  (nm sec : ByteArray)
  (a0 a1 : Int) (a2 : ByteArray) (aA : Option Addr) (al ac : Nat)
  (b0 b1 : Int) (b2 : ByteArray) (bA : Option Addr) (bl bc : Nat)
  (tA : Option Addr) (tl tc : Nat)
  (eA : Option Addr) (el ec : Nat)
  (cA : Option Addr) (cl cc : Nat)
  (wA : Option Addr) (wl wc : Nat)
def SV.arr (s : SV) : Array Value := #[.int .u8 s.op, .string s.nm, .string s.sec, .int .u8 s.ab, .int .u8 s.wh, .int .u8 s.a0, .int .i64 s.a1, .string s.a2, .slice s.aA s.al s.ac, .int .u8 s.b0, .int .i64 s.b1, .string s.b2, .slice s.bA s.bl s.bc,
  .slice s.tA s.tl s.tc, .slice s.eA s.el s.ec, .slice s.cA s.cl s.cc, .slice s.wA s.wl s.wc]
def SV.a (s : SV) : Value := .agg #[.int .u8 s.a0, .int .i64 s.a1, .string s.a2, .slice s.aA s.al s.ac]
def SV.b (s : SV) : Value := .agg #[.int .u8 s.b0, .int .i64 s.b1, .string s.b2, .slice s.bA s.bl s.bc]
theorem SV.size (s : SV) : s.arr.size = 17 := rfl
def SV.zero : SV := ⟨0, 0, 0, ⟨#[]⟩, ⟨#[]⟩, 0, 0, ⟨#[]⟩, Option.none, 0, 0, 0, 0, ⟨#[]⟩, Option.none, 0, 0, Option.none, 0, 0, Option.none, 0, 0, Option.none, 0, 0, Option.none, 0, 0⟩
theorem SV.at0 (s : SV) : s.arr[0]? = some (.int .u8 s.op) := rfl
theorem SV.at1 (s : SV) : s.arr[1]? = some (.string s.nm) := rfl
theorem SV.at2 (s : SV) : s.arr[2]? = some (.string s.sec) := rfl
theorem SV.at3 (s : SV) : s.arr[3]? = some (.int .u8 s.ab) := rfl
theorem SV.at4 (s : SV) : s.arr[4]? = some (.int .u8 s.wh) := rfl
theorem SV.at5 (s : SV) : s.arr[5]? = some (.int .u8 s.a0) := rfl
theorem SV.at6 (s : SV) : s.arr[6]? = some (.int .i64 s.a1) := rfl
theorem SV.at7 (s : SV) : s.arr[7]? = some (.string s.a2) := rfl
theorem SV.at8 (s : SV) : s.arr[8]? = some (.slice s.aA s.al s.ac) := rfl
theorem SV.at9 (s : SV) : s.arr[9]? = some (.int .u8 s.b0) := rfl
theorem SV.at10 (s : SV) : s.arr[10]? = some (.int .i64 s.b1) := rfl
theorem SV.at11 (s : SV) : s.arr[11]? = some (.string s.b2) := rfl
theorem SV.at12 (s : SV) : s.arr[12]? = some (.slice s.bA s.bl s.bc) := rfl
theorem SV.at13 (s : SV) : s.arr[13]? = some (.slice s.tA s.tl s.tc) := rfl
theorem SV.at14 (s : SV) : s.arr[14]? = some (.slice s.eA s.el s.ec) := rfl
theorem SV.at15 (s : SV) : s.arr[15]? = some (.slice s.cA s.cl s.cc) := rfl
theorem SV.at16 (s : SV) : s.arr[16]? = some (.slice s.wA s.wl s.wc) := rfl
theorem info58 : (Try.prog.info? 58).map (fun i => (i.zero, i.size, i.bytes)) = some (some (.agg SV.zero.arr), 17, 256) := by kernel_rfl
theorem SV.one (s : SV) : ∀ u ∈ s.arr.toList, u.oneCell' = true := by
  intro u hu
  simp only [SV.arr, List.mem_cons, List.not_mem_nil, or_false] at hu
  rcases hu with rfl | rfl | rfl | rfl | rfl | rfl | rfl | rfl | rfl | rfl | rfl | rfl | rfl | rfl | rfl | rfl | rfl <;> rfl
theorem zeroS_eq : (#[.int .u8 0, .string ⟨#[]⟩, .string ⟨#[]⟩, .int .u8 0, .int .u8 0, .int .u8 0, .int .i64 0, .string ⟨#[]⟩, .slice Option.none 0 0, .int .u8 0, .int .i64 0, .string ⟨#[]⟩, .slice Option.none 0 0, .slice Option.none 0 0, .slice Option.none 0 0, .slice Option.none 0 0, .slice Option.none 0 0] : Array Value) = SV.zero.arr := rfl
end Go.Proofs.Ytnknefdpglnbnaa
