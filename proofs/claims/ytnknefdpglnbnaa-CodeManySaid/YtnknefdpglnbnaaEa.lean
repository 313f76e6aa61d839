/- The codes and names of CodeMany, and what is answered of them. -/
import Derived.Test.YtnknefdpglnbnaaMf
import Derived.Test.YtnknefdpglnbnaaZj
import Derived.Test.YtnknefdpglnbnaaZk
import Derived.Test.YtnknefdpglnbnaaPf
import Derived.Test.YtnknefdpglnbnaaDa
import Derived.Lib.SlBytesRow
namespace Go.Proofs.Ytnknefdpglnbnaa
open Go.RowKit

def stX (i : Nat) : St := .mk 1 ⟨#[120]⟩ ⟨#[]⟩ 0 0 (.mk 1 (i : Int) ⟨#[]⟩ []) zE [] [] [] []
def svX (i : Nat) : SV := { SV.zero with op := 1, nm := ⟨#[120]⟩, a0 := 1, a1 := (i : Int) }
def stF : St := .mk 8 ⟨#[]⟩ ⟨#[]⟩ 0 0 zE zE [] [] [] []
def svF : SV := { SV.zero with op := 8 }
def rowX : List St := (List.range 512).map stX
def stC (ab : Int) (t : List St) : St := .mk 6 ⟨#[]⟩ ⟨#[]⟩ ab 0 (.mk 4 0 ⟨#[120]⟩ []) zE t [] [] []
def svC (ab : Int) (A : Option Addr) : SV := { SV.zero with op := 6, ab := ab, a0 := 4, a2 := ⟨#[120]⟩, tA := A, tl := 1, tc := 1 }
def abX (n : Nat) : Int := if n % 2 = 0 then 1 else 64
def deepX : Nat → List St
  | 0 => [stF]
  | n + 1 => [stC (abX n) (deepX n)]
theorem deepX_len : ∀ n, (deepX n).length = 1
  | 0 => rfl
  | _ + 1 => rfl
def nmX (i : Nat) : ByteArray := (⟨#[97]⟩ : ByteArray) ++ (⟨#[97 + UInt8.ofNat (i / 8), 97 + UInt8.ofNat (i % 8)]⟩ : ByteArray)
def vaZ : Va := .mk 0 0 ⟨#[]⟩ [] 0
def nsM (n : Nat) : List Na := (List.range n).map fun i => (nmX i, vaZ)
theorem isVaZ (w : World) (R : Nat → Nat → Prop) : IsVaR w R (.agg #[.int .u8 0, .int .i64 0, .string ⟨#[]⟩, .slice Option.none 0 0, .int .i64 0]) vaZ := by
  unfold IsVaR vaZ
  exact ⟨by decide, by decide, by decide, by decide, Option.none, 0, Nat.le_refl _, rfl, fun h => absurd rfl h⟩
theorem isX (w : World) (R : Nat → Nat → Prop) (i : Nat) : IsStR w R (svX i) (stX i) := by
  unfold IsStR stX
  exact ⟨⟨rfl, rfl, rfl, rfl, rfl⟩, by decide, isLeaf w R 1 i ⟨#[]⟩ (by decide) (by decide) (by decide), zE_is w R, LR_nil, LR_nil, LR_nil, isSs_nil w R⟩
theorem isF (w : World) (R : Nat → Nat → Prop) : IsStR w R svF stF := by
  unfold IsStR stF
  exact ⟨⟨rfl, rfl, rfl, rfl, rfl⟩, by decide, zE_is w R, zE_is w R, LR_nil, LR_nil, LR_nil, isSs_nil w R⟩
theorem isC {w : World} {R : Nat → Nat → Prop} {ab : Int} {A : Option Addr} {t : List St} (h0 : 0 ≤ ab) (h1 : ab < 256) (h : LR R 256 A 1 1 t (fun b o => IsStsR w R b o t)) : IsStR w R (svC ab A) (stC ab t) := by
  unfold IsStR stC
  exact ⟨⟨rfl, rfl, rfl, rfl, rfl⟩, ⟨by decide, by decide, h0, h1, by decide, by decide, by decide, by decide⟩, isLeaf w R 4 0 ⟨#[120]⟩ (by decide) (by decide) (by decide), zE_is w R, h, LR_nil, LR_nil, isSs_nil w R⟩
theorem m1 : chkL rowX = (0, 0) := by decide +kernel
theorem m2 : chkL (rowX ++ [stF]) = (512, 4) := by decide +kernel
theorem m3 : chkL (deepX 511) = (1, 160) := by decide +kernel
theorem m4 : sizeL rowX = 512 := by decide +kernel
theorem m5 : mayNs (nsM 64) = true := by decide +kernel
theorem m6 : (setW (nsM 64) ⟨#[109, 111, 114, 101]⟩ vaZ).2 = 8 := by decide +kernel
theorem m7 : (setW (nsM 64) ⟨#[97, 97, 97]⟩ vaZ).2 = 0 := by decide +kernel
theorem conv2 (w : World) (x y : Nat) (hx : x < 256) (hy : y < 256) : (convert 77 9 (.slice (some ⟨w.heap.size, 0, Option.none⟩) 2 2)).run Try.prog (w.alloc (.cells #[.int .u8 (x : Int), .int .u8 (y : Int)] 5)) = .ok (.string ⟨#[UInt8.ofNat x, UInt8.ofNat y]⟩) (w.alloc (.cells #[.int .u8 (x : Int), .int .u8 (y : Int)] 5)) := by
  have hB : BlkN (w.alloc (.cells #[.int .u8 (x : Int), .int .u8 (y : Int)] 5)) w.heap.size 5 #[.int .u8 (x : Int), .int .u8 (y : Int)] := BlkN.at_ rfl _ _
  refine Lib.run_convert_whole _ 77 5 9 Try.underlying77 Try.underlying5 Try.underlying9 w.heap.size 0 ⟨#[UInt8.ofNat x, UInt8.ofNat y]⟩ (fun i hi => ?_) 2
  have hi2 : i < 2 := hi
  have : i = 0 ∨ i = 1 := by omega
  rcases this with rfl | rfl
  · rw [Nat.zero_add, hB.cell_eq]
    show some _ = some (Value.int .u8 (((UInt8.ofNat x).toNat : Nat) : Int))
    rw [UInt8.toNat_ofNat_of_lt' hx]
    rfl
  · rw [Nat.zero_add, hB.cell_eq]
    show some _ = some (Value.int .u8 (((UInt8.ofNat y).toNat : Nat) : Int))
    rw [UInt8.toNat_ofNat_of_lt' hy]
    rfl
theorem nmX_size (i : Nat) : (nmX i).size ≤ 140737488351232 := by rw [nmX, ByteArray.size_append]; exact (show (3 : Nat) ≤ 140737488351232 by decide)
end Go.Proofs.Ytnknefdpglnbnaa
