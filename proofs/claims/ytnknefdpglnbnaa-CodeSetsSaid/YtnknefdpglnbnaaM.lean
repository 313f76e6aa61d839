/- Contracts of the small functions of package able at this translation. -/
import Derived.Test.YtnknefdpglnbnaaP
import Derived.Shelf.Small.Bits
namespace Go.Proofs.Ytnknefdpglnbnaa
open Go.RowKit
def Try.lays135_ren : Go.Shelf.Ren := ⟨fun | 135 => 155 | n => n, fun | 5 => 5 | 3 => 3 | 9 => 9 | n => n, fun | n => n⟩
theorem Try.lays135 : Go.Proofs.Lays.n135 Try.prog Try.lays135_ren := {
  mixed := by kernel_rfl
  f135 := Try.func155.trans (congrArg some (by kernel_rfl))
  t3 := Try.underlying3
  a3 := Try.isAgg3
  z3 := Try.sizeOf3
  v3 := Try.zeroValue3
  t5 := Try.underlying5
  a5 := Try.isAgg5
  z5 := Try.sizeOf5
  v5 := Try.zeroValue5
  t9 := Try.underlying9
  a9 := Try.isAgg9
  z9 := Try.sizeOf9
  v9 := Try.zeroValue9 }
theorem Try.bits_OnesCount8 (x : Int) (w : World) (h0 : 0 ≤ x) (h1 : x ≤ 255) :
    Calls Try.prog 155 #[.int .u8 x] w fun e w' => e = .returned (.int .i64 (Lib.onesCount x.toNat)) ∧ w' = w := Any.bits_OnesCount8 Try.lays135 x w h0 h1

def mayB (a : Nat) : Bool := decide (a < 64)
def oneB (a : Nat) : Bool := mayB a && Lib.onesCount a == 1
def mayI (a : Int) : Bool := mayB a.toNat
def oneI (a : Int) : Bool := oneB a.toNat
theorem f_may : ∀ a : Fin 256, (bits .andNot .u8 ((a : Nat) : Int) 63 == 0) = mayB a := by decide +kernel
set_option maxHeartbeats 400000 in
theorem may_any (a : Nat) (ha : a < 256) (w : World) :
    Calls Try.prog 145 #[.int .u8 a] w fun e w' => e = .returned (.bool (mayB a)) ∧ w = w' := by
  go_enter Try.func145, Try.ntmps145
  go_wp2
  go_ret
  exact ⟨by simp [f_may ⟨a, ha⟩], rfl⟩
set_option maxHeartbeats 400000 in
theorem ones_any (x : Int) (a : Nat) (hx : x = a) (ha : a < 256) (w : World) :
    Calls Try.prog 155 #[.int .u8 x] w fun e w' => e = .returned (.int .i64 (Lib.onesCount a)) ∧ w = w' := by
  subst hx
  exact (Try.bits_OnesCount8 _ _ (by omega) (by omega)).mono fun e w' ⟨h1, h2⟩ => ⟨by rw [h1]; rfl, h2.symm⟩
set_option maxHeartbeats 400000 in
theorem one_any (a : Nat) (ha : a < 256) (w : World) :
    Calls Try.prog 140 #[.int .u8 a] w fun e w' => e = .returned (.bool (oneB a)) ∧ w = w' := by
  by_cases hm : mayB a = true
  · go_enter Try.func140, Try.ntmps140
    go_wp2_with (first | (go_at_call 145; refine (may_any a ha _).mono ?_; rintro e w' ⟨rfl, rfl⟩) | (go_at_call 155; refine (ones_any _ a (by omega) (by omega) _).mono ?_; rintro e w' ⟨rfl, rfl⟩))
    go_ret
    exact ⟨by rw [show oneB a = (((Lib.onesCount a : Nat) : Int) == 1) from by simp only [oneB, hm, Bool.true_and]; rw [Bool.eq_iff_iff]; simp; omega]; rfl, rfl⟩
  · have hm : mayB a = false := by simpa using hm
    go_enter Try.func140, Try.ntmps140
    go_wp2_with (first | (go_at_call 145; refine (may_any a ha _).mono ?_; rintro e w' ⟨rfl, rfl⟩) | (go_at_call 155; refine (ones_any _ a (by omega) (by omega) _).mono ?_; rintro e w' ⟨rfl, rfl⟩))
    go_ret
    exact ⟨by simp [oneB, hm], rfl⟩
theorem u8_toNat {x : Int} (h0 : 0 ≤ x) (h1 : x < 256) : ((x.toNat : Nat) : Int) = x ∧ x.toNat < 256 := by omega
/-- THE SAME FOR AN INTEGER IN THE RANGE OF A BYTE, ended in 'Below'. -/
theorem mayI_any (x : Int) (h0 : 0 ≤ x) (h1 : x < 256) (w : World) :
    Calls Try.prog 145 #[.int .u8 x] w fun e w' => e = .returned (.bool (mayI x)) ∧ Below w.heap.size w w' := by
  have h := may_any x.toNat (by omega) w
  rw [(u8_toNat h0 h1).1] at h
  exact h.mono fun e w' ⟨he, hw⟩ => ⟨he, hw ▸ Below.refl _ _⟩
theorem oneI_any (x : Int) (h0 : 0 ≤ x) (h1 : x < 256) (w : World) :
    Calls Try.prog 140 #[.int .u8 x] w fun e w' => e = .returned (.bool (oneI x)) ∧ Below w.heap.size w w' := by
  have h := one_any x.toNat (by omega) w
  rw [(u8_toNat h0 h1).1] at h
  exact h.mono fun e w' ⟨he, hw⟩ => ⟨he, hw ▸ Below.refl _ _⟩
end Go.Proofs.Ytnknefdpglnbnaa
