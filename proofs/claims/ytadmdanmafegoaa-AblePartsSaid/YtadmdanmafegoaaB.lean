/- Contracts of the reference's Has, Names, Text and Read, for every byte and every string. -/
import Derived.Test.YtadmdanmafegoaaA
namespace Go.Proofs.Ytadmdanmafegoaa
open Go.RowKit

set_option maxHeartbeats 400000 in
theorem rhas_any (a b : Nat) (ha : a < 256) (hb : b < 256) (w : World) :
    Calls Try.prog 32 #[.int .u8 a, .int .u8 b] w fun e w' => e = .returned (.bool (hasB a b)) ∧ w = w' := by
  go_enter Try.func32, Try.ntmps32
  go_wp2
  go_loop [5] (fun i => ∃ k : Nat, k ≤ 6 ∧ i = .int .i64 k ∧ upto (lessN b a) k = 0) (fun i => 6 - (intOf i).toNat)
  case atStart => exact ⟨0, by omega, rfl, by simp [upto, Nat.mod_one]⟩
  case round =>
    obtain ⟨k, hk, rfl, hu⟩ := hrel
    have Hu := Lib.hid hu
    clear hu
    by_cases hlt : k < 6
    · have Hs := Lib.hid (upto_succ (lessN b a) k)
      have Ht := Lib.hid (tb_less b a k ha hlt)
      cases hx : b.testBit k <;> cases hy : a.testBit k
      all_goals
        have Hx := Lib.hid hx
        have Hy := Lib.hid hy
        go_wp2_with (go_at_call 43; refine (in_any _ k (by assumption) hlt _).mono ?_; rintro e w' ⟨rfl, rfl⟩)
        first
          | (go_round
             case rel => exact ⟨k + 1, by omega, by go_num, by rw [Hs.out, Ht.out, Hx.out, Hy.out, Hu.out]; simp⟩
             case measure => simp [intOf]; omega)
          | (go_ret
             exact ⟨ret_bool (by
               have h := Ht.out
               rw [Hx.out, Hy.out] at h
               unfold hasB
               cases hz : (lessN b a == 0)
               · rfl
               · have : lessN b a = 0 := by simpa using hz
                 rw [this] at h; simp at h), rfl⟩)
    · obtain rfl : k = 6 := by omega
      go_wp2
      go_ret
      exact ⟨ret_bool (by have := lessN_lt b a; have h := Hu.out; unfold upto at h; rw [Nat.mod_eq_of_lt (by simpa using this)] at h; unfold hasB; rw [h]; rfl), rfl⟩

def nmL : Nat → List UInt8
  | 0 => [103, 101, 116] | 1 => [112, 117, 116] | 2 => [116, 97, 107, 101] | 3 => [103, 105, 118, 101] | 4 => [97, 115, 107] | _ => [99, 117, 116]
def nmV (k : Nat) : Value := .string ⟨(nmL k).toArray⟩
set_option maxHeartbeats 400000 in
theorem rnames_any (w : World) :
    Calls Try.prog 44 #[] w fun e w' => e = .returned (.slice (some ⟨w.heap.size, 0, Option.none⟩) 6 6) ∧ w' = w.alloc (.cells #[nmV 0, nmV 1, nmV 2, nmV 3, nmV 4, nmV 5] 9) := by
  go_enter Try.func44, Try.ntmps44
  go_wp2
  go_ret
  exact ⟨rfl, rfl⟩

theorem ba_append (a b : List UInt8) : ((⟨a.toArray⟩ : ByteArray) ++ (⟨b.toArray⟩ : ByteArray)) = ⟨(a ++ b).toArray⟩ := by
  ext1; simp
def rtx (a k : Nat) : List UInt8 := (List.range k).foldl (fun s j => if a.testBit j then (if s = [] then s else s ++ [43]) ++ nmL j else s) []
theorem rtx_succ (a k : Nat) : rtx a (k + 1) = if a.testBit k then (if rtx a k = [] then rtx a k else rtx a k ++ [43]) ++ nmL k else rtx a k := by
  unfold rtx; rw [List.range_succ, List.foldl_append]; rfl
theorem nm_at (k : Nat) (hk : k < 6) : ∀ h, ([nmV 0, nmV 1, nmV 2, nmV 3, nmV 4, nmV 5] : List Value)[k]'h = .string ⟨(nmL k).toArray⟩ := by
  have : k = 0 ∨ k = 1 ∨ k = 2 ∨ k = 3 ∨ k = 4 ∨ k = 5 := by omega
  rcases this with rfl | rfl | rfl | rfl | rfl | rfl <;> intro h <;> rfl
theorem nmL_len (k : Nat) : (nmL k).length ≤ 4 := by unfold nmL; split <;> simp
theorem rtx_len (a k : Nat) : (rtx a k).length ≤ 5 * k := by
  induction k with
  | zero => simp [rtx]
  | succ k ih =>
    have := nmL_len k
    rw [rtx_succ]
    split
    · split <;> simp <;> omega
    · omega
def txtL (a : Nat) : List UInt8 := if rtx a 6 = [] then [45] else rtx a 6
set_option maxHeartbeats 400000 in
theorem rtext_any (a : Nat) (ha : a < 256) (w : World) :
    Calls Try.prog 23 #[.int .u8 a] w fun e w' => e = .returned (.string ⟨(txtL a).toArray⟩) ∧ Below w.heap.size w w' := by
  go_enter Try.func23, Try.ntmps23
  go_wp2
  go_loopw [3, 4] (fun t i wr => ∃ k : Nat, k ≤ 6 ∧ i = .int .i64 k ∧ t = .string ⟨(rtx a k).toArray⟩ ∧ Below w.heap.size w wr) (fun _ i _ => 6 - (intOf i).toNat)
  case atStart => exact ⟨0, by omega, rfl, rfl, Below.refl _ _⟩
  case round =>
    obtain ⟨k, hk, rfl, rfl, hB⟩ := hrel
    by_cases hlt : k < 6
    · have Hs := Lib.hid (rtx_succ a k)
      cases hx : a.testBit k
      · have Hx := Lib.hid hx
        go_wp2_with (go_at_call 43; refine (in_any _ k (by assumption) hlt _).mono ?_; rintro e w' ⟨rfl, rfl⟩)
        go_roundw
        case rel => exact ⟨k + 1, by omega, by go_num, by rw [Hs.out, Hx.out]; simp, hB⟩
        case measure => simp [intOf]; omega
      · have Hx := Lib.hid hx
        have hN : ∀ h, ([nmV 0, nmV 1, nmV 2, nmV 3, nmV 4, nmV 5] : List Value)[k]'h = .string ⟨(nmL k).toArray⟩ := nm_at k hlt
        have hn : (nmL k).length ≤ 4 ∧ (rtx a k).length ≤ 5 * k := ⟨nmL_len k, rtx_len a k⟩
        cases he : (rtx a k).isEmpty
        all_goals
          have He := Lib.hid he
          go_wp2_with (first | (go_at_call 43; refine (in_any _ k (by assumption) hlt _).mono ?_; rintro e w' ⟨rfl, rfl⟩) | (go_at_call 44; refine (rnames_any _).mono ?_; rintro e w' ⟨rfl, rfl⟩))
          go_roundw
          case rel => exact ⟨k + 1, by omega, by go_num, by
            rw [Hs.out, Hx.out]
            first | rw [if_pos rfl, if_pos (by simpa using He.out)] | rw [if_pos rfl, if_neg (by intro h; have := He.out; rw [h] at this; cases this)]
            simp [ba_append], hB.alloc (by have := hB.size; omega) _⟩
          case measure => simp [intOf]; omega
    · obtain rfl : k = 6 := by omega
      cases he : (rtx a 6).isEmpty
      all_goals
        have He := Lib.hid he
        go_wp2
        go_ret
        refine ⟨?_, hB⟩
        have ht : txtL a = if (rtx a 6).isEmpty then [45] else rtx a 6 := by unfold txtL; cases rtx a 6 <;> simp
        rw [ht, He.out]; rfl

/-! Read: the first of the 64 sets whose text is s -/
def readTo (s : ByteArray) (k : Nat) : Option Nat := (List.range k).find? (fun a => txtL a == s.toList)
theorem readTo_none (s : ByteArray) (k : Nat) (h : readTo s k = Option.none) (hk : (txtL k == s.toList) = false) : readTo s (k + 1) = Option.none := by
  unfold readTo at h ⊢
  rw [List.range_succ, List.find?_append, h]
  simp [hk]
theorem readTo_some (s : ByteArray) (k n : Nat) (h : readTo s k = Option.none) (hk : (txtL k == s.toList) = true) (hn : k < n) : readTo s n = some k := by
  obtain ⟨m, rfl⟩ : ∃ m, n = k + 1 + m := ⟨n - (k + 1), by omega⟩
  unfold readTo at h ⊢
  rw [List.range_add, List.range_succ, List.find?_append, List.find?_append, h]
  simp [hk]
def readA (s : ByteArray) : Nat := (readTo s 64).getD 0
def readB (s : ByteArray) : Bool := (readTo s 64).isSome
theorem readA_some {s : ByteArray} {k : Nat} (h : readTo s 64 = some k) : readA s = k ∧ readB s = true := by simp [readA, readB, h]
theorem readA_none {s : ByteArray} (h : readTo s 64 = Option.none) : readA s = 0 ∧ readB s = false := by simp [readA, readB, h]
set_option maxHeartbeats 400000 in
theorem rread_any (s : ByteArray) (w : World) :
    Calls Try.prog 11 #[.string s] w fun e w' => e = .returned (.tuple #[.int .u8 (readA s), .bool (readB s)]) ∧ Below w.heap.size w w' := by
  go_enter Try.func11, Try.ntmps11
  go_wp2
  go_loopw [4] (fun i wr => ∃ k : Nat, k ≤ 64 ∧ i = .int .u8 k ∧ readTo s k = Option.none ∧ Below w.heap.size w wr) (fun i _ => 64 - (intOf i).toNat)
  case atStart => exact ⟨0, by omega, rfl, rfl, Below.refl _ _⟩
  case round =>
    obtain ⟨k, hk, rfl, hp, hB⟩ := hrel
    have Hp := Lib.hid hp
    clear hp
    by_cases hlt : k < 64
    · cases he : (txtL k == s.toList)
      · have Hs := Lib.hid (readTo_none s k Hp.out he)
        go_wp2_with (go_at_call 23; refine (rtext_any k (by omega) _).mono ?_; rintro e w' ⟨rfl, hb'⟩)
        go_roundw
        case rel => exact ⟨k + 1, by omega, by go_num, Hs.out, hB.trans (hb'.mono hB.size)⟩
        case measure => simp [intOf]; omega
      · have Hs := Lib.hid (readA_some (readTo_some s k 64 Hp.out he hlt))
        go_wp2_with (go_at_call 23; refine (rtext_any k (by omega) _).mono ?_; rintro e w' ⟨rfl, hb'⟩)
        go_ret2
        exact ⟨by rw [Hs.out.1, Hs.out.2]; rfl, hB.trans (hb'.mono hB.size)⟩
    · obtain rfl : k = 64 := by omega
      have Hs := Lib.hid (readA_none Hp.out)
      go_wp2
      go_ret2
      exact ⟨by rw [Hs.out.1, Hs.out.2]; rfl, hB⟩
end Go.Proofs.Ytadmdanmafegoaa
