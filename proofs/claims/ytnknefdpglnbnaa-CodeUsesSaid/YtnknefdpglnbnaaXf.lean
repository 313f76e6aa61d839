/- The program's side of CodeUses: the keys of a map, sorted. -/
import Derived.Test.YtnknefdpglnbnaaRows
import Derived.Test.YtnknefdpglnbnaaXs
import Derived.Test.YtnknefdpglnbnaaXa
import Derived.Sort.KeysCollected
import Derived.Sort.OwnSorted
import Derived.Maps.RangeWalk
import Derived.Maps.AppendAt
namespace Go.Proofs.Ytnknefdpglnbnaa
open Go Go.RowKit Go.Maps Go.Sort

theorem keyed9 : Keyed Try.prog 9 := string_keyed Try.underlying9
/-- A row of the call's own that holds these texts. -/
def KRow (w : World) (lo : Nat) (sl : Value) (ss : List (List UInt8)) : Prop := w.ownsRow lo 9 1 sl ss.length (ss.map encStr)
theorem sort132_any (w : World) (lo : Nat) (sl : Value) (ss : List (List UInt8)) (h : KRow w lo sl ss) (hl : ss.length < 4611686018427387904) :
    Calls Try.prog 132 #[sl] w fun e w' => e = .returned (.tuple #[]) ∧ KRow w' lo sl (ss.mergeSort fun x y => decide (x ≤ y)) ∧ w.grownBy w' sl.ownBlock := by
  rcases h.2 with ⟨rfl, h0⟩ | ⟨g, cap, cur, rfl, hbase, hb, h1, h2, h3, h4⟩
  · have e : ss = [] := List.eq_nil_of_length_eq_zero h0
    subst e
    refine (AnyM.slices_Sort_string_none Try.sortS Option.none 0 w).mono ?_
    rintro e w' ⟨rfl, rfl⟩
    exact ⟨rfl, by rw [List.mergeSort_nil]; exact h, ⟨rfl, rfl, rfl, Nat.le_refl _, fun _ _ _ => rfl⟩⟩
  · refine (AnyM.slices_Sort_string Try.sortS g 0 cap ss w (holds_of_block hb (by simpa using h4)) (Array.getElem?_eq_some_iff.1 hb).1 hl).mono ?_
    rintro e w' ⟨rfl, n, os, rfl⟩
    refine ⟨rfl, ?_, grownBy_sorted _⟩
    have := ownsRow_sorted (n := n) (os := os) (ss := ss) (ts := ss.mergeSort fun x y => decide (x ≤ y)) (by simp) hbase hb h1 h2 h3
    unfold KRow
    simpa using this
attribute [local irreducible] wpList
set_option maxRecDepth 100000 in
set_option maxHeartbeats 1000000 in
theorem list101_any {H : Type} (b n : Nat) (D0 : DataW H) (w : World) (hown : w.ownsMap Try.prog 9 (plainElem Try.prog 3) b n D0) (hmax : Maps.size D0 ≤ 1000000) :
    Calls Try.prog 101 #[.map (some b)] w fun e w' => ∃ (sl : Value) (ss : List (List UInt8)), e = .returned sl ∧ (ss.Nodup ∧ ∀ x, x ∈ ss ↔ has D0 (.string x) = true) ∧ KRow w' w.heap.size sl (ss.mergeSort fun x y => decide (x ≤ y)) ∧ Below w.heap.size w w' := by
  obtain ⟨i0, hi, hz0, hz1, hz2⟩ := info_parts info9
  have hbl := hown.lt
  go_enter Try.func101, Try.ntmps101
  go_wp2_with (refine wpList_range_own _ rfl (.tmp 5) 120 rfl 9 3 keyed9 Try.underlying120 (plainElem Try.prog 3) b n D0 rfl hown ?_; intro w0 hrg0 hg0 hs0)
  clear hs0
  go_frame
  go_loopw [3] (fun v wr => ∃ (left : Lit → Bool) (cnt : Nat) (ss : List (List UInt8)), wr.ranges Try.prog 9 (plainElem Try.prog 3) b w.heap.size n D0 left cnt ∧ ss.length + cnt ≤ Maps.size D0 ∧
      wr.ownsRow (w.heap.size + 1) 9 1 v ss.length (ss.map encStr) ∧ Collected D0 left ss ∧ Below w.heap.size w wr)
    (fun _ wr => wr.rangeLeft b w.heap.size)
  case atStart =>
    exact ⟨_, _, [], hrg0, by simp, World.ownsRow_nil _ _ _ _, Collected.start D0, (Below.refl _ _).grown hg0 (Nat.le_refl _) (fun j hj => by cases hj)⟩
  case round =>
    obtain ⟨left, cnt, ss, hrg, hcs, hrow, hC, hnx⟩ := hrel
    have hls := hrg.lt
    go_wp2_with (refine wpList_next_ranges _ rfl (.tmp 6) rfl 9 keyed9 (plainElem Try.prog 3) encStr (Value.int .i64) (fun key kl hk => by obtain ⟨x, hx, _⟩ := Maps.keyOf_str Try.underlying9 hk; exact ⟨x, hx⟩) (fun v y hv => by obtain ⟨c, rfl, _⟩ := plainElem_int_inv Try.underlying3 hv; exact ⟨c, rfl⟩) b w.heap.size n _ _ _ rfl hrg ?_ ?_)
    · intro hc0 hl0
      have HR := Lib.hid (show KRow _ _ _ _ from hrow)
      have HP : Hid (ss.Nodup ∧ ∀ x, x ∈ ss ↔ has D0 (.string x) = true) := Lib.hid ⟨hC.1, fun x => by rw [hC.2 x, hl0]; simp⟩
      have hn2 : ss.length < 4611686018427387904 := by omega
      have HNX := Lib.hid hnx
      have hsz := hnx.size
      clear hrow hC hnx hrg hl0
      go_wp2_with (go_at_call 132; refine (sort132_any _ _ _ ss HR.out hn2).mono ?_; rintro e w3 ⟨rfl, hr3, hg3⟩)
      go_ret
      exact ⟨_, ss, rfl, HP.out, row_low hr3 (by omega), HNX.out.grown hg3 hsz (fun k e => by have := (HR.out.lt k e).1; omega)⟩
    · intro x c kl yd yp w2 cnt2 hkey hlk hv hat hrg2 hlt hg2 hs2 hen
      obtain ⟨x', ex, rfl, _⟩ := Maps.keyOf_str Try.underlying9 hkey
      obtain rfl : x = x' := encStr_inj ex
      have hrow2 := hrow.kept hg2 (Or.inr (row_ne_iter hrow hrg).symm)
      have hsz2 := hg2.size
      have hszr := hnx.size
      clear hs2
      go_wp2_with (at_builtin; refine wpList_append_row _ rfl (.tmp 11) (.tmp 13) 56 rfl (w.heap.size + 1) 9 i0 (.string ⟨#[]⟩) 1 16 Try.underlying56 hi hz0 hz1 hz2 rfl (by decide) _ _ _ rfl (hrow2.alloc _) ⟨w2.heap.size, 0, Option.none⟩ 1 1 [encStr x] rfl rfl (cell_one_new _ _ _) (by simp [Value.oneCell', encStr]) (by unfold maxLen; omega) (by omega) (by simp; omega) ?_; intro v' w3 hown' hg3 hor3)
      have hrg3 := (hrg2.alloc (.cells #[encStr x] 9)).kept hg3 (row_ne_low hrow2 (by omega)) (row_ne_low hrow2 (by omega))
      go_roundw
      case rel =>
        refine ⟨_, cnt2, ss ++ [x], hrg3, by simp; omega, by simpa using hown', hC.step hlk hat, ?_⟩
        exact ((hnx.grown hg2 hnx.size (fun j hj => by cases hj; exact Nat.le_refl _)).alloc (by omega) _).grown hg3 (by simp; omega) (fun j hj => by have := (hrow2.lt j hj).1; omega)
      case measure => rw [hrg3.left_eq, hrg.left_eq]; exact hlt
end Go.Proofs.Ytnknefdpglnbnaa
