/- Pieces of code of the law's own; lists of statements in a block of their own. -/
import Derived.Test.YtnknefdpglnbnaaZe
namespace Go.Proofs.Ytnknefdpglnbnaa
open Go.RowKit

theorem info26 : (Try.prog.info? 26).map (fun i => (i.zero, i.size, i.bytes)) = some (some (.agg #[.int .u8 0, .int .i64 0, .string ⟨#[]⟩, .slice Option.none 0 0]), 4, 56) := by kernel_rfl
set_option maxHeartbeats 1000000 in
theorem name_any (s : ByteArray) (w : World) : Calls Try.prog 47 #[.string s] w fun e w' => e = .returned (.agg #[.int .u8 4, .int .i64 0, .string s, .slice Option.none 0 0]) ∧ Below w.heap.size w w' := by
  obtain ⟨i0, hi, hz0, hz1, hz2⟩ := info_parts info26
  go_enter Try.func47, Try.ntmps47
  go_wp2_with fail
  exact bodyPost_ret (results_cell1 (s := 2) (b := w.heap.size) rfl Try.underlying26 hi rfl (BlkN.at_ rfl 26 #[.int .u8 4, .int .i64 0, .string s, .slice Option.none 0 0]) (by rw [hz1]; rfl)) rfl ⟨rfl, (Below.refl _ _).alloc (Nat.le_refl _) _⟩
set_option maxHeartbeats 1000000 in
theorem number_any (n : Int) (w : World) : Calls Try.prog 50 #[.int .i64 n] w fun e w' => e = .returned (.agg #[.int .u8 1, .int .i64 n, .string ⟨#[]⟩, .slice Option.none 0 0]) ∧ Below w.heap.size w w' := by
  obtain ⟨i0, hi, hz0, hz1, hz2⟩ := info_parts info26
  go_enter Try.func50, Try.ntmps50
  go_wp2_with fail
  exact bodyPost_ret (results_cell1 (s := 2) (b := w.heap.size) rfl Try.underlying26 hi rfl (BlkN.at_ rfl 26 #[.int .u8 1, .int .i64 n, .string ⟨#[]⟩, .slice Option.none 0 0]) (by rw [hz1]; rfl)) rfl ⟨rfl, (Below.refl _ _).alloc (Nat.le_refl _) _⟩
set_option maxRecDepth 100000 in
set_option maxHeartbeats 1000000 in
theorem let_any (s : ByteArray) (k n : Int) (t : ByteArray) (A : Option Addr) (len cap : Nat) (w : World) : Calls Try.prog 49 #[.string s, .agg #[.int .u8 k, .int .i64 n, .string t, .slice A len cap]] w fun e w' => e = .returned (.agg ({ SV.zero with op := 1, nm := s, a0 := k, a1 := n, a2 := t, aA := A, al := len, ac := cap } : SV).arr) ∧ Below w.heap.size w w' := by
  obtain ⟨i0, hi, hz0, hz1, hz2⟩ := info_parts info58
  go_enter Try.func49, Try.ntmps49
  go_upto_region 1 with (fail)
  refine wp_region_lit ?_
  go_wp2_with fail
  exact bodyPost_ret (results_cell1 (s := 4) (b := w.heap.size + 1) rfl Try.underlying58 hi rfl (BlkN.at_ (by simp) 58 ({ SV.zero with op := 1, nm := s, a0 := k, a1 := n, a2 := t, aA := A, al := len, ac := cap } : SV).arr) (by rw [hz1]; rfl)) rfl ⟨rfl, ((Below.refl _ _).alloc (Nat.le_refl _) _).alloc (by simp) _⟩
/-- An expression without parts. -/
theorem isLeaf (w : World) (R : Nat → Nat → Prop) (k n : Int) (s : ByteArray) (h0 : 0 ≤ k) (h1 : k < 256) (h2 : s.size ≤ 140737488351232) : IsExR w R (.agg #[.int .u8 k, .int .i64 n, .string s, .slice Option.none 0 0]) (.mk k n s []) := by
  unfold IsExR
  exact ⟨h0, h1, h2, by simp, Option.none, 0, Nat.le_refl _, rfl, fun h => absurd rfl h⟩
theorem LR_nil {α : Type} {R : Nat → Nat → Prop} {sz : Nat} {p : Nat → Nat → Prop} : LR R sz Option.none 0 0 ([] : List α) p := ⟨rfl, Nat.le_refl _, by simp, fun h => absurd rfl h⟩
theorem isSs_nil (w : World) (R : Nat → Nat → Prop) : IsSsR w R (.slice Option.none 0 0) [] := ⟨by simp, by simp, Option.none, 0, Nat.le_refl _, rfl, fun h => absurd rfl h⟩
/-- The statements of a block of their own. -/
theorem LR_one {w : World} {R : Nat → Nat → Prop} {b : Nat} {T : TypeId} {s : SV} {x : St} (hb : BlkN w b T s.arr) (hR : R b 0) (hx : IsStR w R s x) : LR R 256 (some ⟨b, 0, Option.none⟩) 1 1 [x] (fun b o => IsStsR w R b o [x]) := by
  refine ⟨rfl, Nat.le_refl _, by simp, fun _ => ⟨b, 0, hR, rfl, ?_⟩⟩
  unfold IsStsR
  refine ⟨⟨s, fun j v hv => ?_, hx⟩, by unfold IsStsR; trivial⟩
  rw [Nat.zero_add]
  exact hb.cell j (by simpa using hv)
theorem LR_two {w : World} {R : Nat → Nat → Prop} {b : Nat} {T : TypeId} {s t : SV} {x y : St} (hb : BlkN w b T (s.arr ++ t.arr)) (hR : R b 0) (hx : IsStR w R s x) (hy : IsStR w R t y) : LR R 256 (some ⟨b, 0, Option.none⟩) 2 2 [x, y] (fun b o => IsStsR w R b o [x, y]) := by
  refine ⟨rfl, Nat.le_refl _, by simp, fun _ => ⟨b, 0, hR, rfl, ?_⟩⟩
  unfold IsStsR
  refine ⟨⟨s, fun j v hv => ?_, hx⟩, ?_⟩
  · rw [Nat.zero_add]
    refine hb.cell j ?_
    have hj : j < s.arr.size := by have := (List.getElem?_eq_some_iff.1 hv).1; simpa using this
    rw [Array.getElem?_append_left hj]
    simpa using hv
  · unfold IsStsR
    refine ⟨⟨t, fun j v hv => ?_, hy⟩, by unfold IsStsR; trivial⟩
    refine hb.cell (0 + 17 + j) ?_
    rw [Array.getElem?_append_right (by rw [s.size]; omega), s.size, show 0 + 17 + j - 17 = j by omega]
    simpa using hv
end Go.Proofs.Ytnknefdpglnbnaa
