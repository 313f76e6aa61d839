/- Pieces of code of the law's own; lists of statements in a block of their own. The calls of lives: each at its given code. -/
import Derived.Test.YtnknefdpglnbnaaZf
import Derived.Test.YtnknefdpglnbnaaZk
namespace Go.Proofs.Ytnknefdpglnbnaa
open Go.RowKit

theorem info26 : (Try.prog.info? 26).map (fun i => (i.zero, i.size, i.bytes)) = some (some (.agg #[.int .u8 0, .int .i64 0, .string ⟨#[]⟩, .slice Option.none 0 0]), 4, 56) := by kernel_rfl
set_option maxHeartbeats 1000000 in
theorem name_any (s : ByteArray) (w : World) : Calls Try.prog 47 #[.string s] w fun e w' => e = .returned (.agg #[.int .u8 4, .int .i64 0, .string s, .slice Option.none 0 0]) ∧ Below w.heap.size w w' := by
  obtain ⟨i0, hi, hz0, hz1, hz2⟩ := info_parts info26
  go_enter Try.func47, Try.ntmps47
  go_wp2_with fail
  exact bodyPost_ret (results_cell1 (s := 2) (b := w.heap.size) rfl Try.underlying26 hi rfl (BlkN.at_ rfl 26 #[.int .u8 4, .int .i64 0, .string s, .slice Option.none 0 0]) (by rw [hz1]; rfl)) rfl ⟨rfl, (Below.refl _ _).alloc (Nat.le_refl _) _⟩
set_option maxHeartbeats 1000000 in
theorem number_any (n : Int) (w : World) : Calls Try.prog 50 #[.int .i64 n] w fun e w' => e = .returned (.agg #[.int .u8 1, .int .i64 n, .string ⟨#[]⟩, .slice Option.none 0 0]) ∧ Below w.heap.size w w' := by
  obtain ⟨i0, hi, hz0, hz1, hz2⟩ := info_parts info26
  go_enter Try.func50, Try.ntmps50
  go_wp2_with fail
  exact bodyPost_ret (results_cell1 (s := 2) (b := w.heap.size) rfl Try.underlying26 hi rfl (BlkN.at_ rfl 26 #[.int .u8 1, .int .i64 n, .string ⟨#[]⟩, .slice Option.none 0 0]) (by rw [hz1]; rfl)) rfl ⟨rfl, (Below.refl _ _).alloc (Nat.le_refl _) _⟩
set_option maxRecDepth 100000 in
set_option maxHeartbeats 1000000 in
theorem let_any (s : ByteArray) (k n : Int) (t : ByteArray) (A : Option Addr) (len cap : Nat) (w : World) : Calls Try.prog 49 #[.string s, .agg #[.int .u8 k, .int .i64 n, .string t, .slice A len cap]] w fun e w' => e = .returned (.agg ({ SV.zero with op := 1, nm := s, a0 := k, a1 := n, a2 := t, aA := A, al := len, ac := cap } : SV).arr) ∧ Below w.heap.size w w' := by
  obtain ⟨i0, hi, hz0, hz1, hz2⟩ := info_parts info58
  go_enter Try.func49, Try.ntmps49
  go_upto_region 1 with (fail)
  refine wp_region_lit ?_
  go_wp2_with fail
  exact bodyPost_ret (results_cell1 (s := 4) (b := w.heap.size + 1) rfl Try.underlying58 hi rfl (BlkN.at_ (by simp) 58 ({ SV.zero with op := 1, nm := s, a0 := k, a1 := n, a2 := t, aA := A, al := len, ac := cap } : SV).arr) (by rw [hz1]; rfl)) rfl ⟨rfl, ((Below.refl _ _).alloc (Nat.le_refl _) _).alloc (by simp) _⟩
/-- An expression without parts. -/
theorem isLeaf (w : World) (R : Nat → Nat → Prop) (k n : Int) (s : ByteArray) (h0 : 0 ≤ k) (h1 : k < 256) (h2 : s.size ≤ 140737488351232) : IsExR w R (.agg #[.int .u8 k, .int .i64 n, .string s, .slice Option.none 0 0]) (.mk k n s []) := by
  unfold IsExR
  exact ⟨h0, h1, h2, by simp, Option.none, 0, Nat.le_refl _, rfl, fun h => absurd rfl h⟩
theorem LR_nil {α : Type} {R : Nat → Nat → Prop} {sz : Nat} {p : Nat → Nat → Prop} : LR R sz Option.none 0 0 ([] : List α) p := ⟨rfl, Nat.le_refl _, by simp, fun h => absurd rfl h⟩
theorem isSs_nil (w : World) (R : Nat → Nat → Prop) : IsSsR w R (.slice Option.none 0 0) [] := ⟨by simp, by simp, Option.none, 0, Nat.le_refl _, rfl, fun h => absurd rfl h⟩
/-- The statements of a block of their own. -/
theorem LR_one {w : World} {R : Nat → Nat → Prop} {b : Nat} {T : TypeId} {s : SV} {x : St} (hb : BlkN w b T s.arr) (hR : R b 0) (hx : IsStR w R s x) : LR R 256 (some ⟨b, 0, Option.none⟩) 1 1 [x] (fun b o => IsStsR w R b o [x]) := by
  refine ⟨rfl, Nat.le_refl _, by simp, fun _ => ⟨b, 0, hR, rfl, ?_⟩⟩
  unfold IsStsR
  refine ⟨⟨s, fun j v hv => ?_, hx⟩, by unfold IsStsR; trivial⟩
  rw [Nat.zero_add]
  exact hb.cell j (by simpa using hv)
theorem LR_two {w : World} {R : Nat → Nat → Prop} {b : Nat} {T : TypeId} {s t : SV} {x y : St} (hb : BlkN w b T (s.arr ++ t.arr)) (hR : R b 0) (hx : IsStR w R s x) (hy : IsStR w R t y) : LR R 256 (some ⟨b, 0, Option.none⟩) 2 2 [x, y] (fun b o => IsStsR w R b o [x, y]) := by
  refine ⟨rfl, Nat.le_refl _, by simp, fun _ => ⟨b, 0, hR, rfl, ?_⟩⟩
  unfold IsStsR
  refine ⟨⟨s, fun j v hv => ?_, hx⟩, ?_⟩
  · rw [Nat.zero_add]
    refine hb.cell j ?_
    have hj : j < s.arr.size := by have := (List.getElem?_eq_some_iff.1 hv).1; simpa using this
    rw [Array.getElem?_append_left hj]
    simpa using hv
  · unfold IsStsR
    refine ⟨⟨t, fun j v hv => ?_, hy⟩, by unfold IsStsR; trivial⟩
    refine hb.cell (0 + 17 + j) ?_
    rw [Array.getElem?_append_right (by rw [s.size]; omega), s.size, show 0 + 17 + j - 17 = j by omega]
    simpa using hv
end Go.Proofs.Ytnknefdpglnbnaa
namespace Go.Proofs.Ytnknefdpglnbnaa
open Go.RowKit

def stGet : St := .mk 2 ⟨#[120]⟩ ⟨#[]⟩ 1 0 (.mk 4 0 ⟨#[121]⟩ []) zE [] [] [] []
def stTwo : St := .mk 2 ⟨#[120]⟩ ⟨#[]⟩ 3 0 (.mk 4 0 ⟨#[121]⟩ []) (.mk 1 1 ⟨#[]⟩ []) [] [] [] []
def stRep : St := .mk 7 ⟨#[]⟩ ⟨#[]⟩ 0 0 (.mk 4 0 ⟨#[105, 116]⟩ []) zE [] [] [] []
def stClk : St := .mk 3 ⟨#[122]⟩ ⟨#[]⟩ 0 12 zE zE [] [] [stRep] []
def stLet (s : ByteArray) : St := .mk 1 s ⟨#[]⟩ 0 0 (.mk 1 1 ⟨#[]⟩ []) zE [] [] [] []
def stSame : St := .mk 5 ⟨#[]⟩ ⟨#[]⟩ 0 0 (.mk 4 0 ⟨#[120]⟩ []) (.mk 4 0 ⟨#[121]⟩ []) [stLet ⟨#[97]⟩] [stLet ⟨#[66]⟩] [] []
theorem ev1 : chkL [stGet] = (0, 0) := by decide +kernel
theorem ev2 : chkL [stGet, stTwo] = (1, 160) := by decide +kernel
theorem ev3 : chkL [stSame] = (2, 160) := by decide +kernel
theorem ev4 : chkL [stGet, stClk] = (0, 0) := by decide +kernel
theorem ev5 : (usesL [stGet, stClk]).a = 1 ∧ (usesL [stGet, stClk]).m = true ∧ (usesL [stGet, stClk]).r = true := by decide +kernel
def nsX : List Na := [(⟨#[120]⟩, .mk 1 7 ⟨#[]⟩ [] 0)]
def exL : Ex := .mk 3 0 ⟨#[]⟩ [.mk 4 0 ⟨#[120]⟩ [], .mk 1 1 ⟨#[]⟩ []]
theorem ev6 : (workV nsX exL).2 = 0 := by decide +kernel
theorem ev7 : (workV nsX exL).1 = .mk 3 0 ⟨#[]⟩ [.mk 1 7 ⟨#[]⟩ [] 0, .mk 1 1 ⟨#[]⟩ [] 0] 0 := by kernel_rfl
theorem ev8 : mayN ⟨#[97, 49]⟩ = true := by decide +kernel
theorem ev9 : mayN ⟨#[49, 97]⟩ = false := by decide +kernel

def svGet : SV := { SV.zero with op := 2, nm := ⟨#[120]⟩, ab := 1, a0 := 4, a2 := ⟨#[121]⟩ }
def svTwo : SV := { SV.zero with op := 2, nm := ⟨#[120]⟩, ab := 3, a0 := 4, a2 := ⟨#[121]⟩, b0 := 1, b1 := 1 }
def svRep : SV := { SV.zero with op := 7, a0 := 4, a2 := ⟨#[105, 116]⟩ }
def svClk (b : Nat) : SV := { SV.zero with op := 3, nm := ⟨#[122]⟩, wh := 12, cA := some ⟨b, 0, Option.none⟩, cl := 1, cc := 1 }
def svLet (s : ByteArray) : SV := { SV.zero with op := 1, nm := s, a0 := 1, a1 := 1 }
def svSame (t e : Nat) : SV := { SV.zero with op := 5, a0 := 4, a2 := ⟨#[120]⟩, b0 := 4, b2 := ⟨#[121]⟩, tA := some ⟨t, 0, Option.none⟩, tl := 1, tc := 1, eA := some ⟨e, 0, Option.none⟩, el := 1, ec := 1 }
theorem isGet (w : World) (R : Nat → Nat → Prop) : IsStR w R svGet stGet := by
  unfold IsStR stGet
  exact ⟨⟨rfl, rfl, rfl, rfl, rfl⟩, by decide, isLeaf w R 4 0 _ (by decide) (by decide) (by decide), zE_is w R, LR_nil, LR_nil, LR_nil, isSs_nil w R⟩
theorem isTwo (w : World) (R : Nat → Nat → Prop) : IsStR w R svTwo stTwo := by
  unfold IsStR stTwo
  exact ⟨⟨rfl, rfl, rfl, rfl, rfl⟩, by decide, isLeaf w R 4 0 _ (by decide) (by decide) (by decide), isLeaf w R 1 1 _ (by decide) (by decide) (by decide), LR_nil, LR_nil, LR_nil, isSs_nil w R⟩
theorem isRep (w : World) (R : Nat → Nat → Prop) : IsStR w R svRep stRep := by
  unfold IsStR stRep
  exact ⟨⟨rfl, rfl, rfl, rfl, rfl⟩, by decide, isLeaf w R 4 0 _ (by decide) (by decide) (by decide), zE_is w R, LR_nil, LR_nil, LR_nil, isSs_nil w R⟩
theorem isLet (w : World) (R : Nat → Nat → Prop) (s : ByteArray) (h : s.size ≤ 140737488351232) : IsStR w R (svLet s) (stLet s) := by
  unfold IsStR stLet
  exact ⟨⟨rfl, rfl, rfl, rfl, rfl⟩, ⟨by decide, by decide, by decide, by decide, by decide, by decide, h, by decide⟩, isLeaf w R 1 1 ⟨#[]⟩ (by decide) (by decide) (by decide), zE_is w R, LR_nil, LR_nil, LR_nil, isSs_nil w R⟩
theorem isClk {w : World} {R : Nat → Nat → Prop} {b : Nat} {T : TypeId} (hb : BlkN w b T svRep.arr) (hR : R b 0) : IsStR w R (svClk b) stClk := by
  unfold IsStR stClk
  exact ⟨⟨rfl, rfl, rfl, rfl, rfl⟩, by decide, zE_is w R, zE_is w R, LR_nil, LR_nil, LR_one hb hR (isRep w R), isSs_nil w R⟩
theorem isSame {w : World} {R : Nat → Nat → Prop} {t e : Nat} {T U : TypeId} (ht : BlkN w t T (svLet ⟨#[97]⟩).arr) (he : BlkN w e U (svLet ⟨#[66]⟩).arr) (h1 : R t 0) (h2 : R e 0) : IsStR w R (svSame t e) stSame := by
  unfold IsStR stSame
  exact ⟨⟨rfl, rfl, rfl, rfl, rfl⟩, by decide, isLeaf w R 4 0 ⟨#[120]⟩ (by decide) (by decide) (by decide), isLeaf w R 4 0 ⟨#[121]⟩ (by decide) (by decide) (by decide), LR_one ht h1 (isLet w R _ (by decide)), LR_one he h2 (isLet w R _ (by decide)), LR_nil, isSs_nil w R⟩
theorem check_get (w : World) (b : Nat) {T : TypeId} (hb : BlkN w b T svGet.arr) : Calls Try.prog 28 #[.slice (some ⟨b, 0, Option.none⟩) 1 1] w fun e w' => e = .returned (.tuple #[.int .i64 0, .int .i64 0]) ∧ Below w.heap.size w w' := by
  have h := Check_any [stGet] _ 1 1 w w.heap.size (Nat.le_refl _) (LR_one hb hb.lt (isGet w _))
  rw [ev1] at h
  exact h
theorem check_two (w : World) (b : Nat) {T : TypeId} (hb : BlkN w b T (svGet.arr ++ svTwo.arr)) : Calls Try.prog 28 #[.slice (some ⟨b, 0, Option.none⟩) 2 2] w fun e w' => e = .returned (.tuple #[.int .i64 1, .int .i64 160]) ∧ Below w.heap.size w w' := by
  have h := Check_any [stGet, stTwo] _ 2 2 w w.heap.size (Nat.le_refl _) (LR_two hb hb.lt (isGet w _) (isTwo w _))
  rw [ev2] at h
  exact h
theorem check_same (w : World) (b t e : Nat) {T U V : TypeId} (hb : BlkN w b T (svSame t e).arr) (ht : BlkN w t U (svLet ⟨#[97]⟩).arr) (he : BlkN w e V (svLet ⟨#[66]⟩).arr) : Calls Try.prog 28 #[.slice (some ⟨b, 0, Option.none⟩) 1 1] w fun e w' => e = .returned (.tuple #[.int .i64 2, .int .i64 160]) ∧ Below w.heap.size w w' := by
  have h := Check_any [stSame] _ 1 1 w w.heap.size (Nat.le_refl _) (LR_one hb hb.lt (isSame ht he ht.lt he.lt))
  rw [ev3] at h
  exact h
theorem uses_clk (w : World) (b c : Nat) {T U : TypeId} (hb : BlkN w b T (svGet.arr ++ (svClk c).arr)) (hc : BlkN w c U svRep.arr) : Calls Try.prog 35 #[.slice (some ⟨b, 0, Option.none⟩) 2 2] w fun e w' => e = .returned (.tuple #[.agg #[.int .u8 1, .bool true, .bool true], .int .i64 0]) ∧ Below w.heap.size w w' := by
  have h := Uses_any [stGet, stClk] _ 2 2 w w.heap.size (Nat.le_refl _) (LR_two hb hb.lt (isGet w _) (isClk hc hc.lt))
  rw [ev4] at h
  have e : (usesL [stGet, stClk]).arr = #[.int .u8 1, .bool true, .bool true] := by unfold US.arr; rw [ev5.1, ev5.2.1, ev5.2.2]
  rw [e] at h
  exact h
theorem work_lives (w : World) (b c : Nat) {T U : TypeId} (hb : BlkN w b T #[.string ⟨#[120]⟩, .int .u8 1, .int .i64 7, .string ⟨#[]⟩, .slice Option.none 0 0, .int .i64 0]) (hc : BlkN w c U #[.int .u8 4, .int .i64 0, .string ⟨#[120]⟩, .slice Option.none 0 0, .int .u8 1, .int .i64 1, .string ⟨#[]⟩, .slice Option.none 0 0]) :
    Calls Try.prog 19 #[.slice (some ⟨b, 0, Option.none⟩) 1 1, .agg #[.int .u8 3, .int .i64 0, .string ⟨#[]⟩, .slice (some ⟨c, 0, Option.none⟩) 2 2]] w fun e w' =>
      ∃ (d o cap : Nat), 2 ≤ cap ∧ e = .returned (.tuple #[.agg #[.int .u8 3, .int .i64 0, .string ⟨#[]⟩, .slice (some ⟨d, o, Option.none⟩) 2 cap, .int .i64 0], .int .i64 0]) ∧ w'.cell? ⟨d, o + 1, Option.none⟩ = some (.int .i64 7) ∧ Below w.heap.size w w' := by
  have hx : IsEx w w.heap.size (.agg #[.int .u8 3, .int .i64 0, .string ⟨#[]⟩, .slice (some ⟨c, 0, Option.none⟩) 2 2]) exL := by
    unfold exL IsEx IsExR
    refine ⟨by decide, by decide, by decide, by simp, _, 2, by simp, rfl, fun _ => ⟨c, 0, hc.lt, rfl, ?_⟩⟩
    unfold IsExsR
    refine ⟨⟨_, _, _, _, fun j v hv => hc.cell (0 + j) ?_, isLeaf w _ 4 0 ⟨#[120]⟩ (by decide) (by decide) (by decide)⟩, ?_⟩
    · rw [Nat.zero_add]
      match j, hv with
      | 0, hv => exact hv
      | 1, hv => exact hv
      | 2, hv => exact hv
      | 3, hv => exact hv
    · unfold IsExsR
      refine ⟨⟨_, _, _, _, fun j v hv => hc.cell (0 + 4 + j) ?_, isLeaf w _ 1 1 ⟨#[]⟩ (by decide) (by decide) (by decide)⟩, by unfold IsExsR; trivial⟩
      match j, hv with
      | 0, hv => exact hv
      | 1, hv => exact hv
      | 2, hv => exact hv
      | 3, hv => exact hv
  have hn : IsNs w w.heap.size (.slice (some ⟨b, 0, Option.none⟩) 1 1) nsX := by
    unfold nsX
    refine ⟨by decide, _, 1, by decide, rfl, fun _ => ⟨b, 0, hb.lt, rfl, ?_⟩⟩
    unfold IsNasR
    refine ⟨⟨by decide, .int .u8 1, .int .i64 7, .string ⟨#[]⟩, .slice Option.none 0 0, .int .i64 0, fun j v hv => hb.cell (0 + j) ?_, ?_⟩, by unfold IsNasR; trivial⟩
    · rw [Nat.zero_add]
      match j, hv with
      | 0, hv => exact hv
      | 1, hv => exact hv
      | 2, hv => exact hv
      | 3, hv => exact hv
      | 4, hv => exact hv
      | 5, hv => exact hv
    · unfold IsVaR
      exact ⟨by decide, by decide, by decide, by decide, Option.none, 0, Nat.le_refl _, rfl, fun h => absurd rfl h⟩
  refine (Work_any w hx hn (Nat.le_refl _)).mono ?_
  rintro e w' ⟨v', rfl, hv, hB⟩
  rw [ev7] at hv
  rw [ev6]
  unfold IsVaR at hv
  obtain ⟨_, _, _, _, A, cap, hcap, rfl, hl⟩ := hv
  obtain ⟨d, o, hR, rfl, hvs⟩ := hl (by simp)
  unfold IsVasR at hvs
  obtain ⟨⟨c0, c1, c2, c3, c4, hat, hx1⟩, _⟩ := hvs
  unfold IsVaR at hx1
  obtain ⟨_, _, _, _, A', cap', _, he, _⟩ := hx1
  simp only [Value.agg.injEq, Array.mk.injEq, List.cons.injEq, and_true] at he
  refine ⟨d, o, cap, hcap, rfl, ?_, hB⟩
  have := hat 1 c1 rfl
  rw [he.2.1] at this
  exact this
end Go.Proofs.Ytnknefdpglnbnaa
