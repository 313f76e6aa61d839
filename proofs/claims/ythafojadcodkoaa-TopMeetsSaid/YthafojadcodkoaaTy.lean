/- side, edge, form. -/
import Derived.Test.YthafojadcodkoaaTw
import Derived.Test.YthafojadcodkoaaTx
import Derived.Test.YthafojadcodkoaaTi
namespace Go.Proofs.Ythafojadcodkoaa
open Go.RowKit

theorem Oper_mono2 {P : Program} {o : Oper} {a : Act} {w : World} {K K' : Act → World → Prop} {Q Q' : Exit → Act → World → Prop} (h : ∀ a w, K a w → K' a w) (hp : ∀ c a w, Q (.panic c) a w → Q' (.panic c) a w) (hl : LetsOut Q → LetsOut Q')
    (hh : o.wp P a w K Q) : o.wp P a w K' Q' := by
  unfold Oper.wp at *
  generalize (execOp a.eval o).run P w = r at *
  cases r with
  | ok n w' =>
    cases n <;> simp only [Oper.upon] at hh ⊢ <;>
      first
        | exact h _ _ hh
        | exact Calls.mono hh (fun e w'' he => by cases e <;> first | exact h _ _ he | exact hp _ _ _ he | exact hl he)
        | exact Rows.mono hh (fun _ _ he => h _ _ he)
  | halt x w' => cases x <;> simp only [Oper.upon] at hh ⊢ <;> first | exact hh | exact hp _ _ _ hh | exact hl hh
theorem below_upd {n q : Nat} {w w' w2 : World} (h : Below n w w') (k : Upd q w' w2) (hq : n ≤ q) (hn : n ≤ w'.heap.size) : Below n w w2 :=
  ⟨k.os.trans h.os, k.tape.trans h.tape, k.output.trans h.output, Nat.le_trans h.size k.size, fun i hi => (k.block i (by omega) (by omega)).trans (h.block i hi)⟩
theorem wpList_cut {P : Program} {ops : Array Oper} {Q : Exit → Act → World → Prop} {R : Act → World → Prop} : ∀ (k : Nat) (l : List Oper) (a : Act) (w : World),
    wpList P ops (fun e a w => e = .normal ∧ R a w) (l.take k) a w → (∀ a w, R a w → wpList P ops Q (l.drop k) a w) → wpList P ops Q l a w
  | 0, l, a, w, h, hR => by rw [List.take_zero] at h; unfold wpList at h; exact hR a w h.2
  | _ + 1, [], a, w, h, hR => by rw [List.take_nil] at h; unfold wpList at h; have := hR a w h.2; simpa using this
  | k + 1, o :: l, a, w, h, hR => by
    rw [List.take_succ_cons] at h
    unfold wpList at h ⊢
    split at h
    · rename_i hw
      rw [if_pos hw]
      refine h.imp (Oper_mono2 (fun a w h => wpList_cut k l a w h hR) (fun c a w h => (by cases h.1)) fun ⟨a, w, h⟩ => (by cases h.1)) fun h => ⟨h.1, ?_⟩
      obtain ⟨_, _, h, _⟩ := h.2
      cases h
    · rename_i hw
      rw [if_neg hw]
      exact wpList_cut k l _ w h hR
section
variable {w : World} {hi p tm fm : Nat} {ps cs : Value} {mA : Option Addr} {ml mc : Nat} {L : List Ent} {FL : List ((Int × Nat) × Int)} {lt : Int}
attribute [local irreducible] wpList
set_option maxRecDepth 100000 in
theorem side_any (h : Wd w hi p tm fm ps cs (.slice mA ml mc) L FL lt) (n : Int) : Calls Try.prog 35 #[.pointer (some ⟨p, 0, Option.none⟩), .int .i64 n] w fun e w' => e = .returned (.bool (decide (0 ≤ n ∧ n < ml))) ∧ w = w' := by
  have C13 := Lib.hid (sides_any h)
  clear h
  go_enter Try.func35, Try.ntmps35
  go_wp2_with (first | (go_at_call 13; refine C13.out.mono ?_; rintro e w' ⟨rfl, rfl⟩))
  all_goals (go_ret; refine ⟨?_, rfl⟩; simp; try omega)
set_option maxRecDepth 100000 in
theorem edge_any (h : Wd w hi p tm fm ps cs (.slice mA ml mc) L FL lt) (n : Int) : Calls Try.prog 32 #[.pointer (some ⟨p, 0, Option.none⟩), .int .i64 n] w fun e w' => e = .returned (.bool (decide (0 < n ∧ n < ml))) ∧ w = w' := by
  have C13 := Lib.hid (sides_any h)
  clear h
  go_enter Try.func32, Try.ntmps32
  go_wp2_with (first | (go_at_call 13; refine C13.out.mono ?_; rintro e w' ⟨rfl, rfl⟩))
  all_goals (go_ret; refine ⟨?_, rfl⟩; simp; try omega)
/-- What a thing's form promises. -/
def FormP (ml : Nat) (s : WV) (x : Pt) : Prop := (s.k ≠ 14 → 0 ≤ s.home ∧ s.home < ml) ∧ (s.k = 14 → s.set < 64) ∧ ofCode x.vs = 0 ∧ s.nl ≤ 64 ∧ mayV x.v = true
set_option maxRecDepth 100000 in
set_option maxHeartbeats 100000000 in
theorem form_any (h : Wd w hi p tm fm ps cs (.slice mA ml mc) L FL lt) (s : WV) (x : Pt) {B : Nat} (hx : IsWh w (fun b _ => b < B) s x) (hB : B ≤ w.heap.size) :
    Calls Try.prog 15 #[.pointer (some ⟨p, 0, Option.none⟩), .agg #[.int .u8 s.k, .int .i64 s.home, .int .u8 s.v0, .int .i64 s.v1, .string s.v2, .slice s.vA s.vl s.vc, .int .i64 s.v4, .slice s.sA s.sl s.sc, .int .i64 s.n, .int .i64 s.lost, .int .i64 s.of_, .int .i64 s.by_, .int .u8 s.set, .bool s.full, .slice s.cA s.cl s.cc, .slice s.nA s.nl s.nc]] w fun e w' => Below w.heap.size w w' ∧ ∃ β : Bool, e = .returned (.bool β) ∧ (β = true → FormP ml s x) := by
  obtain ⟨⟨hk0, hk1, hset⟩, hv, hvs, hcd, hnm⟩ := hx
  have C35 : Hid (∀ w', Below w.heap.size w w' → Calls Try.prog 35 #[.pointer (some ⟨p, 0, Option.none⟩), .int .i64 s.home] w' fun e w2 => e = .returned (.bool (decide (0 ≤ s.home ∧ s.home < ml))) ∧ w' = w2) := Lib.hid fun w' hb => side_any (h.below hb) _
  have C36 : Hid (∀ w', Below w.heap.size w w' → Calls Try.prog 36 #[.agg #[.int .u8 s.v0, .int .i64 s.v1, .string s.v2, .slice s.vA s.vl s.vc, .int .i64 s.v4]] w' fun e w2 => e = .returned (.bool (mayV x.v)) ∧ Below w'.heap.size w' w2) := Lib.hid fun w' hb => vmay_any w' (IsVaR.keep (fun b o hb' => hb.block b (Nat.lt_of_lt_of_le hb' hB)) hv) (Nat.le_trans hB hb.size)
  have C37 : Hid (∀ w', Below w.heap.size w w' → Calls Try.prog 37 #[.slice s.sA s.sl s.sc] w' fun e w2 => Below w'.heap.size w' w2 ∧ ∃ (k n : Int) (z : ByteArray) (A' : Option Addr) (len' cap' : Nat) (r : Int), e = .returned (.tuple #[.agg #[.int .u8 k, .int .i64 n, .string z, .slice A' len' cap', .int .i64 r], .int .i64 (ofCode x.vs)])) := Lib.hid fun w' hb => of37_any w' (hvs.imp fun b o hb' hp => ⟨hb', IsVasR.keep (fun b o hb' => hb.block b (Nat.lt_of_lt_of_le hb' hB)) (hb.block b (Nat.lt_of_lt_of_le hb' hB)) hp⟩) (Nat.le_trans hB hb.size)
  have C38 : Hid (∀ w' q, Below w.heap.size w w' → w.heap.size ≤ q → BlkN w' q 3 #[.int .i64 0] → Calls Try.prog 38 #[.slice s.cA s.cl s.cc, .pointer (some ⟨q, 0, Option.none⟩)] w' fun e w2 => ∃ (β : Bool) (m' : Int), e = .returned (.bool β) ∧ BlkN w2 q 3 #[.int .i64 m'] ∧ Upd q w' w2) := Lib.hid fun w' q hb hq hbl => small_any x.cd w' B q s.cA s.cl s.cc 0 (hcd.imp fun b o hb' hp => ⟨hb', IsStsR.keep (fun b o hb' => hb.block b (Nat.lt_of_lt_of_le hb' hB)) (hb.block b (Nat.lt_of_lt_of_le hb' hB)) hp⟩) (by omega) hbl
  have C39 := Lib.hid (fun w' => may_any s.set hset w')
  have C33 := Lib.hid (fun w' => bare_any w' s)
  have HNM := Lib.hid hnm
  obtain ⟨hnle, hncap, hnsz, -⟩ := hnm
  have hnl : s.nl ≤ 140737488351232 := by omega
  have HNL := Lib.hid hnle
  have hncap : s.nl ≤ s.nc := by omega
  clear hnle hnsz
  clear h hv hvs hcd hset
  obtain ⟨P, hP1, hP2⟩ : ∃ P : Ending → World → Prop, (∀ (w' : World) (β : Bool), Below w.heap.size w w' → (β = true → FormP ml s x) → P (.returned (.bool β)) w') ∧ (∀ e w', P e w' → Below w.heap.size w w' ∧ ∃ β : Bool, e = .returned (.bool β) ∧ (β = true → FormP ml s x)) := ⟨_, fun w' β h1 h2 => ⟨h1, β, rfl, h2⟩, fun e w' h => h⟩
  refine Calls.mono (R := P) ?_ hP2
  have HP := Lib.hid hP1
  clear hP1 hP2
  go_enter Try.func15, Try.ntmps15
  go_upto_region 2 with (go_at_call 33; refine (C33.out _).mono ?_; rintro e w1 ⟨hb1, v, rfl, k1, h1, b0, b1, b2, bA, bl, bc, b4, zA, zl, zc, n1, lost1, of1, by1, set1, full1, xA, xl, xc, yA, yl, yc, rfl⟩; have HB1 := Lib.hid hb1; clear hb1)
  obtain ⟨W, hW⟩ : ∃ W, W = w1.alloc (.cells #[.int .u8 k1, .int .i64 h1, .int .u8 b0, .int .i64 b1, .string b2, .slice bA bl bc, .int .i64 b4, .slice zA zl zc, .int .i64 n1, .int .i64 lost1, .int .i64 of1, .int .i64 by1, .int .u8 set1, .bool full1, .slice xA xl xc, .slice yA yl yc] 53) := ⟨_, rfl⟩
  have HB : Hid (Below w.heap.size w W) := Lib.hid (by rw [hW]; exact Below.al ((Below.al (Below.refl _ _)).trans (HB1.out.mono (by simp))))
  have HS : Hid (BlkN W w.heap.size 53 s.arr) := Lib.hid (by rw [hW]; exact ((BlkN.at_ rfl _ _).below HB1.out).alloc _)
  have HT : Hid (BlkN W w1.heap.size 53 #[.int .u8 k1, .int .i64 h1, .int .u8 b0, .int .i64 b1, .string b2, .slice bA bl bc, .int .i64 b4, .slice zA zl zc, .int .i64 n1, .int .i64 lost1, .int .i64 of1, .int .i64 by1, .int .u8 set1, .bool full1, .slice xA xl xc, .slice yA yl yc]) := Lib.hid (by rw [hW]; exact BlkN.at_ rfl _ _)
  have hsz1 : w.heap.size < w1.heap.size := by have := HB1.out.size; simp at this; omega
  rw [← hW]
  clear hW HB1 C33
  have q0 := HS.out.cell 0 s.at0
  have q1 := HS.out.cell 1 s.at1
  have q4 := HS.out.cell 4 s.at4
  have q5 := HS.out.cell 5 s.at5
  have q6 := HS.out.cell 6 s.at6
  have q7 := HS.out.cell 7 s.at7
  have q8 := HS.out.cell 8 s.at8
  have q9 := HS.out.cell 9 s.at9
  have q10 := HS.out.cell 10 s.at10
  have q11 := HS.out.cell 11 s.at11
  have q12 := HS.out.cell 12 s.at12
  have q13 := HS.out.cell 13 s.at13
  have q14 := HS.out.cell 14 s.at14
  have q15 := HS.out.cell 15 s.at15
  have r1 := HT.out.cell (v := .int .i64 h1) 1 rfl
  have r8 := HT.out.cell (v := .int .i64 n1) 8 rfl
  have r9 := HT.out.cell (v := .int .i64 lost1) 9 rfl
  have r10 := HT.out.cell (v := .int .i64 of1) 10 rfl
  have r11 := HT.out.cell (v := .int .i64 by1) 11 rfl
  have r12 := HT.out.cell (v := .int .u8 set1) 12 rfl
  have r13 := HT.out.cell (v := .bool full1) 13 rfl
  refine wp_region_lit ?_
  refine wpList_cut (R := fun a w2 => W = w2 ∧ ∃ (β20 : Bool) (x13 x14 x15 x16 x17 x18 x19 : Value), True ∧ a = ⟨#[.pointer (some ⟨p, 0, Option.none⟩), .agg #[.int .u8 s.k, .int .i64 s.home, .int .u8 s.v0, .int .i64 s.v1, .string s.v2, .slice s.vA s.vl s.vc, .int .i64 s.v4, .slice s.sA s.sl s.sc, .int .i64 s.n, .int .i64 s.lost, .int .i64 s.of_, .int .i64 s.by_, .int .u8 s.set, .bool s.full, .slice s.cA s.cl s.cc, .slice s.nA s.nl s.nc], undef, .pointer (some ⟨w.heap.size, 0, Option.none⟩), .bool false, .pointer (some ⟨w1.heap.size, 0, Option.none⟩), undef, undef, undef, undef, undef, .agg #[.int .u8 s.k, .int .i64 s.home, .int .u8 s.v0, .int .i64 s.v1, .string s.v2, .slice s.vA s.vl s.vc, .int .i64 s.v4, .slice s.sA s.sl s.sc, .int .i64 s.n, .int .i64 s.lost, .int .i64 s.of_, .int .i64 s.by_, .int .u8 s.set, .bool s.full, .slice s.cA s.cl s.cc, .slice s.nA s.nl s.nc], .agg #[.int .u8 k1, .int .i64 h1, .int .u8 b0, .int .i64 b1, .string b2, .slice bA bl bc, .int .i64 b4, .slice zA zl zc, .int .i64 n1, .int .i64 lost1, .int .i64 of1, .int .i64 by1, .int .u8 set1, .bool full1, .slice xA xl xc, .slice yA yl yc], x13, x14, x15, x16, x17, x18, x19, .bool β20, undef, undef, undef, undef, undef, undef, undef, undef, undef, undef, undef, undef, undef, undef, undef, undef, undef, undef, undef, undef, undef, undef, undef, undef, undef, undef, undef, undef, undef, undef, undef, undef, undef, undef, undef, undef, undef, undef, undef, undef, undef, undef, undef, undef, undef, undef, undef, undef, undef, undef, undef, undef, undef, undef, undef, undef, undef, undef, undef, undef, undef, undef, undef, undef, undef, undef, undef, undef, undef, undef, undef, undef, undef, undef, undef, undef, undef, undef, undef, undef, undef, undef, undef, undef, undef, undef, undef, undef, undef, undef, undef, undef, undef, undef, undef, undef, undef, undef, undef, undef, undef, undef, undef, undef, undef, undef, undef, undef, undef, undef, undef, undef, undef, undef, undef, undef, undef, undef, undef, undef, undef, undef, undef, undef, undef, undef, undef, undef, undef, undef, undef, undef, undef, undef, undef, undef, undef, undef, undef, undef, undef, undef, undef, undef, undef, undef, undef, undef, undef, undef, undef, undef, undef, undef, undef, undef, undef, undef, undef, undef, undef, undef, undef, undef, undef, undef, undef, undef, undef, undef, undef, undef], []⟩) 8 _ _ _ ?_ ?_
  · simp only [List.take_succ_cons, List.take_zero]
    go_wp2_with (fail)
    all_goals first | exact ⟨rfl, rfl, _, _, _, _, _, _, _, _, trivial, rfl⟩ | exact Decidable.em _ | trivial
  rintro a _ ⟨rfl, β20, x13, x14, x15, x16, x17, x18, x19, hex, rfl⟩
  simp only [List.drop_succ_cons, List.drop_zero]
  refine wpList_cut (R := fun a w2 => W = w2 ∧ ∃ (β27 : Bool) (x21 x22 x23 x24 x25 x26 : Value), True ∧ a = ⟨#[.pointer (some ⟨p, 0, Option.none⟩), .agg #[.int .u8 s.k, .int .i64 s.home, .int .u8 s.v0, .int .i64 s.v1, .string s.v2, .slice s.vA s.vl s.vc, .int .i64 s.v4, .slice s.sA s.sl s.sc, .int .i64 s.n, .int .i64 s.lost, .int .i64 s.of_, .int .i64 s.by_, .int .u8 s.set, .bool s.full, .slice s.cA s.cl s.cc, .slice s.nA s.nl s.nc], undef, .pointer (some ⟨w.heap.size, 0, Option.none⟩), .bool false, .pointer (some ⟨w1.heap.size, 0, Option.none⟩), undef, undef, undef, undef, undef, .agg #[.int .u8 s.k, .int .i64 s.home, .int .u8 s.v0, .int .i64 s.v1, .string s.v2, .slice s.vA s.vl s.vc, .int .i64 s.v4, .slice s.sA s.sl s.sc, .int .i64 s.n, .int .i64 s.lost, .int .i64 s.of_, .int .i64 s.by_, .int .u8 s.set, .bool s.full, .slice s.cA s.cl s.cc, .slice s.nA s.nl s.nc], .agg #[.int .u8 k1, .int .i64 h1, .int .u8 b0, .int .i64 b1, .string b2, .slice bA bl bc, .int .i64 b4, .slice zA zl zc, .int .i64 n1, .int .i64 lost1, .int .i64 of1, .int .i64 by1, .int .u8 set1, .bool full1, .slice xA xl xc, .slice yA yl yc], x13, x14, x15, x16, x17, x18, x19, .bool β20, x21, x22, x23, x24, x25, x26, .bool β27, undef, undef, undef, undef, undef, undef, undef, undef, undef, undef, undef, undef, undef, undef, undef, undef, undef, undef, undef, undef, undef, undef, undef, undef, undef, undef, undef, undef, undef, undef, undef, undef, undef, undef, undef, undef, undef, undef, undef, undef, undef, undef, undef, undef, undef, undef, undef, undef, undef, undef, undef, undef, undef, undef, undef, undef, undef, undef, undef, undef, undef, undef, undef, undef, undef, undef, undef, undef, undef, undef, undef, undef, undef, undef, undef, undef, undef, undef, undef, undef, undef, undef, undef, undef, undef, undef, undef, undef, undef, undef, undef, undef, undef, undef, undef, undef, undef, undef, undef, undef, undef, undef, undef, undef, undef, undef, undef, undef, undef, undef, undef, undef, undef, undef, undef, undef, undef, undef, undef, undef, undef, undef, undef, undef, undef, undef, undef, undef, undef, undef, undef, undef, undef, undef, undef, undef, undef, undef, undef, undef, undef, undef, undef, undef, undef, undef, undef, undef, undef, undef, undef, undef, undef, undef, undef, undef, undef, undef, undef, undef, undef, undef, undef, undef, undef], []⟩) 7 _ _ _ ?_ ?_
  · simp only [List.take_succ_cons, List.take_zero]
    go_wp2_with (fail)
    all_goals first | exact ⟨rfl, rfl, _, _, _, _, _, _, _, trivial, rfl⟩ | exact Decidable.em _ | trivial
  rintro a _ ⟨rfl, β27, x21, x22, x23, x24, x25, x26, hex, rfl⟩
  simp only [List.drop_succ_cons, List.drop_zero]
  refine wpList_cut (R := fun a w2 => W = w2 ∧ ∃ (β34 : Bool) (x28 x29 x30 x31 x32 x33 : Value), True ∧ a = ⟨#[.pointer (some ⟨p, 0, Option.none⟩), .agg #[.int .u8 s.k, .int .i64 s.home, .int .u8 s.v0, .int .i64 s.v1, .string s.v2, .slice s.vA s.vl s.vc, .int .i64 s.v4, .slice s.sA s.sl s.sc, .int .i64 s.n, .int .i64 s.lost, .int .i64 s.of_, .int .i64 s.by_, .int .u8 s.set, .bool s.full, .slice s.cA s.cl s.cc, .slice s.nA s.nl s.nc], undef, .pointer (some ⟨w.heap.size, 0, Option.none⟩), .bool false, .pointer (some ⟨w1.heap.size, 0, Option.none⟩), undef, undef, undef, undef, undef, .agg #[.int .u8 s.k, .int .i64 s.home, .int .u8 s.v0, .int .i64 s.v1, .string s.v2, .slice s.vA s.vl s.vc, .int .i64 s.v4, .slice s.sA s.sl s.sc, .int .i64 s.n, .int .i64 s.lost, .int .i64 s.of_, .int .i64 s.by_, .int .u8 s.set, .bool s.full, .slice s.cA s.cl s.cc, .slice s.nA s.nl s.nc], .agg #[.int .u8 k1, .int .i64 h1, .int .u8 b0, .int .i64 b1, .string b2, .slice bA bl bc, .int .i64 b4, .slice zA zl zc, .int .i64 n1, .int .i64 lost1, .int .i64 of1, .int .i64 by1, .int .u8 set1, .bool full1, .slice xA xl xc, .slice yA yl yc], x13, x14, x15, x16, x17, x18, x19, .bool β20, x21, x22, x23, x24, x25, x26, .bool β27, x28, x29, x30, x31, x32, x33, .bool β34, undef, undef, undef, undef, undef, undef, undef, undef, undef, undef, undef, undef, undef, undef, undef, undef, undef, undef, undef, undef, undef, undef, undef, undef, undef, undef, undef, undef, undef, undef, undef, undef, undef, undef, undef, undef, undef, undef, undef, undef, undef, undef, undef, undef, undef, undef, undef, undef, undef, undef, undef, undef, undef, undef, undef, undef, undef, undef, undef, undef, undef, undef, undef, undef, undef, undef, undef, undef, undef, undef, undef, undef, undef, undef, undef, undef, undef, undef, undef, undef, undef, undef, undef, undef, undef, undef, undef, undef, undef, undef, undef, undef, undef, undef, undef, undef, undef, undef, undef, undef, undef, undef, undef, undef, undef, undef, undef, undef, undef, undef, undef, undef, undef, undef, undef, undef, undef, undef, undef, undef, undef, undef, undef, undef, undef, undef, undef, undef, undef, undef, undef, undef, undef, undef, undef, undef, undef, undef, undef, undef, undef, undef, undef, undef, undef, undef, undef, undef, undef, undef, undef, undef, undef, undef, undef, undef, undef, undef], []⟩) 7 _ _ _ ?_ ?_
  · simp only [List.take_succ_cons, List.take_zero]
    go_wp2_with (fail)
    all_goals first | exact ⟨rfl, rfl, _, _, _, _, _, _, _, trivial, rfl⟩ | exact Decidable.em _ | trivial
  rintro a _ ⟨rfl, β34, x28, x29, x30, x31, x32, x33, hex, rfl⟩
  simp only [List.drop_succ_cons, List.drop_zero]
  refine wpList_cut (R := fun a w2 => W = w2 ∧ ∃ (β41 : Bool) (x35 x36 x37 x38 x39 x40 : Value), True ∧ a = ⟨#[.pointer (some ⟨p, 0, Option.none⟩), .agg #[.int .u8 s.k, .int .i64 s.home, .int .u8 s.v0, .int .i64 s.v1, .string s.v2, .slice s.vA s.vl s.vc, .int .i64 s.v4, .slice s.sA s.sl s.sc, .int .i64 s.n, .int .i64 s.lost, .int .i64 s.of_, .int .i64 s.by_, .int .u8 s.set, .bool s.full, .slice s.cA s.cl s.cc, .slice s.nA s.nl s.nc], undef, .pointer (some ⟨w.heap.size, 0, Option.none⟩), .bool false, .pointer (some ⟨w1.heap.size, 0, Option.none⟩), undef, undef, undef, undef, undef, .agg #[.int .u8 s.k, .int .i64 s.home, .int .u8 s.v0, .int .i64 s.v1, .string s.v2, .slice s.vA s.vl s.vc, .int .i64 s.v4, .slice s.sA s.sl s.sc, .int .i64 s.n, .int .i64 s.lost, .int .i64 s.of_, .int .i64 s.by_, .int .u8 s.set, .bool s.full, .slice s.cA s.cl s.cc, .slice s.nA s.nl s.nc], .agg #[.int .u8 k1, .int .i64 h1, .int .u8 b0, .int .i64 b1, .string b2, .slice bA bl bc, .int .i64 b4, .slice zA zl zc, .int .i64 n1, .int .i64 lost1, .int .i64 of1, .int .i64 by1, .int .u8 set1, .bool full1, .slice xA xl xc, .slice yA yl yc], x13, x14, x15, x16, x17, x18, x19, .bool β20, x21, x22, x23, x24, x25, x26, .bool β27, x28, x29, x30, x31, x32, x33, .bool β34, x35, x36, x37, x38, x39, x40, .bool β41, undef, undef, undef, undef, undef, undef, undef, undef, undef, undef, undef, undef, undef, undef, undef, undef, undef, undef, undef, undef, undef, undef, undef, undef, undef, undef, undef, undef, undef, undef, undef, undef, undef, undef, undef, undef, undef, undef, undef, undef, undef, undef, undef, undef, undef, undef, undef, undef, undef, undef, undef, undef, undef, undef, undef, undef, undef, undef, undef, undef, undef, undef, undef, undef, undef, undef, undef, undef, undef, undef, undef, undef, undef, undef, undef, undef, undef, undef, undef, undef, undef, undef, undef, undef, undef, undef, undef, undef, undef, undef, undef, undef, undef, undef, undef, undef, undef, undef, undef, undef, undef, undef, undef, undef, undef, undef, undef, undef, undef, undef, undef, undef, undef, undef, undef, undef, undef, undef, undef, undef, undef, undef, undef, undef, undef, undef, undef, undef, undef, undef, undef, undef, undef, undef, undef, undef, undef, undef, undef, undef, undef, undef, undef, undef, undef, undef, undef, undef, undef, undef, undef], []⟩) 7 _ _ _ ?_ ?_
  · simp only [List.take_succ_cons, List.take_zero]
    go_wp2_with (fail)
    all_goals first | exact ⟨rfl, rfl, _, _, _, _, _, _, _, trivial, rfl⟩ | exact Decidable.em _ | trivial
  rintro a _ ⟨rfl, β41, x35, x36, x37, x38, x39, x40, hex, rfl⟩
  simp only [List.drop_succ_cons, List.drop_zero]
  refine wpList_cut (R := fun a w2 => W = w2 ∧ ∃ (β48 : Bool) (x42 x43 x44 x45 x46 x47 : Value), True ∧ a = ⟨#[.pointer (some ⟨p, 0, Option.none⟩), .agg #[.int .u8 s.k, .int .i64 s.home, .int .u8 s.v0, .int .i64 s.v1, .string s.v2, .slice s.vA s.vl s.vc, .int .i64 s.v4, .slice s.sA s.sl s.sc, .int .i64 s.n, .int .i64 s.lost, .int .i64 s.of_, .int .i64 s.by_, .int .u8 s.set, .bool s.full, .slice s.cA s.cl s.cc, .slice s.nA s.nl s.nc], undef, .pointer (some ⟨w.heap.size, 0, Option.none⟩), .bool false, .pointer (some ⟨w1.heap.size, 0, Option.none⟩), undef, undef, undef, undef, undef, .agg #[.int .u8 s.k, .int .i64 s.home, .int .u8 s.v0, .int .i64 s.v1, .string s.v2, .slice s.vA s.vl s.vc, .int .i64 s.v4, .slice s.sA s.sl s.sc, .int .i64 s.n, .int .i64 s.lost, .int .i64 s.of_, .int .i64 s.by_, .int .u8 s.set, .bool s.full, .slice s.cA s.cl s.cc, .slice s.nA s.nl s.nc], .agg #[.int .u8 k1, .int .i64 h1, .int .u8 b0, .int .i64 b1, .string b2, .slice bA bl bc, .int .i64 b4, .slice zA zl zc, .int .i64 n1, .int .i64 lost1, .int .i64 of1, .int .i64 by1, .int .u8 set1, .bool full1, .slice xA xl xc, .slice yA yl yc], x13, x14, x15, x16, x17, x18, x19, .bool β20, x21, x22, x23, x24, x25, x26, .bool β27, x28, x29, x30, x31, x32, x33, .bool β34, x35, x36, x37, x38, x39, x40, .bool β41, x42, x43, x44, x45, x46, x47, .bool β48, undef, undef, undef, undef, undef, undef, undef, undef, undef, undef, undef, undef, undef, undef, undef, undef, undef, undef, undef, undef, undef, undef, undef, undef, undef, undef, undef, undef, undef, undef, undef, undef, undef, undef, undef, undef, undef, undef, undef, undef, undef, undef, undef, undef, undef, undef, undef, undef, undef, undef, undef, undef, undef, undef, undef, undef, undef, undef, undef, undef, undef, undef, undef, undef, undef, undef, undef, undef, undef, undef, undef, undef, undef, undef, undef, undef, undef, undef, undef, undef, undef, undef, undef, undef, undef, undef, undef, undef, undef, undef, undef, undef, undef, undef, undef, undef, undef, undef, undef, undef, undef, undef, undef, undef, undef, undef, undef, undef, undef, undef, undef, undef, undef, undef, undef, undef, undef, undef, undef, undef, undef, undef, undef, undef, undef, undef, undef, undef, undef, undef, undef, undef, undef, undef, undef, undef, undef, undef, undef, undef, undef, undef, undef, undef], []⟩) 7 _ _ _ ?_ ?_
  · simp only [List.take_succ_cons, List.take_zero]
    go_wp2_with (fail)
    all_goals first | exact ⟨rfl, rfl, _, _, _, _, _, _, _, trivial, rfl⟩ | exact Decidable.em _ | trivial
  rintro a _ ⟨rfl, β48, x42, x43, x44, x45, x46, x47, hex, rfl⟩
  simp only [List.drop_succ_cons, List.drop_zero]
  refine wpList_cut (R := fun a w2 => W = w2 ∧ ∃ (β55 : Bool) (x49 x50 x51 x52 x53 x54 : Value), True ∧ a = ⟨#[.pointer (some ⟨p, 0, Option.none⟩), .agg #[.int .u8 s.k, .int .i64 s.home, .int .u8 s.v0, .int .i64 s.v1, .string s.v2, .slice s.vA s.vl s.vc, .int .i64 s.v4, .slice s.sA s.sl s.sc, .int .i64 s.n, .int .i64 s.lost, .int .i64 s.of_, .int .i64 s.by_, .int .u8 s.set, .bool s.full, .slice s.cA s.cl s.cc, .slice s.nA s.nl s.nc], undef, .pointer (some ⟨w.heap.size, 0, Option.none⟩), .bool false, .pointer (some ⟨w1.heap.size, 0, Option.none⟩), undef, undef, undef, undef, undef, .agg #[.int .u8 s.k, .int .i64 s.home, .int .u8 s.v0, .int .i64 s.v1, .string s.v2, .slice s.vA s.vl s.vc, .int .i64 s.v4, .slice s.sA s.sl s.sc, .int .i64 s.n, .int .i64 s.lost, .int .i64 s.of_, .int .i64 s.by_, .int .u8 s.set, .bool s.full, .slice s.cA s.cl s.cc, .slice s.nA s.nl s.nc], .agg #[.int .u8 k1, .int .i64 h1, .int .u8 b0, .int .i64 b1, .string b2, .slice bA bl bc, .int .i64 b4, .slice zA zl zc, .int .i64 n1, .int .i64 lost1, .int .i64 of1, .int .i64 by1, .int .u8 set1, .bool full1, .slice xA xl xc, .slice yA yl yc], x13, x14, x15, x16, x17, x18, x19, .bool β20, x21, x22, x23, x24, x25, x26, .bool β27, x28, x29, x30, x31, x32, x33, .bool β34, x35, x36, x37, x38, x39, x40, .bool β41, x42, x43, x44, x45, x46, x47, .bool β48, x49, x50, x51, x52, x53, x54, .bool β55, undef, undef, undef, undef, undef, undef, undef, undef, undef, undef, undef, undef, undef, undef, undef, undef, undef, undef, undef, undef, undef, undef, undef, undef, undef, undef, undef, undef, undef, undef, undef, undef, undef, undef, undef, undef, undef, undef, undef, undef, undef, undef, undef, undef, undef, undef, undef, undef, undef, undef, undef, undef, undef, undef, undef, undef, undef, undef, undef, undef, undef, undef, undef, undef, undef, undef, undef, undef, undef, undef, undef, undef, undef, undef, undef, undef, undef, undef, undef, undef, undef, undef, undef, undef, undef, undef, undef, undef, undef, undef, undef, undef, undef, undef, undef, undef, undef, undef, undef, undef, undef, undef, undef, undef, undef, undef, undef, undef, undef, undef, undef, undef, undef, undef, undef, undef, undef, undef, undef, undef, undef, undef, undef, undef, undef, undef, undef, undef, undef, undef, undef, undef, undef, undef, undef, undef, undef], []⟩) 7 _ _ _ ?_ ?_
  · simp only [List.take_succ_cons, List.take_zero]
    go_wp2_with (fail)
    all_goals first | exact ⟨rfl, rfl, _, _, _, _, _, _, _, trivial, rfl⟩ | exact Decidable.em _ | trivial
  rintro a _ ⟨rfl, β55, x49, x50, x51, x52, x53, x54, hex, rfl⟩
  simp only [List.drop_succ_cons, List.drop_zero]
  refine wpList_cut (R := fun a w2 => W = w2 ∧ ∃ (β62 : Bool) (x56 x57 x58 x59 x60 x61 : Value), True ∧ a = ⟨#[.pointer (some ⟨p, 0, Option.none⟩), .agg #[.int .u8 s.k, .int .i64 s.home, .int .u8 s.v0, .int .i64 s.v1, .string s.v2, .slice s.vA s.vl s.vc, .int .i64 s.v4, .slice s.sA s.sl s.sc, .int .i64 s.n, .int .i64 s.lost, .int .i64 s.of_, .int .i64 s.by_, .int .u8 s.set, .bool s.full, .slice s.cA s.cl s.cc, .slice s.nA s.nl s.nc], undef, .pointer (some ⟨w.heap.size, 0, Option.none⟩), .bool false, .pointer (some ⟨w1.heap.size, 0, Option.none⟩), undef, undef, undef, undef, undef, .agg #[.int .u8 s.k, .int .i64 s.home, .int .u8 s.v0, .int .i64 s.v1, .string s.v2, .slice s.vA s.vl s.vc, .int .i64 s.v4, .slice s.sA s.sl s.sc, .int .i64 s.n, .int .i64 s.lost, .int .i64 s.of_, .int .i64 s.by_, .int .u8 s.set, .bool s.full, .slice s.cA s.cl s.cc, .slice s.nA s.nl s.nc], .agg #[.int .u8 k1, .int .i64 h1, .int .u8 b0, .int .i64 b1, .string b2, .slice bA bl bc, .int .i64 b4, .slice zA zl zc, .int .i64 n1, .int .i64 lost1, .int .i64 of1, .int .i64 by1, .int .u8 set1, .bool full1, .slice xA xl xc, .slice yA yl yc], x13, x14, x15, x16, x17, x18, x19, .bool β20, x21, x22, x23, x24, x25, x26, .bool β27, x28, x29, x30, x31, x32, x33, .bool β34, x35, x36, x37, x38, x39, x40, .bool β41, x42, x43, x44, x45, x46, x47, .bool β48, x49, x50, x51, x52, x53, x54, .bool β55, x56, x57, x58, x59, x60, x61, .bool β62, undef, undef, undef, undef, undef, undef, undef, undef, undef, undef, undef, undef, undef, undef, undef, undef, undef, undef, undef, undef, undef, undef, undef, undef, undef, undef, undef, undef, undef, undef, undef, undef, undef, undef, undef, undef, undef, undef, undef, undef, undef, undef, undef, undef, undef, undef, undef, undef, undef, undef, undef, undef, undef, undef, undef, undef, undef, undef, undef, undef, undef, undef, undef, undef, undef, undef, undef, undef, undef, undef, undef, undef, undef, undef, undef, undef, undef, undef, undef, undef, undef, undef, undef, undef, undef, undef, undef, undef, undef, undef, undef, undef, undef, undef, undef, undef, undef, undef, undef, undef, undef, undef, undef, undef, undef, undef, undef, undef, undef, undef, undef, undef, undef, undef, undef, undef, undef, undef, undef, undef, undef, undef, undef, undef, undef, undef, undef, undef, undef, undef], []⟩) 7 _ _ _ ?_ ?_
  · simp only [List.take_succ_cons, List.take_zero]
    go_wp2_with (fail)
    all_goals first | exact ⟨rfl, rfl, _, _, _, _, _, _, _, trivial, rfl⟩ | exact Decidable.em _ | trivial
  rintro a _ ⟨rfl, β62, x56, x57, x58, x59, x60, x61, hex, rfl⟩
  simp only [List.drop_succ_cons, List.drop_zero]
  refine wpList_cut (R := fun a w2 => W = w2 ∧ ∃ (β69 : Bool) (x63 x64 x65 x66 x67 x68 : Value), True ∧ a = ⟨#[.pointer (some ⟨p, 0, Option.none⟩), .agg #[.int .u8 s.k, .int .i64 s.home, .int .u8 s.v0, .int .i64 s.v1, .string s.v2, .slice s.vA s.vl s.vc, .int .i64 s.v4, .slice s.sA s.sl s.sc, .int .i64 s.n, .int .i64 s.lost, .int .i64 s.of_, .int .i64 s.by_, .int .u8 s.set, .bool s.full, .slice s.cA s.cl s.cc, .slice s.nA s.nl s.nc], undef, .pointer (some ⟨w.heap.size, 0, Option.none⟩), .bool false, .pointer (some ⟨w1.heap.size, 0, Option.none⟩), undef, undef, undef, undef, undef, .agg #[.int .u8 s.k, .int .i64 s.home, .int .u8 s.v0, .int .i64 s.v1, .string s.v2, .slice s.vA s.vl s.vc, .int .i64 s.v4, .slice s.sA s.sl s.sc, .int .i64 s.n, .int .i64 s.lost, .int .i64 s.of_, .int .i64 s.by_, .int .u8 s.set, .bool s.full, .slice s.cA s.cl s.cc, .slice s.nA s.nl s.nc], .agg #[.int .u8 k1, .int .i64 h1, .int .u8 b0, .int .i64 b1, .string b2, .slice bA bl bc, .int .i64 b4, .slice zA zl zc, .int .i64 n1, .int .i64 lost1, .int .i64 of1, .int .i64 by1, .int .u8 set1, .bool full1, .slice xA xl xc, .slice yA yl yc], x13, x14, x15, x16, x17, x18, x19, .bool β20, x21, x22, x23, x24, x25, x26, .bool β27, x28, x29, x30, x31, x32, x33, .bool β34, x35, x36, x37, x38, x39, x40, .bool β41, x42, x43, x44, x45, x46, x47, .bool β48, x49, x50, x51, x52, x53, x54, .bool β55, x56, x57, x58, x59, x60, x61, .bool β62, x63, x64, x65, x66, x67, x68, .bool β69, undef, undef, undef, undef, undef, undef, undef, undef, undef, undef, undef, undef, undef, undef, undef, undef, undef, undef, undef, undef, undef, undef, undef, undef, undef, undef, undef, undef, undef, undef, undef, undef, undef, undef, undef, undef, undef, undef, undef, undef, undef, undef, undef, undef, undef, undef, undef, undef, undef, undef, undef, undef, undef, undef, undef, undef, undef, undef, undef, undef, undef, undef, undef, undef, undef, undef, undef, undef, undef, undef, undef, undef, undef, undef, undef, undef, undef, undef, undef, undef, undef, undef, undef, undef, undef, undef, undef, undef, undef, undef, undef, undef, undef, undef, undef, undef, undef, undef, undef, undef, undef, undef, undef, undef, undef, undef, undef, undef, undef, undef, undef, undef, undef, undef, undef, undef, undef, undef, undef, undef, undef, undef, undef], []⟩) 7 _ _ _ ?_ ?_
  · simp only [List.take_succ_cons, List.take_zero]
    go_wp2_with (fail)
    all_goals first | exact ⟨rfl, rfl, _, _, _, _, _, _, _, trivial, rfl⟩ | exact Decidable.em _ | trivial
  rintro a _ ⟨rfl, β69, x63, x64, x65, x66, x67, x68, hex, rfl⟩
  simp only [List.drop_succ_cons, List.drop_zero]
  refine RegT.wpList_end ?_
  simp only [Exit.then]
  have r2 := HT.out.cell (v := .int .u8 b0) 2 rfl
  have r3 := HT.out.cell (v := .int .i64 b1) 3 rfl
  have r4 := HT.out.cell (v := .string b2) 4 rfl
  have r5 := HT.out.cell (v := .slice bA bl bc) 5 rfl
  have r6 := HT.out.cell (v := .int .i64 b4) 6 rfl
  have r7 := HT.out.cell (v := .slice zA zl zc) 7 rfl
  have r14 := HT.out.cell (v := .slice xA xl xc) 14 rfl
  have r15 := HT.out.cell (v := .slice yA yl yc) 15 rfl
  go_upto_region 4 with fail
  · exact HP.out _ false (HB.out) (fun h => by cases h)
  have hbb : β69 = false := by assumption
  subst hbb
  refine wp_region_lit ?_
  refine wpList_cut (R := fun a w2 => W = w2 ∧ ∃ (β76 : Bool) (x70 x71 x72 x73 x74 x75 : Value), True ∧ a = ⟨#[.pointer (some ⟨p, 0, Option.none⟩), .agg #[.int .u8 s.k, .int .i64 s.home, .int .u8 s.v0, .int .i64 s.v1, .string s.v2, .slice s.vA s.vl s.vc, .int .i64 s.v4, .slice s.sA s.sl s.sc, .int .i64 s.n, .int .i64 s.lost, .int .i64 s.of_, .int .i64 s.by_, .int .u8 s.set, .bool s.full, .slice s.cA s.cl s.cc, .slice s.nA s.nl s.nc], undef, .pointer (some ⟨w.heap.size, 0, Option.none⟩), .bool false, .pointer (some ⟨w1.heap.size, 0, Option.none⟩), undef, undef, undef, undef, undef, .agg #[.int .u8 s.k, .int .i64 s.home, .int .u8 s.v0, .int .i64 s.v1, .string s.v2, .slice s.vA s.vl s.vc, .int .i64 s.v4, .slice s.sA s.sl s.sc, .int .i64 s.n, .int .i64 s.lost, .int .i64 s.of_, .int .i64 s.by_, .int .u8 s.set, .bool s.full, .slice s.cA s.cl s.cc, .slice s.nA s.nl s.nc], .agg #[.int .u8 k1, .int .i64 h1, .int .u8 b0, .int .i64 b1, .string b2, .slice bA bl bc, .int .i64 b4, .slice zA zl zc, .int .i64 n1, .int .i64 lost1, .int .i64 of1, .int .i64 by1, .int .u8 set1, .bool full1, .slice xA xl xc, .slice yA yl yc], x13, x14, x15, x16, x17, x18, x19, .bool β20, x21, x22, x23, x24, x25, x26, .bool β27, x28, x29, x30, x31, x32, x33, .bool β34, x35, x36, x37, x38, x39, x40, .bool β41, x42, x43, x44, x45, x46, x47, .bool β48, x49, x50, x51, x52, x53, x54, .bool β55, x56, x57, x58, x59, x60, x61, .bool β62, x63, x64, x65, x66, x67, x68, .bool false, x70, x71, x72, x73, x74, x75, .bool β76, undef, undef, undef, undef, undef, undef, undef, undef, undef, undef, undef, undef, undef, undef, undef, undef, undef, undef, undef, undef, undef, undef, undef, undef, undef, undef, undef, undef, undef, undef, undef, undef, undef, undef, undef, undef, undef, undef, undef, undef, undef, undef, undef, undef, undef, undef, undef, undef, undef, undef, undef, undef, undef, undef, undef, undef, undef, undef, undef, undef, undef, undef, undef, undef, undef, undef, undef, undef, undef, undef, undef, undef, undef, undef, undef, undef, undef, undef, undef, undef, undef, undef, undef, undef, undef, undef, undef, undef, undef, undef, undef, undef, undef, undef, undef, undef, undef, undef, undef, undef, undef, undef, undef, undef, undef, undef, undef, undef, undef, undef, undef, undef, undef, undef, undef, undef], []⟩) 7 _ _ _ ?_ ?_
  · simp only [List.take_succ_cons, List.take_zero]
    go_wp2_with (fail)
    all_goals first | exact ⟨rfl, rfl, _, _, _, _, _, _, _, trivial, rfl⟩ | exact Decidable.em _ | trivial
  rintro a _ ⟨rfl, β76, x70, x71, x72, x73, x74, x75, hex, rfl⟩
  simp only [List.drop_succ_cons, List.drop_zero]
  refine wpList_cut (R := fun a w2 => W = w2 ∧ ∃ (β85 : Bool) (x77 x78 x79 x80 x81 x82 x83 x84 : Value), True ∧ a = ⟨#[.pointer (some ⟨p, 0, Option.none⟩), .agg #[.int .u8 s.k, .int .i64 s.home, .int .u8 s.v0, .int .i64 s.v1, .string s.v2, .slice s.vA s.vl s.vc, .int .i64 s.v4, .slice s.sA s.sl s.sc, .int .i64 s.n, .int .i64 s.lost, .int .i64 s.of_, .int .i64 s.by_, .int .u8 s.set, .bool s.full, .slice s.cA s.cl s.cc, .slice s.nA s.nl s.nc], undef, .pointer (some ⟨w.heap.size, 0, Option.none⟩), .bool false, .pointer (some ⟨w1.heap.size, 0, Option.none⟩), undef, undef, undef, undef, undef, .agg #[.int .u8 s.k, .int .i64 s.home, .int .u8 s.v0, .int .i64 s.v1, .string s.v2, .slice s.vA s.vl s.vc, .int .i64 s.v4, .slice s.sA s.sl s.sc, .int .i64 s.n, .int .i64 s.lost, .int .i64 s.of_, .int .i64 s.by_, .int .u8 s.set, .bool s.full, .slice s.cA s.cl s.cc, .slice s.nA s.nl s.nc], .agg #[.int .u8 k1, .int .i64 h1, .int .u8 b0, .int .i64 b1, .string b2, .slice bA bl bc, .int .i64 b4, .slice zA zl zc, .int .i64 n1, .int .i64 lost1, .int .i64 of1, .int .i64 by1, .int .u8 set1, .bool full1, .slice xA xl xc, .slice yA yl yc], x13, x14, x15, x16, x17, x18, x19, .bool β20, x21, x22, x23, x24, x25, x26, .bool β27, x28, x29, x30, x31, x32, x33, .bool β34, x35, x36, x37, x38, x39, x40, .bool β41, x42, x43, x44, x45, x46, x47, .bool β48, x49, x50, x51, x52, x53, x54, .bool β55, x56, x57, x58, x59, x60, x61, .bool β62, x63, x64, x65, x66, x67, x68, .bool false, x70, x71, x72, x73, x74, x75, .bool β76, x77, x78, x79, x80, x81, x82, x83, x84, .bool β85, undef, undef, undef, undef, undef, undef, undef, undef, undef, undef, undef, undef, undef, undef, undef, undef, undef, undef, undef, undef, undef, undef, undef, undef, undef, undef, undef, undef, undef, undef, undef, undef, undef, undef, undef, undef, undef, undef, undef, undef, undef, undef, undef, undef, undef, undef, undef, undef, undef, undef, undef, undef, undef, undef, undef, undef, undef, undef, undef, undef, undef, undef, undef, undef, undef, undef, undef, undef, undef, undef, undef, undef, undef, undef, undef, undef, undef, undef, undef, undef, undef, undef, undef, undef, undef, undef, undef, undef, undef, undef, undef, undef, undef, undef, undef, undef, undef, undef, undef, undef, undef, undef, undef, undef, undef, undef, undef], []⟩) 9 _ _ _ ?_ ?_
  · simp only [List.take_succ_cons, List.take_zero]
    go_wp2_with (fail)
    all_goals first | exact ⟨rfl, rfl, _, _, _, _, _, _, _, _, _, trivial, rfl⟩ | exact Decidable.em _ | trivial
  rintro a _ ⟨rfl, β85, x77, x78, x79, x80, x81, x82, x83, x84, hex, rfl⟩
  simp only [List.drop_succ_cons, List.drop_zero]
  refine wpList_cut (R := fun a w2 => W = w2 ∧ ∃ (β94 : Bool) (x86 x87 x88 x89 x90 x91 x92 x93 : Value), True ∧ a = ⟨#[.pointer (some ⟨p, 0, Option.none⟩), .agg #[.int .u8 s.k, .int .i64 s.home, .int .u8 s.v0, .int .i64 s.v1, .string s.v2, .slice s.vA s.vl s.vc, .int .i64 s.v4, .slice s.sA s.sl s.sc, .int .i64 s.n, .int .i64 s.lost, .int .i64 s.of_, .int .i64 s.by_, .int .u8 s.set, .bool s.full, .slice s.cA s.cl s.cc, .slice s.nA s.nl s.nc], undef, .pointer (some ⟨w.heap.size, 0, Option.none⟩), .bool false, .pointer (some ⟨w1.heap.size, 0, Option.none⟩), undef, undef, undef, undef, undef, .agg #[.int .u8 s.k, .int .i64 s.home, .int .u8 s.v0, .int .i64 s.v1, .string s.v2, .slice s.vA s.vl s.vc, .int .i64 s.v4, .slice s.sA s.sl s.sc, .int .i64 s.n, .int .i64 s.lost, .int .i64 s.of_, .int .i64 s.by_, .int .u8 s.set, .bool s.full, .slice s.cA s.cl s.cc, .slice s.nA s.nl s.nc], .agg #[.int .u8 k1, .int .i64 h1, .int .u8 b0, .int .i64 b1, .string b2, .slice bA bl bc, .int .i64 b4, .slice zA zl zc, .int .i64 n1, .int .i64 lost1, .int .i64 of1, .int .i64 by1, .int .u8 set1, .bool full1, .slice xA xl xc, .slice yA yl yc], x13, x14, x15, x16, x17, x18, x19, .bool β20, x21, x22, x23, x24, x25, x26, .bool β27, x28, x29, x30, x31, x32, x33, .bool β34, x35, x36, x37, x38, x39, x40, .bool β41, x42, x43, x44, x45, x46, x47, .bool β48, x49, x50, x51, x52, x53, x54, .bool β55, x56, x57, x58, x59, x60, x61, .bool β62, x63, x64, x65, x66, x67, x68, .bool false, x70, x71, x72, x73, x74, x75, .bool β76, x77, x78, x79, x80, x81, x82, x83, x84, .bool β85, x86, x87, x88, x89, x90, x91, x92, x93, .bool β94, undef, undef, undef, undef, undef, undef, undef, undef, undef, undef, undef, undef, undef, undef, undef, undef, undef, undef, undef, undef, undef, undef, undef, undef, undef, undef, undef, undef, undef, undef, undef, undef, undef, undef, undef, undef, undef, undef, undef, undef, undef, undef, undef, undef, undef, undef, undef, undef, undef, undef, undef, undef, undef, undef, undef, undef, undef, undef, undef, undef, undef, undef, undef, undef, undef, undef, undef, undef, undef, undef, undef, undef, undef, undef, undef, undef, undef, undef, undef, undef, undef, undef, undef, undef, undef, undef, undef, undef, undef, undef, undef, undef, undef, undef, undef, undef, undef, undef], []⟩) 9 _ _ _ ?_ ?_
  · simp only [List.take_succ_cons, List.take_zero]
    go_wp2_with (fail)
    all_goals first | exact ⟨rfl, rfl, _, _, _, _, _, _, _, _, _, trivial, rfl⟩ | exact Decidable.em _ | trivial
  rintro a _ ⟨rfl, β94, x86, x87, x88, x89, x90, x91, x92, x93, hex, rfl⟩
  simp only [List.drop_succ_cons, List.drop_zero]
  refine wpList_cut (R := fun a w2 => Below W.heap.size W w2 ∧ ∃ (β105 : Bool) (x95 x96 x97 x98 x99 x100 x101 x102 x103 x104 : Value), True ∧ a = ⟨#[.pointer (some ⟨p, 0, Option.none⟩), .agg #[.int .u8 s.k, .int .i64 s.home, .int .u8 s.v0, .int .i64 s.v1, .string s.v2, .slice s.vA s.vl s.vc, .int .i64 s.v4, .slice s.sA s.sl s.sc, .int .i64 s.n, .int .i64 s.lost, .int .i64 s.of_, .int .i64 s.by_, .int .u8 s.set, .bool s.full, .slice s.cA s.cl s.cc, .slice s.nA s.nl s.nc], undef, .pointer (some ⟨w.heap.size, 0, Option.none⟩), .bool false, .pointer (some ⟨w1.heap.size, 0, Option.none⟩), undef, undef, undef, undef, undef, .agg #[.int .u8 s.k, .int .i64 s.home, .int .u8 s.v0, .int .i64 s.v1, .string s.v2, .slice s.vA s.vl s.vc, .int .i64 s.v4, .slice s.sA s.sl s.sc, .int .i64 s.n, .int .i64 s.lost, .int .i64 s.of_, .int .i64 s.by_, .int .u8 s.set, .bool s.full, .slice s.cA s.cl s.cc, .slice s.nA s.nl s.nc], .agg #[.int .u8 k1, .int .i64 h1, .int .u8 b0, .int .i64 b1, .string b2, .slice bA bl bc, .int .i64 b4, .slice zA zl zc, .int .i64 n1, .int .i64 lost1, .int .i64 of1, .int .i64 by1, .int .u8 set1, .bool full1, .slice xA xl xc, .slice yA yl yc], x13, x14, x15, x16, x17, x18, x19, .bool β20, x21, x22, x23, x24, x25, x26, .bool β27, x28, x29, x30, x31, x32, x33, .bool β34, x35, x36, x37, x38, x39, x40, .bool β41, x42, x43, x44, x45, x46, x47, .bool β48, x49, x50, x51, x52, x53, x54, .bool β55, x56, x57, x58, x59, x60, x61, .bool β62, x63, x64, x65, x66, x67, x68, .bool false, x70, x71, x72, x73, x74, x75, .bool β76, x77, x78, x79, x80, x81, x82, x83, x84, .bool β85, x86, x87, x88, x89, x90, x91, x92, x93, .bool β94, x95, x96, x97, x98, x99, x100, x101, x102, x103, x104, .bool β105, undef, undef, undef, undef, undef, undef, undef, undef, undef, undef, undef, undef, undef, undef, undef, undef, undef, undef, undef, undef, undef, undef, undef, undef, undef, undef, undef, undef, undef, undef, undef, undef, undef, undef, undef, undef, undef, undef, undef, undef, undef, undef, undef, undef, undef, undef, undef, undef, undef, undef, undef, undef, undef, undef, undef, undef, undef, undef, undef, undef, undef, undef, undef, undef, undef, undef, undef, undef, undef, undef, undef, undef, undef, undef, undef, undef, undef, undef, undef, undef, undef, undef, undef, undef, undef, undef, undef], []⟩) 11 _ _ _ ?_ ?_
  · simp only [List.take_succ_cons, List.take_zero]
    go_wp2_with (first
      | (go_at_call 34; with_reducible refine (blank_any _ b0 b1 b2 bA bl bc b4).mono ?_; rintro e wA ⟨hA, βA, rfl⟩; have qA2 := (HS.out.below hA).cell 2 s.at2; have qA3 := (HS.out.below hA).cell 3 s.at3; have qA4 := (HS.out.below hA).cell 4 s.at4; have qA5 := (HS.out.below hA).cell 5 s.at5; have qA6 := (HS.out.below hA).cell 6 s.at6)
      | (go_at_call 34; with_reducible refine (blank_any _ s.v0 s.v1 s.v2 s.vA s.vl s.vc s.v4).mono ?_; rintro e wB ⟨hB', βB, rfl⟩))
    all_goals first | exact ⟨rfl, Below.refl _ _, _, _, _, _, _, _, _, _, _, _, _, trivial, rfl⟩ | exact Below.refl _ _ | exact hA | exact bnext hA hB'
  rintro a W2 ⟨hw2, β105, x95, x96, x97, x98, x99, x100, x101, x102, x103, x104, hex, rfl⟩
  simp only [List.drop_succ_cons, List.drop_zero]
  refine RegT.wpList_end ?_
  simp only [Exit.then]
  go_upto_region 6 with fail
  · exact HP.out _ false (bnext HB.out hw2) (fun h => by cases h)
  have hbb : β105 = false := by assumption
  subst hbb
  have HB2 := Lib.hid (bnext HB.out hw2)
  have HS2 := Lib.hid (HS.out.below hw2)
  have hsz2 : w.heap.size < W2.heap.size := HS2.out.lt
  clear q0 q1 q4 q5 q6 q7 q8 q9 q10 q11 q12 q13 q14 q15 r1 r2 r3 r4 r5 r6 r7 r8 r9 r10 r11 r12 r13 r14 r15 HS HT HB hw2 hsz1
  clear hex
  have q0 := HS2.out.cell 0 s.at0
  have q1 := HS2.out.cell 1 s.at1
  have q2 := HS2.out.cell 2 s.at2
  have q3 := HS2.out.cell 3 s.at3
  have q4 := HS2.out.cell 4 s.at4
  have q5 := HS2.out.cell 5 s.at5
  have q6 := HS2.out.cell 6 s.at6
  have q7 := HS2.out.cell 7 s.at7
  have q8 := HS2.out.cell 8 s.at8
  have q9 := HS2.out.cell 9 s.at9
  have q10 := HS2.out.cell 10 s.at10
  have q11 := HS2.out.cell 11 s.at11
  have q12 := HS2.out.cell 12 s.at12
  have q13 := HS2.out.cell 13 s.at13
  have q14 := HS2.out.cell 14 s.at14
  have q15 := HS2.out.cell 15 s.at15
  refine wp_region_lit ?_
  obtain ⟨R, hR1, hR2⟩ : ∃ R : Act → World → Prop, (∀ (β115 : Bool) (x106 x107 x108 x109 x110 x111 x112 x113 x114 : Value) (w2 : World), (β115 = false → s.k ≠ 14 → 0 ≤ s.home ∧ s.home < ml) → (W2 = w2) → R ⟨#[.pointer (some ⟨p, 0, Option.none⟩), .agg #[.int .u8 s.k, .int .i64 s.home, .int .u8 s.v0, .int .i64 s.v1, .string s.v2, .slice s.vA s.vl s.vc, .int .i64 s.v4, .slice s.sA s.sl s.sc, .int .i64 s.n, .int .i64 s.lost, .int .i64 s.of_, .int .i64 s.by_, .int .u8 s.set, .bool s.full, .slice s.cA s.cl s.cc, .slice s.nA s.nl s.nc], undef, .pointer (some ⟨w.heap.size, 0, Option.none⟩), .bool false, .pointer (some ⟨w1.heap.size, 0, Option.none⟩), undef, undef, undef, undef, undef, .agg #[.int .u8 s.k, .int .i64 s.home, .int .u8 s.v0, .int .i64 s.v1, .string s.v2, .slice s.vA s.vl s.vc, .int .i64 s.v4, .slice s.sA s.sl s.sc, .int .i64 s.n, .int .i64 s.lost, .int .i64 s.of_, .int .i64 s.by_, .int .u8 s.set, .bool s.full, .slice s.cA s.cl s.cc, .slice s.nA s.nl s.nc], .agg #[.int .u8 k1, .int .i64 h1, .int .u8 b0, .int .i64 b1, .string b2, .slice bA bl bc, .int .i64 b4, .slice zA zl zc, .int .i64 n1, .int .i64 lost1, .int .i64 of1, .int .i64 by1, .int .u8 set1, .bool full1, .slice xA xl xc, .slice yA yl yc], x13, x14, x15, x16, x17, x18, x19, .bool β20, x21, x22, x23, x24, x25, x26, .bool β27, x28, x29, x30, x31, x32, x33, .bool β34, x35, x36, x37, x38, x39, x40, .bool β41, x42, x43, x44, x45, x46, x47, .bool β48, x49, x50, x51, x52, x53, x54, .bool β55, x56, x57, x58, x59, x60, x61, .bool β62, x63, x64, x65, x66, x67, x68, .bool false, x70, x71, x72, x73, x74, x75, .bool β76, x77, x78, x79, x80, x81, x82, x83, x84, .bool β85, x86, x87, x88, x89, x90, x91, x92, x93, .bool β94, x95, x96, x97, x98, x99, x100, x101, x102, x103, x104, .bool false, x106, x107, x108, x109, x110, x111, x112, x113, x114, .bool β115, undef, undef, undef, undef, undef, undef, undef, undef, undef, undef, undef, undef, undef, undef, undef, undef, undef, undef, undef, undef, undef, undef, undef, undef, undef, undef, undef, undef, undef, undef, undef, undef, undef, undef, undef, undef, undef, undef, undef, undef, undef, undef, undef, undef, undef, undef, undef, undef, undef, undef, undef, undef, undef, undef, undef, undef, undef, undef, undef, undef, undef, undef, undef, undef, undef, undef, undef, undef, undef, undef, undef, undef, undef, undef, undef, undef, undef], []⟩ w2) ∧ (∀ a w2, R a w2 → ∃ (β115 : Bool) (x106 x107 x108 x109 x110 x111 x112 x113 x114 : Value), (β115 = false → s.k ≠ 14 → 0 ≤ s.home ∧ s.home < ml) ∧ (W2 = w2) ∧ a = ⟨#[.pointer (some ⟨p, 0, Option.none⟩), .agg #[.int .u8 s.k, .int .i64 s.home, .int .u8 s.v0, .int .i64 s.v1, .string s.v2, .slice s.vA s.vl s.vc, .int .i64 s.v4, .slice s.sA s.sl s.sc, .int .i64 s.n, .int .i64 s.lost, .int .i64 s.of_, .int .i64 s.by_, .int .u8 s.set, .bool s.full, .slice s.cA s.cl s.cc, .slice s.nA s.nl s.nc], undef, .pointer (some ⟨w.heap.size, 0, Option.none⟩), .bool false, .pointer (some ⟨w1.heap.size, 0, Option.none⟩), undef, undef, undef, undef, undef, .agg #[.int .u8 s.k, .int .i64 s.home, .int .u8 s.v0, .int .i64 s.v1, .string s.v2, .slice s.vA s.vl s.vc, .int .i64 s.v4, .slice s.sA s.sl s.sc, .int .i64 s.n, .int .i64 s.lost, .int .i64 s.of_, .int .i64 s.by_, .int .u8 s.set, .bool s.full, .slice s.cA s.cl s.cc, .slice s.nA s.nl s.nc], .agg #[.int .u8 k1, .int .i64 h1, .int .u8 b0, .int .i64 b1, .string b2, .slice bA bl bc, .int .i64 b4, .slice zA zl zc, .int .i64 n1, .int .i64 lost1, .int .i64 of1, .int .i64 by1, .int .u8 set1, .bool full1, .slice xA xl xc, .slice yA yl yc], x13, x14, x15, x16, x17, x18, x19, .bool β20, x21, x22, x23, x24, x25, x26, .bool β27, x28, x29, x30, x31, x32, x33, .bool β34, x35, x36, x37, x38, x39, x40, .bool β41, x42, x43, x44, x45, x46, x47, .bool β48, x49, x50, x51, x52, x53, x54, .bool β55, x56, x57, x58, x59, x60, x61, .bool β62, x63, x64, x65, x66, x67, x68, .bool false, x70, x71, x72, x73, x74, x75, .bool β76, x77, x78, x79, x80, x81, x82, x83, x84, .bool β85, x86, x87, x88, x89, x90, x91, x92, x93, .bool β94, x95, x96, x97, x98, x99, x100, x101, x102, x103, x104, .bool false, x106, x107, x108, x109, x110, x111, x112, x113, x114, .bool β115, undef, undef, undef, undef, undef, undef, undef, undef, undef, undef, undef, undef, undef, undef, undef, undef, undef, undef, undef, undef, undef, undef, undef, undef, undef, undef, undef, undef, undef, undef, undef, undef, undef, undef, undef, undef, undef, undef, undef, undef, undef, undef, undef, undef, undef, undef, undef, undef, undef, undef, undef, undef, undef, undef, undef, undef, undef, undef, undef, undef, undef, undef, undef, undef, undef, undef, undef, undef, undef, undef, undef, undef, undef, undef, undef, undef, undef], []⟩) := ⟨fun a w2 => ∃ (β115 : Bool) (x106 x107 x108 x109 x110 x111 x112 x113 x114 : Value), (β115 = false → s.k ≠ 14 → 0 ≤ s.home ∧ s.home < ml) ∧ (W2 = w2) ∧ a = ⟨#[.pointer (some ⟨p, 0, Option.none⟩), .agg #[.int .u8 s.k, .int .i64 s.home, .int .u8 s.v0, .int .i64 s.v1, .string s.v2, .slice s.vA s.vl s.vc, .int .i64 s.v4, .slice s.sA s.sl s.sc, .int .i64 s.n, .int .i64 s.lost, .int .i64 s.of_, .int .i64 s.by_, .int .u8 s.set, .bool s.full, .slice s.cA s.cl s.cc, .slice s.nA s.nl s.nc], undef, .pointer (some ⟨w.heap.size, 0, Option.none⟩), .bool false, .pointer (some ⟨w1.heap.size, 0, Option.none⟩), undef, undef, undef, undef, undef, .agg #[.int .u8 s.k, .int .i64 s.home, .int .u8 s.v0, .int .i64 s.v1, .string s.v2, .slice s.vA s.vl s.vc, .int .i64 s.v4, .slice s.sA s.sl s.sc, .int .i64 s.n, .int .i64 s.lost, .int .i64 s.of_, .int .i64 s.by_, .int .u8 s.set, .bool s.full, .slice s.cA s.cl s.cc, .slice s.nA s.nl s.nc], .agg #[.int .u8 k1, .int .i64 h1, .int .u8 b0, .int .i64 b1, .string b2, .slice bA bl bc, .int .i64 b4, .slice zA zl zc, .int .i64 n1, .int .i64 lost1, .int .i64 of1, .int .i64 by1, .int .u8 set1, .bool full1, .slice xA xl xc, .slice yA yl yc], x13, x14, x15, x16, x17, x18, x19, .bool β20, x21, x22, x23, x24, x25, x26, .bool β27, x28, x29, x30, x31, x32, x33, .bool β34, x35, x36, x37, x38, x39, x40, .bool β41, x42, x43, x44, x45, x46, x47, .bool β48, x49, x50, x51, x52, x53, x54, .bool β55, x56, x57, x58, x59, x60, x61, .bool β62, x63, x64, x65, x66, x67, x68, .bool false, x70, x71, x72, x73, x74, x75, .bool β76, x77, x78, x79, x80, x81, x82, x83, x84, .bool β85, x86, x87, x88, x89, x90, x91, x92, x93, .bool β94, x95, x96, x97, x98, x99, x100, x101, x102, x103, x104, .bool false, x106, x107, x108, x109, x110, x111, x112, x113, x114, .bool β115, undef, undef, undef, undef, undef, undef, undef, undef, undef, undef, undef, undef, undef, undef, undef, undef, undef, undef, undef, undef, undef, undef, undef, undef, undef, undef, undef, undef, undef, undef, undef, undef, undef, undef, undef, undef, undef, undef, undef, undef, undef, undef, undef, undef, undef, undef, undef, undef, undef, undef, undef, undef, undef, undef, undef, undef, undef, undef, undef, undef, undef, undef, undef, undef, undef, undef, undef, undef, undef, undef, undef, undef, undef, undef, undef, undef, undef], []⟩, fun β115 x106 x107 x108 x109 x110 x111 x112 x113 x114 w2 h h2 => ⟨β115, x106, x107, x108, x109, x110, x111, x112, x113, x114, h, h2, rfl⟩, fun a w2 h => h⟩
  have HR1 := Lib.hid hR1
  clear hR1
  refine wpList_cut (R := R) 10 _ _ _ ?_ ?_
  · clear hR2
    simp only [List.take_succ_cons, List.take_zero]
    by_cases h14 : s.k = 14
    · have h14b : (s.k != 14) = false := by simp [h14]
      have H14 := Lib.hid h14
      clear h14
      go_wp2_with fail
      refine HR1.out _ _ _ _ _ _ _ _ _ _ _ ?_ ?_
      · exact fun _ h => absurd H14.out h
      · rfl
    · have h14b : (s.k != 14) = true := by simp [h14]
      go_wp2_with (go_at_call 35; with_reducible refine (C35.out _ HB2.out).mono ?_; rintro e w3 ⟨rfl, rfl⟩)
      refine HR1.out _ _ _ _ _ _ _ _ _ _ _ ?_ ?_
      · exact fun h _ => by simpa using h
      · rfl
  intro a w2 h
  obtain ⟨β115, x106, x107, x108, x109, x110, x111, x112, x113, x114, hC115, hW115, rfl⟩ := hR2 a w2 h
  clear hR2 HR1 h R
  simp only [List.drop_succ_cons, List.drop_zero]
  subst hW115
  obtain ⟨R, hR1, hR2⟩ : ∃ R : Act → World → Prop, (∀ (β121 : Bool) (x116 x117 x118 x119 x120 : Value) (w2 : World), (β121 = false → β115 = false ∧ mayV x.v = true) → (Below W2.heap.size W2 w2) → R ⟨#[.pointer (some ⟨p, 0, Option.none⟩), .agg #[.int .u8 s.k, .int .i64 s.home, .int .u8 s.v0, .int .i64 s.v1, .string s.v2, .slice s.vA s.vl s.vc, .int .i64 s.v4, .slice s.sA s.sl s.sc, .int .i64 s.n, .int .i64 s.lost, .int .i64 s.of_, .int .i64 s.by_, .int .u8 s.set, .bool s.full, .slice s.cA s.cl s.cc, .slice s.nA s.nl s.nc], undef, .pointer (some ⟨w.heap.size, 0, Option.none⟩), .bool false, .pointer (some ⟨w1.heap.size, 0, Option.none⟩), undef, undef, undef, undef, undef, .agg #[.int .u8 s.k, .int .i64 s.home, .int .u8 s.v0, .int .i64 s.v1, .string s.v2, .slice s.vA s.vl s.vc, .int .i64 s.v4, .slice s.sA s.sl s.sc, .int .i64 s.n, .int .i64 s.lost, .int .i64 s.of_, .int .i64 s.by_, .int .u8 s.set, .bool s.full, .slice s.cA s.cl s.cc, .slice s.nA s.nl s.nc], .agg #[.int .u8 k1, .int .i64 h1, .int .u8 b0, .int .i64 b1, .string b2, .slice bA bl bc, .int .i64 b4, .slice zA zl zc, .int .i64 n1, .int .i64 lost1, .int .i64 of1, .int .i64 by1, .int .u8 set1, .bool full1, .slice xA xl xc, .slice yA yl yc], x13, x14, x15, x16, x17, x18, x19, .bool β20, x21, x22, x23, x24, x25, x26, .bool β27, x28, x29, x30, x31, x32, x33, .bool β34, x35, x36, x37, x38, x39, x40, .bool β41, x42, x43, x44, x45, x46, x47, .bool β48, x49, x50, x51, x52, x53, x54, .bool β55, x56, x57, x58, x59, x60, x61, .bool β62, x63, x64, x65, x66, x67, x68, .bool false, x70, x71, x72, x73, x74, x75, .bool β76, x77, x78, x79, x80, x81, x82, x83, x84, .bool β85, x86, x87, x88, x89, x90, x91, x92, x93, .bool β94, x95, x96, x97, x98, x99, x100, x101, x102, x103, x104, .bool false, x106, x107, x108, x109, x110, x111, x112, x113, x114, .bool β115, x116, x117, x118, x119, x120, .bool β121, undef, undef, undef, undef, undef, undef, undef, undef, undef, undef, undef, undef, undef, undef, undef, undef, undef, undef, undef, undef, undef, undef, undef, undef, undef, undef, undef, undef, undef, undef, undef, undef, undef, undef, undef, undef, undef, undef, undef, undef, undef, undef, undef, undef, undef, undef, undef, undef, undef, undef, undef, undef, undef, undef, undef, undef, undef, undef, undef, undef, undef, undef, undef, undef, undef, undef, undef, undef, undef, undef, undef], []⟩ w2) ∧ (∀ a w2, R a w2 → ∃ (β121 : Bool) (x116 x117 x118 x119 x120 : Value), (β121 = false → β115 = false ∧ mayV x.v = true) ∧ (Below W2.heap.size W2 w2) ∧ a = ⟨#[.pointer (some ⟨p, 0, Option.none⟩), .agg #[.int .u8 s.k, .int .i64 s.home, .int .u8 s.v0, .int .i64 s.v1, .string s.v2, .slice s.vA s.vl s.vc, .int .i64 s.v4, .slice s.sA s.sl s.sc, .int .i64 s.n, .int .i64 s.lost, .int .i64 s.of_, .int .i64 s.by_, .int .u8 s.set, .bool s.full, .slice s.cA s.cl s.cc, .slice s.nA s.nl s.nc], undef, .pointer (some ⟨w.heap.size, 0, Option.none⟩), .bool false, .pointer (some ⟨w1.heap.size, 0, Option.none⟩), undef, undef, undef, undef, undef, .agg #[.int .u8 s.k, .int .i64 s.home, .int .u8 s.v0, .int .i64 s.v1, .string s.v2, .slice s.vA s.vl s.vc, .int .i64 s.v4, .slice s.sA s.sl s.sc, .int .i64 s.n, .int .i64 s.lost, .int .i64 s.of_, .int .i64 s.by_, .int .u8 s.set, .bool s.full, .slice s.cA s.cl s.cc, .slice s.nA s.nl s.nc], .agg #[.int .u8 k1, .int .i64 h1, .int .u8 b0, .int .i64 b1, .string b2, .slice bA bl bc, .int .i64 b4, .slice zA zl zc, .int .i64 n1, .int .i64 lost1, .int .i64 of1, .int .i64 by1, .int .u8 set1, .bool full1, .slice xA xl xc, .slice yA yl yc], x13, x14, x15, x16, x17, x18, x19, .bool β20, x21, x22, x23, x24, x25, x26, .bool β27, x28, x29, x30, x31, x32, x33, .bool β34, x35, x36, x37, x38, x39, x40, .bool β41, x42, x43, x44, x45, x46, x47, .bool β48, x49, x50, x51, x52, x53, x54, .bool β55, x56, x57, x58, x59, x60, x61, .bool β62, x63, x64, x65, x66, x67, x68, .bool false, x70, x71, x72, x73, x74, x75, .bool β76, x77, x78, x79, x80, x81, x82, x83, x84, .bool β85, x86, x87, x88, x89, x90, x91, x92, x93, .bool β94, x95, x96, x97, x98, x99, x100, x101, x102, x103, x104, .bool false, x106, x107, x108, x109, x110, x111, x112, x113, x114, .bool β115, x116, x117, x118, x119, x120, .bool β121, undef, undef, undef, undef, undef, undef, undef, undef, undef, undef, undef, undef, undef, undef, undef, undef, undef, undef, undef, undef, undef, undef, undef, undef, undef, undef, undef, undef, undef, undef, undef, undef, undef, undef, undef, undef, undef, undef, undef, undef, undef, undef, undef, undef, undef, undef, undef, undef, undef, undef, undef, undef, undef, undef, undef, undef, undef, undef, undef, undef, undef, undef, undef, undef, undef, undef, undef, undef, undef, undef, undef], []⟩) := ⟨fun a w2 => ∃ (β121 : Bool) (x116 x117 x118 x119 x120 : Value), (β121 = false → β115 = false ∧ mayV x.v = true) ∧ (Below W2.heap.size W2 w2) ∧ a = ⟨#[.pointer (some ⟨p, 0, Option.none⟩), .agg #[.int .u8 s.k, .int .i64 s.home, .int .u8 s.v0, .int .i64 s.v1, .string s.v2, .slice s.vA s.vl s.vc, .int .i64 s.v4, .slice s.sA s.sl s.sc, .int .i64 s.n, .int .i64 s.lost, .int .i64 s.of_, .int .i64 s.by_, .int .u8 s.set, .bool s.full, .slice s.cA s.cl s.cc, .slice s.nA s.nl s.nc], undef, .pointer (some ⟨w.heap.size, 0, Option.none⟩), .bool false, .pointer (some ⟨w1.heap.size, 0, Option.none⟩), undef, undef, undef, undef, undef, .agg #[.int .u8 s.k, .int .i64 s.home, .int .u8 s.v0, .int .i64 s.v1, .string s.v2, .slice s.vA s.vl s.vc, .int .i64 s.v4, .slice s.sA s.sl s.sc, .int .i64 s.n, .int .i64 s.lost, .int .i64 s.of_, .int .i64 s.by_, .int .u8 s.set, .bool s.full, .slice s.cA s.cl s.cc, .slice s.nA s.nl s.nc], .agg #[.int .u8 k1, .int .i64 h1, .int .u8 b0, .int .i64 b1, .string b2, .slice bA bl bc, .int .i64 b4, .slice zA zl zc, .int .i64 n1, .int .i64 lost1, .int .i64 of1, .int .i64 by1, .int .u8 set1, .bool full1, .slice xA xl xc, .slice yA yl yc], x13, x14, x15, x16, x17, x18, x19, .bool β20, x21, x22, x23, x24, x25, x26, .bool β27, x28, x29, x30, x31, x32, x33, .bool β34, x35, x36, x37, x38, x39, x40, .bool β41, x42, x43, x44, x45, x46, x47, .bool β48, x49, x50, x51, x52, x53, x54, .bool β55, x56, x57, x58, x59, x60, x61, .bool β62, x63, x64, x65, x66, x67, x68, .bool false, x70, x71, x72, x73, x74, x75, .bool β76, x77, x78, x79, x80, x81, x82, x83, x84, .bool β85, x86, x87, x88, x89, x90, x91, x92, x93, .bool β94, x95, x96, x97, x98, x99, x100, x101, x102, x103, x104, .bool false, x106, x107, x108, x109, x110, x111, x112, x113, x114, .bool β115, x116, x117, x118, x119, x120, .bool β121, undef, undef, undef, undef, undef, undef, undef, undef, undef, undef, undef, undef, undef, undef, undef, undef, undef, undef, undef, undef, undef, undef, undef, undef, undef, undef, undef, undef, undef, undef, undef, undef, undef, undef, undef, undef, undef, undef, undef, undef, undef, undef, undef, undef, undef, undef, undef, undef, undef, undef, undef, undef, undef, undef, undef, undef, undef, undef, undef, undef, undef, undef, undef, undef, undef, undef, undef, undef, undef, undef, undef], []⟩, fun β121 x116 x117 x118 x119 x120 w2 h h2 => ⟨β121, x116, x117, x118, x119, x120, h, h2, rfl⟩, fun a w2 h => h⟩
  have HR1 := Lib.hid hR1
  clear hR1
  refine wpList_cut (R := R) 6 _ _ _ ?_ ?_
  · clear hR2
    simp only [List.take_succ_cons, List.take_zero]
    cases β115 with
    | true =>
      go_wp2_with fail
      refine HR1.out _ _ _ _ _ _ _ ?_ ?_
      · exact fun h => by cases h
      · exact Below.refl _ _
    | false =>
      go_wp2_with (go_at_call 36; with_reducible refine (C36.out _ HB2.out).mono ?_; rintro e w3 ⟨rfl, hb3⟩)
      refine HR1.out _ _ _ _ _ _ _ ?_ ?_
      · exact fun h => ⟨by trivial, by simpa using h⟩
      · exact hb3
  intro a w2 h
  obtain ⟨β121, x116, x117, x118, x119, x120, hC121, hW121, rfl⟩ := hR2 a w2 h
  clear hR2 HR1 h R
  simp only [List.drop_succ_cons, List.drop_zero]
  refine RegT.wpList_end ?_
  simp only [Exit.then]
  have HS3 := Lib.hid (HS2.out.below hW121)
  have HB3 := Lib.hid (bnext HB2.out hW121)
  obtain ⟨W3, hW3⟩ : ∃ W3, W3 = w2 := ⟨_, rfl⟩
  rw [← hW3] at HS3 HB3 ⊢
  clear hW3 hW121 HS2 HB2 q0 q1 q2 q3 q4 q5 q6 q7 q8 q9 q10 q11 q12 q13 q14 q15
  go_upto_region 8 with fail
  · exact HP.out _ false (HB3.out) (fun h => by cases h)
  have hs3 := HS3.out.lt
  have q7 := HS3.out.cell 7 s.at7
  have q15 := HS3.out.cell 15 s.at15
  have hbb : β121 = false := by assumption
  subst hbb
  obtain ⟨rfl, hmay⟩ := hC121 rfl
  have HC := Lib.hid (And.intro (hC115 rfl) hmay)
  clear hC115 hC121 hmay
  go_upto_region 9 with (go_at_call 37; with_reducible refine (C37.out _ HB3.out).mono ?_; rintro e w4 ⟨hb4, z1, z2, z3, z4, z5, z6, z7, rfl⟩; have HB4 := Lib.hid (bnext HB3.out hb4); have HS4 := Lib.hid (HS3.out.below hb4); clear hb4)
  obtain ⟨W4, hW4⟩ : ∃ W4, W4 = w4.alloc (.cells #[.int .u8 z1, .int .i64 z2, .string z3, .slice z4 z5 z6, .int .i64 z7] 49) := ⟨_, rfl⟩
  rw [← hW4]
  have HB5 : Hid (Below w.heap.size w W4) := Lib.hid (by rw [hW4]; exact HB4.out.alloc HB4.out.size _)
  have HS5 : Hid (BlkN W4 w.heap.size 53 s.arr) := Lib.hid (by rw [hW4]; exact HS4.out.alloc _)
  clear hW4 HB4 HS4 HS3 HB3 q7 q15
  have q15 := HS5.out.cell 15 s.at15
  by_cases hof : ofCode x.vs = 0
  rotate_left
  · have hof' : (ofCode x.vs != 0) = true := by simp [hof]
    go_wp2_with fail
    exact HP.out _ false HB5.out (fun h => by cases h)
  have hof' : (ofCode x.vs != 0) = false := by simp [hof]
  by_cases hnl6 : s.nl ≤ 64
  rotate_left
  · have hnl7 : (64 : Int) < s.nl := by omega
    go_wp2_with fail
    exact HP.out _ false HB5.out (fun h => by cases h)
  have hnl7 : ¬ (64 : Int) < s.nl := by omega
  go_upto_region 12 with fail
  obtain ⟨hst, hmay⟩ := HC.out
  have HF : Hid (s.k ≠ 14 → FormP ml s x) := Lib.hid fun h => ⟨hst, fun h' => absurd h' h, hof, hnl6, hmay⟩
  have HG : Hid (s.set < 64 → FormP ml s x) := Lib.hid fun h => ⟨hst, fun _ => h, hof, hnl6, hmay⟩
  clear hof hof' hnl6 hnl7 hst hmay HC q15
  have hw45 : w.heap.size ≤ W4.heap.size := HB5.out.size
  obtain ⟨i81, hi81', hz810, hz81, hz812⟩ := info_parts info81
  have HI81 := Lib.hid hi81'
  clear hi81'
  go_loopw [139] (fun i wr => ∃ k : Nat, k ≤ s.nl ∧ i = .int .i64 k ∧ Below w.heap.size w wr ∧ BlkN wr w.heap.size 53 s.arr)
    (fun i _ => s.nl - (intOf i).toNat)
  case atStart => exact ⟨0, Nat.zero_le _, rfl, HB5.out, HS5.out⟩
  case round =>
    obtain ⟨k, hk, rfl, hbr, hsr⟩ := hrel
    have HBR := Lib.hid hbr
    have HSR := Lib.hid hsr
    have hsz5 := hsr.lt
    clear hbr hsr HB5 HS5
    by_cases hlt : k < s.nl
    · have hlt' : k < x.nm.length := by have := HNL.out; omega
      obtain ⟨b, o, hbB, hA, hx⟩ := HNM.out.2.2.2 (by rintro h; rw [h] at hlt'; simp at hlt')
      obtain ⟨c0, c1, c2, c3, c4, hnz, hat, hv⟩ := hx.at k hlt'
      obtain ⟨k', n', s', A', len', cap', r', hsh⟩ := hv.shape
      simp only [Value.agg.injEq, Array.mk.injEq, List.cons.injEq, and_true] at hsh
      obtain ⟨rfl, rfl, rfl, rfl, rfl⟩ := hsh
      have hat : At wr b (o + k * 6) [.string x.nm[k].1, .int .u8 k', .int .i64 n', .string s', .slice A' len' cap', .int .i64 r'] := fun j v hj => (World.cell?_of_block (w := w) (HBR.out.block b (Nat.lt_of_lt_of_le hbB hB))).trans (hat j v hj)
      have C36n : Hid (∀ w', Below w.heap.size w w' → Calls Try.prog 36 #[.agg #[.int .u8 k', .int .i64 n', .string s', .slice A' len' cap', .int .i64 r']] w' fun e w2 => e = .returned (.bool (mayV x.nm[k].2)) ∧ Below w'.heap.size w' w2) := Lib.hid fun w' hb => vmay_any w' (IsVaR.keep (fun b o hb' => hb.block b (Nat.lt_of_lt_of_le hb' hB)) hv) (Nat.le_trans hB hb.size)
      obtain ⟨nz, hnz'⟩ : ∃ nz, nz = x.nm[k].1 := ⟨_, rfl⟩
      obtain ⟨mv, hmv⟩ : ∃ mv, mv = mayV x.nm[k].2 := ⟨_, rfl⟩
      rw [← hnz'] at hat hnz
      rw [← hmv] at C36n
      have HA := Lib.hid hA
      have hA' : s.nA = some ⟨b, o, Option.none⟩ := hA
      have e0 := hat 0 _ rfl
      have e1 := hat 1 _ rfl
      have e2 := hat 2 _ rfl
      have e3 := hat 3 _ rfl
      have e4 := hat 4 _ rfl
      have e5 := hat 5 _ rfl
      rw [Nat.add_zero] at e0
      clear hx hat hv hA hnz' hmv hnz
      rw [hA']
      cases mv with
      | false =>
        go_wp2_with (go_at_call 36; with_reducible refine (C36n.out _ (HBR.out.alloc (Nat.le_of_lt hsz5) _)).mono ?_; rintro e w5 ⟨rfl, hb5⟩; have HB6 := Lib.hid (bnext (HBR.out.alloc (Nat.le_of_lt hsz5) _) hb5); clear hb5)
        exact HP.out _ false HB6.out (fun h => by cases h)
      | true =>
        go_wp2_with (go_at_call 36; with_reducible refine (C36n.out _ (HBR.out.alloc (Nat.le_of_lt hsz5) _)).mono ?_; rintro e w5 ⟨rfl, hb5⟩; have HB6 := Lib.hid (bnext (HBR.out.alloc (Nat.le_of_lt hsz5) _) hb5); have HS6 := Lib.hid ((HSR.out.alloc _).below hb5); clear hb5)
        go_roundw
        case rel => exact ⟨k + 1, by omega, by go_num, HB6.out, HS6.out⟩
        case measure => simp [intOf]; omega
    · have hkl : k = s.nl := by omega
      have q0 := HSR.out.cell 0 s.at0
      have q2 := HSR.out.cell 2 s.at2
      have q3 := HSR.out.cell 3 s.at3
      have q4 := HSR.out.cell 4 s.at4
      have q5 := HSR.out.cell 5 s.at5
      have q6 := HSR.out.cell 6 s.at6
      have q8 := HSR.out.cell 8 s.at8
      have q9 := HSR.out.cell 9 s.at9
      have q12 := HSR.out.cell 12 s.at12
      have q13 := HSR.out.cell 13 s.at13
      have q14 := HSR.out.cell 14 s.at14
      cases k3 : (s.k == 3) with
      | true =>
        have H14 : Hid (s.k ≠ 14) := Lib.hid (by have := eq_of_beq k3; omega)
        go_wp2_with fail
        all_goals exact HP.out _ _ HBR.out (fun _ => HF.out H14.out)
      | false =>
        cases k8 : (s.k == 8) with
        | true =>
          have H14 : Hid (s.k ≠ 14) := Lib.hid (by have := eq_of_beq k8; omega)
          go_wp2_with fail
          all_goals exact HP.out _ _ HBR.out (fun _ => HF.out H14.out)
        | false =>
          cases k9 : (s.k == 9) with
          | true =>
            have H14 : Hid (s.k ≠ 14) := Lib.hid (by have := eq_of_beq k9; omega)
            go_wp2_with fail
            all_goals exact HP.out _ _ HBR.out (fun _ => HF.out H14.out)
          | false =>
            cases k10 : (s.k == 10) with
            | true =>
              have H14 : Hid (s.k ≠ 14) := Lib.hid (by have := eq_of_beq k10; omega)
              cases fu : s.full with
              | true =>
                rw [fu] at q13
                go_wp2_with fail
                exact HP.out _ _ HBR.out (fun _ => HF.out H14.out)
              | false =>
                rw [fu] at q13
                go_wp2_with (go_at_call 34; with_reducible refine (blank_any _ s.v0 s.v1 s.v2 s.vA s.vl s.vc s.v4).mono ?_; rintro e w6 ⟨hb6, β6, rfl⟩; have HB6 := Lib.hid (bnext HBR.out hb6); clear hb6)
                exact HP.out _ _ HB6.out (fun _ => HF.out H14.out)
            | false =>
              cases k12 : (s.k == 12) with
              | true =>
                have H14 : Hid (s.k ≠ 14) := Lib.hid (by have := eq_of_beq k12; omega)
                go_wp2_with (go_at_call 38; with_reducible refine (C38.out _ wr.heap.size (HBR.out.alloc (Nat.le_of_lt hsz5) _) (Nat.le_of_lt hsz5) (BlkN.at_ rfl _ _)).mono ?_; rintro e w6 ⟨β6, m6, rfl, -, hu6⟩; have HB6 := Lib.hid (below_upd (HBR.out.alloc (Nat.le_of_lt hsz5) _) hu6 (Nat.le_of_lt hsz5) (by simp; omega)); clear hu6)
                exact HP.out _ _ HB6.out (fun _ => HF.out H14.out)
              | false =>
                cases k14 : (s.k == 14) with
                | true =>
                  go_wp2_with (go_at_call 39; with_reducible refine (C39.out _).mono ?_; rintro e w6 ⟨rfl, rfl⟩)
                  exact HP.out _ _ HBR.out (fun h => HG.out (by unfold mayB at h; simpa using h))
                | false =>
                  have H14 : Hid (s.k ≠ 14) := Lib.hid (by have := ne_of_beq_false k14; omega)
                  go_wp2_with fail
                  exact HP.out _ _ HBR.out (fun _ => HF.out H14.out)
end
end Go.Proofs.Ythafojadcodkoaa
