/- The form of a plain cell. -/
import Derived.Test.YthafojadcodkoaaUh
namespace Go.Proofs.Ythafojadcodkoaa
open Go.RowKit Go.ChangeMaps

/-- A plain cell. -/
def cellW : WV := ⟨1, 0, 0, 0, ⟨#[]⟩, Option.none, 0, 0, 0, Option.none, 0, 0, 0, 0, 0, 0, 0, false, Option.none, 0, 0, Option.none, 0, 0⟩
def cellP : Pt := ⟨.mk 0 0 ⟨#[]⟩ [] 0, [], [], []⟩
theorem zero_va (w : World) (R : Nat → Nat → Prop) : IsVaR w R (.agg #[.int .u8 0, .int .i64 0, .string ⟨#[]⟩, .slice Option.none 0 0, .int .i64 0]) (.mk 0 0 ⟨#[]⟩ [] 0) := by
  unfold IsVaR
  exact ⟨by decide, by decide, by decide, by decide, Option.none, 0, Nat.le_refl _, rfl, fun h => absurd rfl h⟩
theorem zero_may : mayV (.mk 0 0 ⟨#[]⟩ [] 0) = true := by first | rfl | decide +kernel | simp [mayV]
theorem zero_of : ofCode [] = 0 := by first | rfl | decide +kernel | simp [ofCode, mayV]
theorem cell_is (w : World) (R : Nat → Nat → Prop) : IsWh w R cellW cellP := by
  unfold IsWh
  refine ⟨⟨by decide, by decide, by decide⟩, zero_va w R, ?_, ?_, ?_⟩ <;> exact ⟨rfl, Nat.le_refl _, by decide, fun h => absurd rfl h⟩
section
variable {w : World} {hi p tm fm : Nat} {ps cs : Value} {mA : Option Addr} {ml mc : Nat} {L : List Ent} {FL : List ((Int × Nat) × Int)} {lt : Int}
attribute [local irreducible] wpList
set_option maxRecDepth 100000 in
set_option maxHeartbeats 16000000 in
theorem form_cell (h : Wd w hi p tm fm ps cs (.slice mA ml mc) L FL lt) (hml : 0 < ml) :
    Calls Try.prog 15 #[.pointer (some ⟨p, 0, Option.none⟩), .agg #[.int .u8 1, .int .i64 0, .int .u8 0, .int .i64 0, .string ⟨#[]⟩, .slice Option.none 0 0, .int .i64 0, .slice Option.none 0 0, .int .i64 0, .int .i64 0, .int .i64 0, .int .i64 0, .int .u8 0, .bool false, .slice Option.none 0 0, .slice Option.none 0 0]] w fun e w' => e = .returned (.bool true) ∧ Below w.heap.size w w' := by
  have C33 := Lib.hid bare_cell
  have C34 := Lib.hid blank_zero
  have C35 : Hid (∀ w', Below w.heap.size w w' → Calls Try.prog 35 #[.pointer (some ⟨p, 0, Option.none⟩), .int .i64 0] w' fun e w2 => e = .returned (.bool true) ∧ w' = w2) := Lib.hid fun w' hb => (side_any (h.below hb) 0).mono fun e w2 hh => ⟨by rw [hh.1, decide_eq_true (by omega)], hh.2⟩
  have C36 : Hid (∀ w', Calls Try.prog 36 #[.agg #[.int .u8 0, .int .i64 0, .string ⟨#[]⟩, .slice Option.none 0 0, .int .i64 0]] w' fun e w2 => e = .returned (.bool true) ∧ Below w'.heap.size w' w2) := Lib.hid fun w' => (vmay_any (B := 0) w' (zero_va w' _) (Nat.zero_le _)).mono fun e w2 hh => ⟨hh.1.trans (by rw [zero_may]), hh.2⟩
  have C37 : Hid (∀ w', Calls Try.prog 37 #[.slice Option.none 0 0] w' fun e w2 => Below w'.heap.size w' w2 ∧ ∃ (k n : Int) (z : ByteArray) (A' : Option Addr) (len' cap' : Nat) (r : Int), e = .returned (.tuple #[.agg #[.int .u8 k, .int .i64 n, .string z, .slice A' len' cap', .int .i64 r], .int .i64 0])) := Lib.hid fun w' => (of37_any (B := 0) (A := Option.none) (len := 0) (cap := 0) (l := []) w' ⟨rfl, Nat.le_refl _, by decide, fun h => absurd rfl h⟩ (Nat.zero_le _)).mono fun e w2 hh => by rw [zero_of] at hh; exact hh
  obtain ⟨i0, hi0, hz0, hz1, hz2⟩ := info_parts info53
  have HIN := Lib.hid hi0
  clear h hi0 hml
  go_enter Try.func15, Try.ntmps15
  go_upto_region 2 with (go_at_call 33; refine (C33.out _).mono ?_; rintro e w1 ⟨hb1, rfl⟩; have HB1 := Lib.hid hb1; clear hb1)
  obtain ⟨W, hW⟩ : ∃ W, W = w1.alloc (.cells #[.int .u8 1, .int .i64 0, .int .u8 0, .int .i64 0, .string ⟨#[]⟩, .slice Option.none 0 0, .int .i64 0, .slice Option.none 0 0, .int .i64 0, .int .i64 0, .int .i64 0, .int .i64 0, .int .u8 0, .bool false, .slice Option.none 0 0, .slice Option.none 0 0] 53) := ⟨_, rfl⟩
  have HB : Hid (Below w.heap.size w W) := Lib.hid (by rw [hW]; exact Below.al ((Below.al (Below.refl _ _)).trans (HB1.out.mono (by simp))))
  have HS : Hid (BlkN W w.heap.size 53 #[.int .u8 1, .int .i64 0, .int .u8 0, .int .i64 0, .string ⟨#[]⟩, .slice Option.none 0 0, .int .i64 0, .slice Option.none 0 0, .int .i64 0, .int .i64 0, .int .i64 0, .int .i64 0, .int .u8 0, .bool false, .slice Option.none 0 0, .slice Option.none 0 0]) := Lib.hid (by rw [hW]; exact ((BlkN.at_ rfl _ _).below HB1.out).alloc _)
  have HT : Hid (BlkN W w1.heap.size 53 #[.int .u8 1, .int .i64 0, .int .u8 0, .int .i64 0, .string ⟨#[]⟩, .slice Option.none 0 0, .int .i64 0, .slice Option.none 0 0, .int .i64 0, .int .i64 0, .int .i64 0, .int .i64 0, .int .u8 0, .bool false, .slice Option.none 0 0, .slice Option.none 0 0]) := Lib.hid (by rw [hW]; exact BlkN.at_ rfl _ _)
  rw [← hW]
  clear hW HB1 C33
  have q0 := HS.out.cell (v := .int .u8 1) 0 rfl
  have r0 := HT.out.cell (v := .int .u8 1) 0 rfl
  have q1 := HS.out.cell (v := .int .i64 0) 1 rfl
  have r1 := HT.out.cell (v := .int .i64 0) 1 rfl
  have q2 := HS.out.cell (v := .int .u8 0) 2 rfl
  have r2 := HT.out.cell (v := .int .u8 0) 2 rfl
  have q3 := HS.out.cell (v := .int .i64 0) 3 rfl
  have r3 := HT.out.cell (v := .int .i64 0) 3 rfl
  have q4 := HS.out.cell (v := .string ⟨#[]⟩) 4 rfl
  have r4 := HT.out.cell (v := .string ⟨#[]⟩) 4 rfl
  have q5 := HS.out.cell (v := .slice Option.none 0 0) 5 rfl
  have r5 := HT.out.cell (v := .slice Option.none 0 0) 5 rfl
  have q6 := HS.out.cell (v := .int .i64 0) 6 rfl
  have r6 := HT.out.cell (v := .int .i64 0) 6 rfl
  have q7 := HS.out.cell (v := .slice Option.none 0 0) 7 rfl
  have r7 := HT.out.cell (v := .slice Option.none 0 0) 7 rfl
  have q8 := HS.out.cell (v := .int .i64 0) 8 rfl
  have r8 := HT.out.cell (v := .int .i64 0) 8 rfl
  have q9 := HS.out.cell (v := .int .i64 0) 9 rfl
  have r9 := HT.out.cell (v := .int .i64 0) 9 rfl
  have q10 := HS.out.cell (v := .int .i64 0) 10 rfl
  have r10 := HT.out.cell (v := .int .i64 0) 10 rfl
  have q11 := HS.out.cell (v := .int .i64 0) 11 rfl
  have r11 := HT.out.cell (v := .int .i64 0) 11 rfl
  have q12 := HS.out.cell (v := .int .u8 0) 12 rfl
  have r12 := HT.out.cell (v := .int .u8 0) 12 rfl
  have q13 := HS.out.cell (v := .bool false) 13 rfl
  have r13 := HT.out.cell (v := .bool false) 13 rfl
  have q14 := HS.out.cell (v := .slice Option.none 0 0) 14 rfl
  have r14 := HT.out.cell (v := .slice Option.none 0 0) 14 rfl
  have q15 := HS.out.cell (v := .slice Option.none 0 0) 15 rfl
  have r15 := HT.out.cell (v := .slice Option.none 0 0) 15 rfl
  go_upto_region 4 with fail
  go_upto_region 6 with (first
    | (go_at_call 34; refine (C34.out _).mono ?_; rintro e wA ⟨hA, rfl⟩; have HA := Lib.hid hA; clear hA; have p2 := (HS.out.below HA.out).cell (v := .int .u8 0) 2 rfl; have p3 := (HS.out.below HA.out).cell (v := .int .i64 0) 3 rfl; have p4 := (HS.out.below HA.out).cell (v := .string ⟨#[]⟩) 4 rfl; have p5 := (HS.out.below HA.out).cell (v := .slice Option.none 0 0) 5 rfl; have p6 := (HS.out.below HA.out).cell (v := .int .i64 0) 6 rfl)
    | (go_at_call 34; refine (C34.out _).mono ?_; rintro e wB ⟨hBB, rfl⟩; have HBB := Lib.hid hBB; clear hBB))
  have HB2 := Lib.hid (bnext (bnext HB.out HA.out) HBB.out)
  have HS2 := Lib.hid ((HS.out.below HA.out).below HBB.out)
  clear HA HBB HS HT HB C34 
  have s0 := HS2.out.cell (v := .int .u8 1) 0 rfl
  have s1 := HS2.out.cell (v := .int .i64 0) 1 rfl
  have s2 := HS2.out.cell (v := .int .u8 0) 2 rfl
  have s3 := HS2.out.cell (v := .int .i64 0) 3 rfl
  have s4 := HS2.out.cell (v := .string ⟨#[]⟩) 4 rfl
  have s5 := HS2.out.cell (v := .slice Option.none 0 0) 5 rfl
  have s6 := HS2.out.cell (v := .int .i64 0) 6 rfl
  go_upto_region 8 with (first
    | (go_at_call 35; refine (C35.out _ HB2.out).mono ?_; rintro e wC ⟨rfl, rfl⟩)
    | (go_at_call 36; refine (C36.out _).mono ?_; rintro e w3 ⟨rfl, hb3⟩; have HB3 := Lib.hid (bnext HB2.out hb3); have HS3 := Lib.hid (HS2.out.below hb3); clear hb3))
  have s3 := HS3.out.cell (v := .slice Option.none 0 0) 7 rfl
  go_upto_region 9 with (go_at_call 37; refine (C37.out _).mono ?_; rintro e w4 ⟨hb4, z1, z2, z3, z4, z5, z6, z7, rfl⟩; have HB4 := Lib.hid (bnext HB3.out hb4); have HS4 := Lib.hid (HS3.out.below hb4); clear hb4)
  obtain ⟨W4, hW4⟩ : ∃ W4, W4 = w4.alloc (.cells #[.int .u8 z1, .int .i64 z2, .string z3, .slice z4 z5 z6, .int .i64 z7] 49) := ⟨_, rfl⟩
  rw [← hW4]
  have HB5 : Hid (Below w.heap.size w W4) := Lib.hid (by rw [hW4]; exact HB4.out.alloc HB4.out.size _)
  have HS5 : Hid (BlkN W4 w.heap.size 53 #[.int .u8 1, .int .i64 0, .int .u8 0, .int .i64 0, .string ⟨#[]⟩, .slice Option.none 0 0, .int .i64 0, .slice Option.none 0 0, .int .i64 0, .int .i64 0, .int .i64 0, .int .i64 0, .int .u8 0, .bool false, .slice Option.none 0 0, .slice Option.none 0 0]) := Lib.hid (by rw [hW4]; exact HS4.out.alloc _)
  clear hW4 HB4 HS4 HS3 HB3 HB2 HS2 C35 C36 C37 s3
  have s15 := HS5.out.cell (v := .slice Option.none 0 0) 15 rfl
  have s0 := HS5.out.cell (v := .int .u8 1) 0 rfl
  go_upto_region 12 with fail
  go_loopw [139] (fun i wr => i = .int .i64 0 ∧ W4 = wr) (fun _ _ => 0)
  case atStart => exact ⟨rfl, by trivial⟩
  case round =>
    obtain ⟨rfl, rfl⟩ := hrel
    go_wp2_with fail
    go_ret
    exact ⟨rfl, HB5.out⟩
end
end Go.Proofs.Ythafojadcodkoaa
