/- Contracts of the forms of statements. may: what it says of any statement. -/
import Derived.Test.YtnknefdpglnbnaaP
import Derived.Test.YtnknefdpglnbnaaZ
import Derived.Test.YtnknefdpglnbnaaZb
import Derived.Test.YtnknefdpglnbnaaSg
import Derived.Test.YtnknefdpglnbnaaSf
import Derived.Test.YtnknefdpglnbnaaYb
import Derived.Test.YtnknefdpglnbnaaYd
namespace Go.Proofs.Ytnknefdpglnbnaa
open Go.RowKit

theorem forms7_any (s : SV) (w : World) : Calls Try.prog 147 #[.agg s.arr] w fun e w' => e = .returned (.tuple #[.agg SV.zero.arr, .bool true]) ∧ Below w.heap.size w w' := by
  have h17 := s.size
  go_enter Try.func147, Try.ntmps147
  go_wp2_with fail
  obtain ⟨i0, hi, hz0, hz1, hz2⟩ := info_parts info58
  exact bodyPost_ret (results_cell2 (s := 2) (t := 3) (b := w.heap.size + 1) rfl Try.underlying58 hi rfl (BlkN.at_ (w := w.alloc (.cells s.arr 58)) (by simp) 58 SV.zero.arr) (by rw [hz1]; rfl) rfl) rfl ⟨rfl, ((Below.refl _ _).alloc (Nat.le_refl _) _).alloc (by simp) _⟩
set_option maxRecDepth 100000 in
set_option maxHeartbeats 1000000 in
theorem forms1_any (s : SV) (a : Ex) (w : World) (B : Nat) (hB : B ≤ w.heap.size) (ha : IsEx w B s.a a) : Calls Try.prog 138 #[.agg s.arr] w fun e w' =>
    e = .returned (.tuple #[.agg ({ SV.zero with nm := s.nm, a0 := s.a0, a1 := s.a1, a2 := s.a2, aA := s.aA, al := s.al, ac := s.ac } : SV).arr, .bool (mayN s.nm && orNoneE a)]) ∧ Below w.heap.size w w' := by
  have h17 := s.size
  have HA := Lib.hid ha
  clear ha
  go_enter Try.func138, Try.ntmps138
  go_wp2_with fail
  obtain ⟨w0, hw0⟩ : ∃ w0, w0 = (w.alloc (.cells s.arr 58)).alloc (.cells SV.zero.arr 58) := ⟨_, rfl⟩
  have hw0' : (w.alloc (.cells s.arr 58)).alloc (.cells #[.int .u8 0, .string ⟨#[]⟩, .string ⟨#[]⟩, .int .u8 0, .int .u8 0, .int .u8 0, .int .i64 0, .string ⟨#[]⟩, .slice Option.none 0 0, .int .u8 0, .int .i64 0, .string ⟨#[]⟩, .slice Option.none 0 0, .slice Option.none 0 0, .slice Option.none 0 0, .slice Option.none 0 0, .slice Option.none 0 0] 58) = w0 := hw0.symm
  rw [hw0']
  have hS : BlkN w0 w.heap.size 58 s.arr := by rw [hw0]; exact (BlkN.at_ rfl _ _).alloc _
  have hR0 : BlkN w0 (w.heap.size + 1) 58 SV.zero.arr := by rw [hw0]; exact BlkN.at_ (by simp) _ _
  have hB0 : Below w.heap.size w w0 := by rw [hw0]; exact ((Below.refl _ _).alloc (Nat.le_refl _) _).alloc (by simp) _
  obtain ⟨i0, hi, hz0, hz1, hz2⟩ := info_parts info58
  have c1 := fun d os => cell_regrown (hS.cell 1 s.at1) d os
  have c5 := fun d os => cell_regrown (hS.cell 5 s.at5) d os
  have c6 := fun d os => cell_regrown (hS.cell 6 s.at6) d os
  have c7 := fun d os => cell_regrown (hS.cell 7 s.at7) d os
  have c8 := fun d os => cell_regrown (hS.cell 8 s.at8) d os
  clear hw0 hw0' hS
  cases hm : mayN s.nm
  · have HM := Lib.hid hm
    have cQ := fun d os => Calls.regrown_of (mayName_any s.nm (Sort.grow (redrawn w0 d) os))
    rw [hm] at cQ
    clear hm
    refine RegQ.region [5, 6, 7, 8, 9, 10, 11, 12, 0, 1, 2, 3, 4] [5, 6, 7, 8, 9, 10, 11, 0, 1, 2, 3, 4] [13, 14] [_, _, _, _, _, _, _, _, _, _, _, _, _] [_, _] rfl rfl (by kernel_rfl) (by kernel_rfl) (by kernel_rfl) (by kernel_rfl) (by kernel_rfl) (by kernel_rfl) ?_
    simp only [List.getElem_toArray, List.getElem_cons_zero, List.getElem_cons_succ]
    repeat (quiet_step (exact cQ _ _))
    refine wpQuiet_nil ?_
    rintro w1 ⟨pr, rfl⟩
    have hR1 := hR0.below (below_regrown w0 pr.d pr.os)
    refine wpList_store_blk rfl 58 (.tmp 2) (.tmp 8) rfl i0 hi (w.heap.size + 1) ({ SV.zero with nm := s.nm, a0 := s.a0, a1 := s.a1, a2 := s.a2, aA := s.aA, al := s.al, ac := s.ac } : SV).arr rfl rfl 58 _ hR1 (by rw [hz1]; rfl) rfl (SV.one _) ?_
    intro w2 hB2 hbut
    go_wp2_with fail
    simp only [RegT.NP, Exit.then]
    go_wp2_with fail
    refine bodyPost_ret (results_cell2 (s := 2) (t := 3) (b := w.heap.size + 1) rfl Try.underlying58 hi rfl hB2 (by rw [hz1]; rfl) rfl) rfl ⟨?_, ?_⟩
    · rw [HM.out]; rfl
    · exact hbut.below (Nat.le_succ _) (hB0.trans ((below_regrown w0 pr.d pr.os).mono hB0.size))
  · have HM := Lib.hid hm
    have cQ := fun d os => Calls.regrown_of (mayName_any s.nm (Sort.grow (redrawn w0 d) os))
    rw [hm] at cQ
    clear hm
    have cO := fun d os => Calls.regrown_of (orNone_any (Sort.grow (redrawn w0 d) os) ((HA.out.keep (fun b hb => hB0.block b (Nat.lt_of_lt_of_le hb hB))).keep (fun b hb => (below_regrown w0 d os).block b (Nat.lt_of_lt_of_le hb (Nat.le_trans hB hB0.size)))) (Nat.le_trans hB (Nat.le_trans hB0.size (below_regrown w0 d os).size)))
    refine RegQ.region [5, 6, 7, 8, 9, 10, 11, 12, 0, 1, 2, 3, 4] [5, 6, 7, 8, 9, 10, 11, 0, 1, 2, 3, 4] [13, 14] [_, _, _, _, _, _, _, _, _, _, _, _, _] [_, _] rfl rfl (by kernel_rfl) (by kernel_rfl) (by kernel_rfl) (by kernel_rfl) (by kernel_rfl) (by kernel_rfl) ?_
    simp only [List.getElem_toArray, List.getElem_cons_zero, List.getElem_cons_succ]
    repeat (quiet_step (first | exact cQ _ _ | exact cO _ _))
    refine wpQuiet_nil ?_
    rintro w1 ⟨pr, rfl⟩
    have hR1 := hR0.below (below_regrown w0 pr.d pr.os)
    refine wpList_store_blk rfl 58 (.tmp 2) (.tmp 8) rfl i0 hi (w.heap.size + 1) ({ SV.zero with nm := s.nm, a0 := s.a0, a1 := s.a1, a2 := s.a2, aA := s.aA, al := s.al, ac := s.ac } : SV).arr rfl rfl 58 _ hR1 (by rw [hz1]; rfl) rfl (SV.one _) ?_
    intro w2 hB2 hbut
    go_wp2_with fail
    simp only [RegT.NP, Exit.then]
    go_wp2_with fail
    refine bodyPost_ret (results_cell2 (s := 2) (t := 3) (b := w.heap.size + 1) rfl Try.underlying58 hi rfl hB2 (by rw [hz1]; rfl) rfl) rfl ⟨?_, ?_⟩
    · rw [HM.out]; rfl
    · exact hbut.below (Nat.le_succ _) (hB0.trans ((below_regrown w0 pr.d pr.os).mono hB0.size))
end Go.Proofs.Ytnknefdpglnbnaa
namespace Go.Proofs.Ytnknefdpglnbnaa
open Go.RowKit

attribute [local irreducible] wpQuiet RegT.seqT RegT.seqM wpList
theorem nz : noneX zE = true := by decide +kernel
theorem dz (n : Nat) : decide (0 = n) = (n == 0) := by rw [Bool.eq_iff_iff]; simp; omega
theorem cf138 (args : Array Value) (w : World) : (callFunc 138 args).run Try.prog w = .ok (.enter 138 args) w := by
  go_simp
theorem cf139 (args : Array Value) (w : World) : (callFunc 139 args).run Try.prog w = .ok (.enter 139 args) w := by
  go_simp
theorem cf141 (args : Array Value) (w : World) : (callFunc 141 args).run Try.prog w = .ok (.enter 141 args) w := by
  go_simp
theorem cf142 (args : Array Value) (w : World) : (callFunc 142 args).run Try.prog w = .ok (.enter 142 args) w := by
  go_simp
theorem cf143 (args : Array Value) (w : World) : (callFunc 143 args).run Try.prog w = .ok (.enter 143 args) w := by
  go_simp
theorem cf144 (args : Array Value) (w : World) : (callFunc 144 args).run Try.prog w = .ok (.enter 144 args) w := by
  go_simp
theorem cf146 (args : Array Value) (w : World) : (callFunc 146 args).run Try.prog w = .ok (.enter 146 args) w := by
  go_simp
theorem cf147 (args : Array Value) (w : World) : (callFunc 147 args).run Try.prog w = .ok (.enter 147 args) w := by
  go_simp
theorem cf148 (args : Array Value) (w : World) : (callFunc 148 args).run Try.prog w = .ok (.enter 148 args) w := by
  go_simp
set_option maxHeartbeats 1000000 in
theorem mayS1 (s : SV) (op : Int) (nm sec : ByteArray) (ab wh : Int) (a b : Ex) (t e c : List St) (ws : List ByteArray) (w : World) (B : Nat) (hB : B ≤ w.heap.size) (h : IsSt w B s (.mk op nm sec ab wh a b t e c ws)) (hop : op = 1) :
    Calls Try.prog 76 #[.agg s.arr] w fun e' w' => e' = .returned (.bool (mayS (.mk op nm sec ab wh a b t e c ws))) ∧ Below w.heap.size w w' := by
  obtain ⟨⟨g1, g2, g3, g4, g5⟩, ⟨b1, b2, b3, b4, b5, b6, b7, b8⟩, ha, hb, ht, he, hc, hw⟩ := h.form
  have hwl : s.wl = ws.length := by obtain ⟨_, _, A, cap, _, h4, _⟩ := hw; injection h4
  refine (may_hit s ({ SV.zero with nm := s.nm, a0 := s.a0, a1 := s.a1, a2 := s.a2, aA := s.aA, al := s.al, ac := s.ac } : SV) a b a zE _ 0 138 w B hB ha hb (ha) (zE_is w _) (by rw [g1, hop]; rfl) (fun w' => cf138 _ w') (fun w' hbw => forms1_any s a w' B (Nat.le_trans hB hbw.size) (ha.keep (fun b _ hb => hbw.block b (Nat.lt_of_lt_of_le hb hB))))).mono ?_
  rintro e' w' ⟨rfl, hb'⟩
  refine ⟨ret_bool ?_, hb'⟩
  have ht1 := ht.1
  have he1 := he.1
  have hc1 := hc.1
  simp [sameF, mayS, zS, SV.zero, hop, g2, g3, g4, g5, ht1, he1, hc1, hwl, nz, dz]
set_option maxHeartbeats 1000000 in
theorem mayS2 (s : SV) (op : Int) (nm sec : ByteArray) (ab wh : Int) (a b : Ex) (t e c : List St) (ws : List ByteArray) (w : World) (B : Nat) (hB : B ≤ w.heap.size) (h : IsSt w B s (.mk op nm sec ab wh a b t e c ws)) (hop : op = 2) :
    Calls Try.prog 76 #[.agg s.arr] w fun e' w' => e' = .returned (.bool (mayS (.mk op nm sec ab wh a b t e c ws))) ∧ Below w.heap.size w w' := by
  obtain ⟨⟨g1, g2, g3, g4, g5⟩, ⟨b1, b2, b3, b4, b5, b6, b7, b8⟩, ha, hb, ht, he, hc, hw⟩ := h.form
  have hwl : s.wl = ws.length := by obtain ⟨_, _, A, cap, _, h4, _⟩ := hw; injection h4
  refine (may_hit s ({ SV.zero with nm := s.nm, ab := s.ab, a0 := s.a0, a1 := s.a1, a2 := s.a2, aA := s.aA, al := s.al, ac := s.ac, b0 := s.b0, b1 := s.b1, b2 := s.b2, bA := s.bA, bl := s.bl, bc := s.bc } : SV) a b a b _ 1 139 w B hB ha hb (ha) (hb) (by rw [g1, hop]; rfl) (fun w' => cf139 _ w') (fun w' hbw => forms2_any s a b w' B (Nat.le_trans hB hbw.size) (ha.keep (fun b _ hb => hbw.block b (Nat.lt_of_lt_of_le hb hB))) (hb.keep (fun b _ hb => hbw.block b (Nat.lt_of_lt_of_le hb hB))) (by omega) (by omega))).mono ?_
  rintro e' w' ⟨rfl, hb'⟩
  refine ⟨ret_bool ?_, hb'⟩
  have ht1 := ht.1
  have he1 := he.1
  have hc1 := hc.1
  simp [sameF, mayS, zS, SV.zero, hop, g2, g3, g4, g5, ht1, he1, hc1, hwl, dz]
set_option maxHeartbeats 1000000 in
theorem mayS4 (s : SV) (op : Int) (nm sec : ByteArray) (ab wh : Int) (a b : Ex) (t e c : List St) (ws : List ByteArray) (w : World) (B : Nat) (hB : B ≤ w.heap.size) (h : IsSt w B s (.mk op nm sec ab wh a b t e c ws)) (hop : op = 4) :
    Calls Try.prog 76 #[.agg s.arr] w fun e' w' => e' = .returned (.bool (mayS (.mk op nm sec ab wh a b t e c ws))) ∧ Below w.heap.size w w' := by
  obtain ⟨⟨g1, g2, g3, g4, g5⟩, ⟨b1, b2, b3, b4, b5, b6, b7, b8⟩, ha, hb, ht, he, hc, hw⟩ := h.form
  have hwl : s.wl = ws.length := by obtain ⟨_, _, A, cap, _, h4, _⟩ := hw; injection h4
  refine (may_hit s ({ SV.zero with nm := s.nm, a0 := s.a0, a1 := s.a1, a2 := s.a2, aA := s.aA, al := s.al, ac := s.ac, b0 := s.b0, b1 := s.b1, b2 := s.b2, bA := s.bA, bl := s.bl, bc := s.bc } : SV) a b a b _ 3 142 w B hB ha hb (ha) (hb) (by rw [g1, hop]; rfl) (fun w' => cf142 _ w') (fun w' hbw => forms3_any s a b w' B (Nat.le_trans hB hbw.size) (ha.keep (fun b _ hb => hbw.block b (Nat.lt_of_lt_of_le hb hB))) (hb.keep (fun b _ hb => hbw.block b (Nat.lt_of_lt_of_le hb hB))))).mono ?_
  rintro e' w' ⟨rfl, hb'⟩
  refine ⟨ret_bool ?_, hb'⟩
  have ht1 := ht.1
  have he1 := he.1
  have hc1 := hc.1
  simp [sameF, mayS, zS, SV.zero, hop, g2, g3, g4, g5, ht1, he1, hc1, hwl, dz]
set_option maxHeartbeats 1000000 in
theorem mayS5 (s : SV) (op : Int) (nm sec : ByteArray) (ab wh : Int) (a b : Ex) (t e c : List St) (ws : List ByteArray) (w : World) (B : Nat) (hB : B ≤ w.heap.size) (h : IsSt w B s (.mk op nm sec ab wh a b t e c ws)) (hop : op = 5) :
    Calls Try.prog 76 #[.agg s.arr] w fun e' w' => e' = .returned (.bool (mayS (.mk op nm sec ab wh a b t e c ws))) ∧ Below w.heap.size w w' := by
  obtain ⟨⟨g1, g2, g3, g4, g5⟩, ⟨b1, b2, b3, b4, b5, b6, b7, b8⟩, ha, hb, ht, he, hc, hw⟩ := h.form
  have hwl : s.wl = ws.length := by obtain ⟨_, _, A, cap, _, h4, _⟩ := hw; injection h4
  refine (may_hit s ({ SV.zero with a0 := s.a0, a1 := s.a1, a2 := s.a2, aA := s.aA, al := s.al, ac := s.ac, b0 := s.b0, b1 := s.b1, b2 := s.b2, bA := s.bA, bl := s.bl, bc := s.bc, tA := s.tA, tl := s.tl, tc := s.tc, eA := s.eA, el := s.el, ec := s.ec } : SV) a b a b _ 4 143 w B hB ha hb (ha) (hb) (by rw [g1, hop]; rfl) (fun w' => cf143 _ w') (fun w' hbw => forms4_any s a b w' B (Nat.le_trans hB hbw.size) (ha.keep (fun b _ hb => hbw.block b (Nat.lt_of_lt_of_le hb hB))) (hb.keep (fun b _ hb => hbw.block b (Nat.lt_of_lt_of_le hb hB))))).mono ?_
  rintro e' w' ⟨rfl, hb'⟩
  refine ⟨ret_bool ?_, hb'⟩
  have ht1 := ht.1
  have he1 := he.1
  have hc1 := hc.1
  simp [sameF, mayS, zS, SV.zero, hop, g2, g3, g4, g5, ht1, he1, hc1, hwl, dz]
set_option maxHeartbeats 1000000 in
theorem mayS6 (s : SV) (op : Int) (nm sec : ByteArray) (ab wh : Int) (a b : Ex) (t e c : List St) (ws : List ByteArray) (w : World) (B : Nat) (hB : B ≤ w.heap.size) (h : IsSt w B s (.mk op nm sec ab wh a b t e c ws)) (hop : op = 6) :
    Calls Try.prog 76 #[.agg s.arr] w fun e' w' => e' = .returned (.bool (mayS (.mk op nm sec ab wh a b t e c ws))) ∧ Below w.heap.size w w' := by
  obtain ⟨⟨g1, g2, g3, g4, g5⟩, ⟨b1, b2, b3, b4, b5, b6, b7, b8⟩, ha, hb, ht, he, hc, hw⟩ := h.form
  have hwl : s.wl = ws.length := by obtain ⟨_, _, A, cap, _, h4, _⟩ := hw; injection h4
  refine (may_hit s ({ SV.zero with a0 := s.a0, a1 := s.a1, a2 := s.a2, aA := s.aA, al := s.al, ac := s.ac, ab := s.ab, tA := s.tA, tl := s.tl, tc := s.tc, eA := s.eA, el := s.el, ec := s.ec } : SV) a b a zE _ 5 144 w B hB ha hb (ha) (zE_is w _) (by rw [g1, hop]; rfl) (fun w' => cf144 _ w') (fun w' hbw => forms5_any s a w' B (Nat.le_trans hB hbw.size) (ha.keep (fun b _ hb => hbw.block b (Nat.lt_of_lt_of_le hb hB))) (by omega) (by omega))).mono ?_
  rintro e' w' ⟨rfl, hb'⟩
  refine ⟨ret_bool ?_, hb'⟩
  have ht1 := ht.1
  have he1 := he.1
  have hc1 := hc.1
  simp [sameF, mayS, zS, SV.zero, hop, g2, g3, g4, g5, ht1, he1, hc1, hwl, nz, dz]
set_option maxHeartbeats 1000000 in
theorem mayS7 (s : SV) (op : Int) (nm sec : ByteArray) (ab wh : Int) (a b : Ex) (t e c : List St) (ws : List ByteArray) (w : World) (B : Nat) (hB : B ≤ w.heap.size) (h : IsSt w B s (.mk op nm sec ab wh a b t e c ws)) (hop : op = 7) :
    Calls Try.prog 76 #[.agg s.arr] w fun e' w' => e' = .returned (.bool (mayS (.mk op nm sec ab wh a b t e c ws))) ∧ Below w.heap.size w w' := by
  obtain ⟨⟨g1, g2, g3, g4, g5⟩, ⟨b1, b2, b3, b4, b5, b6, b7, b8⟩, ha, hb, ht, he, hc, hw⟩ := h.form
  have hwl : s.wl = ws.length := by obtain ⟨_, _, A, cap, _, h4, _⟩ := hw; injection h4
  refine (may_hit s ({ SV.zero with a0 := s.a0, a1 := s.a1, a2 := s.a2, aA := s.aA, al := s.al, ac := s.ac } : SV) a b a zE _ 6 146 w B hB ha hb (ha) (zE_is w _) (by rw [g1, hop]; rfl) (fun w' => cf146 _ w') (fun w' hbw => forms6_any s a w' B (Nat.le_trans hB hbw.size) (ha.keep (fun b _ hb => hbw.block b (Nat.lt_of_lt_of_le hb hB))))).mono ?_
  rintro e' w' ⟨rfl, hb'⟩
  refine ⟨ret_bool ?_, hb'⟩
  have ht1 := ht.1
  have he1 := he.1
  have hc1 := hc.1
  simp [sameF, mayS, zS, SV.zero, hop, g2, g3, g4, g5, ht1, he1, hc1, hwl, nz, dz]
set_option maxHeartbeats 1000000 in
theorem mayS8 (s : SV) (op : Int) (nm sec : ByteArray) (ab wh : Int) (a b : Ex) (t e c : List St) (ws : List ByteArray) (w : World) (B : Nat) (hB : B ≤ w.heap.size) (h : IsSt w B s (.mk op nm sec ab wh a b t e c ws)) (hop : op = 8) :
    Calls Try.prog 76 #[.agg s.arr] w fun e' w' => e' = .returned (.bool (mayS (.mk op nm sec ab wh a b t e c ws))) ∧ Below w.heap.size w w' := by
  obtain ⟨⟨g1, g2, g3, g4, g5⟩, ⟨b1, b2, b3, b4, b5, b6, b7, b8⟩, ha, hb, ht, he, hc, hw⟩ := h.form
  have hwl : s.wl = ws.length := by obtain ⟨_, _, A, cap, _, h4, _⟩ := hw; injection h4
  refine (may_hit s SV.zero a b zE zE _ 7 147 w B hB ha hb (zE_is w _) (zE_is w _) (by rw [g1, hop]; rfl) (fun w' => cf147 _ w') (fun w' hbw => forms7_any s w')).mono ?_
  rintro e' w' ⟨rfl, hb'⟩
  refine ⟨ret_bool ?_, hb'⟩
  have ht1 := ht.1
  have he1 := he.1
  have hc1 := hc.1
  simp [sameF, mayS, zS, SV.zero, hop, g2, g3, g4, g5, ht1, he1, hc1, hwl, nz, dz]
set_option maxHeartbeats 1000000 in
theorem mayS9 (s : SV) (op : Int) (nm sec : ByteArray) (ab wh : Int) (a b : Ex) (t e c : List St) (ws : List ByteArray) (w : World) (B : Nat) (hB : B ≤ w.heap.size) (h : IsSt w B s (.mk op nm sec ab wh a b t e c ws)) (hop : op = 9) :
    Calls Try.prog 76 #[.agg s.arr] w fun e' w' => e' = .returned (.bool (mayS (.mk op nm sec ab wh a b t e c ws))) ∧ Below w.heap.size w w' := by
  obtain ⟨⟨g1, g2, g3, g4, g5⟩, ⟨b1, b2, b3, b4, b5, b6, b7, b8⟩, ha, hb, ht, he, hc, hw⟩ := h.form
  have hwl : s.wl = ws.length := by obtain ⟨_, _, A, cap, _, h4, _⟩ := hw; injection h4
  refine (may_hit s ({ SV.zero with nm := s.nm, a0 := s.a0, a1 := s.a1, a2 := s.a2, aA := s.aA, al := s.al, ac := s.ac } : SV) a b a zE _ 8 148 w B hB ha hb (ha) (zE_is w _) (by rw [g1, hop]; rfl) (fun w' => cf148 _ w') (fun w' hbw => forms8_any s a w' B (Nat.le_trans hB hbw.size) (ha.keep (fun b _ hb => hbw.block b (Nat.lt_of_lt_of_le hb hB))))).mono ?_
  rintro e' w' ⟨rfl, hb'⟩
  refine ⟨ret_bool ?_, hb'⟩
  have ht1 := ht.1
  have he1 := he.1
  have hc1 := hc.1
  simp [sameF, mayS, zS, SV.zero, hop, g2, g3, g4, g5, ht1, he1, hc1, hwl, nz, dz]
set_option maxHeartbeats 1000000 in
theorem mayM1 (s : SV) (op : Int) (nm sec : ByteArray) (ab wh : Int) (a b : Ex) (t e c : List St) (ws : List ByteArray) (w : World) (B : Nat) (hB : B ≤ w.heap.size) (h : IsSt w B s (.mk op nm sec ab wh a b t e c ws)) (hop : op = 3) (hwh : wh = 1) :
    Calls Try.prog 76 #[.agg s.arr] w fun e' w' => e' = .returned (.bool (mayS (.mk op nm sec ab wh a b t e c ws))) ∧ Below w.heap.size w w' := by
  obtain ⟨⟨g1, g2, g3, g4, g5⟩, ⟨b1, b2, b3, b4, b5, b6, b7, b8⟩, ha, hb, ht, he, hc, hw⟩ := h.form
  have hwl : s.wl = ws.length := by obtain ⟨_, _, A, cap, _, h4, _⟩ := hw; injection h4
  refine (may_hit s ({ SV.zero with nm := s.nm, wh := s.wh, a0 := s.a0, a1 := s.a1, a2 := s.a2, aA := s.aA, al := s.al, ac := s.ac } : SV) a b a zE _ 2 141 w B hB ha hb (ha) (zE_is w _) (by rw [g1, hop]; rfl) (fun w' => cf141 _ w') (fun w' hbw => makesW1_any s a w' B (Nat.le_trans hB hbw.size) (ha.keep (fun b _ hb => hbw.block b (Nat.lt_of_lt_of_le hb hB))) (by omega))).mono ?_
  rintro e' w' ⟨rfl, hb'⟩
  refine ⟨ret_bool ?_, hb'⟩
  have ht1 := ht.1
  have he1 := he.1
  have hc1 := hc.1
  simp [sameF, mayS, zS, SV.zero, hop, g2, g3, g4, g5, ht1, he1, hc1, hwl, nz, dz, hwh]
set_option maxHeartbeats 1000000 in
theorem mayM2 (s : SV) (op : Int) (nm sec : ByteArray) (ab wh : Int) (a b : Ex) (t e c : List St) (ws : List ByteArray) (w : World) (B : Nat) (hB : B ≤ w.heap.size) (h : IsSt w B s (.mk op nm sec ab wh a b t e c ws)) (hop : op = 3) (hwh : wh = 2) :
    Calls Try.prog 76 #[.agg s.arr] w fun e' w' => e' = .returned (.bool (mayS (.mk op nm sec ab wh a b t e c ws))) ∧ Below w.heap.size w w' := by
  obtain ⟨⟨g1, g2, g3, g4, g5⟩, ⟨b1, b2, b3, b4, b5, b6, b7, b8⟩, ha, hb, ht, he, hc, hw⟩ := h.form
  have hwl : s.wl = ws.length := by obtain ⟨_, _, A, cap, _, h4, _⟩ := hw; injection h4
  refine (may_hit s ({ SV.zero with nm := s.nm, wh := s.wh } : SV) a b zE zE _ 2 141 w B hB ha hb (zE_is w _) (zE_is w _) (by rw [g1, hop]; rfl) (fun w' => cf141 _ w') (fun w' hbw => makesW2_any s w' (by omega))).mono ?_
  rintro e' w' ⟨rfl, hb'⟩
  refine ⟨ret_bool ?_, hb'⟩
  have ht1 := ht.1
  have he1 := he.1
  have hc1 := hc.1
  simp [sameF, mayS, zS, SV.zero, hop, g2, g3, g4, g5, ht1, he1, hc1, hwl, nz, dz, hwh]
set_option maxHeartbeats 1000000 in
theorem mayM3 (s : SV) (op : Int) (nm sec : ByteArray) (ab wh : Int) (a b : Ex) (t e c : List St) (ws : List ByteArray) (w : World) (B : Nat) (hB : B ≤ w.heap.size) (h : IsSt w B s (.mk op nm sec ab wh a b t e c ws)) (hop : op = 3) (hwh : wh = 3) :
    Calls Try.prog 76 #[.agg s.arr] w fun e' w' => e' = .returned (.bool (mayS (.mk op nm sec ab wh a b t e c ws))) ∧ Below w.heap.size w w' := by
  obtain ⟨⟨g1, g2, g3, g4, g5⟩, ⟨b1, b2, b3, b4, b5, b6, b7, b8⟩, ha, hb, ht, he, hc, hw⟩ := h.form
  have hwl : s.wl = ws.length := by obtain ⟨_, _, A, cap, _, h4, _⟩ := hw; injection h4
  refine (may_hit s ({ SV.zero with nm := s.nm, wh := s.wh } : SV) a b zE zE _ 2 141 w B hB ha hb (zE_is w _) (zE_is w _) (by rw [g1, hop]; rfl) (fun w' => cf141 _ w') (fun w' hbw => makesW3_any s w' (by omega))).mono ?_
  rintro e' w' ⟨rfl, hb'⟩
  refine ⟨ret_bool ?_, hb'⟩
  have ht1 := ht.1
  have he1 := he.1
  have hc1 := hc.1
  simp [sameF, mayS, zS, SV.zero, hop, g2, g3, g4, g5, ht1, he1, hc1, hwl, nz, dz, hwh]
set_option maxHeartbeats 1000000 in
theorem mayM4 (s : SV) (op : Int) (nm sec : ByteArray) (ab wh : Int) (a b : Ex) (t e c : List St) (ws : List ByteArray) (w : World) (B : Nat) (hB : B ≤ w.heap.size) (h : IsSt w B s (.mk op nm sec ab wh a b t e c ws)) (hop : op = 3) (hwh : wh = 4) :
    Calls Try.prog 76 #[.agg s.arr] w fun e' w' => e' = .returned (.bool (mayS (.mk op nm sec ab wh a b t e c ws))) ∧ Below w.heap.size w w' := by
  obtain ⟨⟨g1, g2, g3, g4, g5⟩, ⟨b1, b2, b3, b4, b5, b6, b7, b8⟩, ha, hb, ht, he, hc, hw⟩ := h.form
  have hwl : s.wl = ws.length := by obtain ⟨_, _, A, cap, _, h4, _⟩ := hw; injection h4
  refine (may_hit s ({ SV.zero with nm := s.nm, wh := s.wh } : SV) a b zE zE _ 2 141 w B hB ha hb (zE_is w _) (zE_is w _) (by rw [g1, hop]; rfl) (fun w' => cf141 _ w') (fun w' hbw => makesW4_any s w' (by omega))).mono ?_
  rintro e' w' ⟨rfl, hb'⟩
  refine ⟨ret_bool ?_, hb'⟩
  have ht1 := ht.1
  have he1 := he.1
  have hc1 := hc.1
  simp [sameF, mayS, zS, SV.zero, hop, g2, g3, g4, g5, ht1, he1, hc1, hwl, nz, dz, hwh]
set_option maxHeartbeats 1000000 in
theorem mayM8 (s : SV) (op : Int) (nm sec : ByteArray) (ab wh : Int) (a b : Ex) (t e c : List St) (ws : List ByteArray) (w : World) (B : Nat) (hB : B ≤ w.heap.size) (h : IsSt w B s (.mk op nm sec ab wh a b t e c ws)) (hop : op = 3) (hwh : wh = 8) :
    Calls Try.prog 76 #[.agg s.arr] w fun e' w' => e' = .returned (.bool (mayS (.mk op nm sec ab wh a b t e c ws))) ∧ Below w.heap.size w w' := by
  obtain ⟨⟨g1, g2, g3, g4, g5⟩, ⟨b1, b2, b3, b4, b5, b6, b7, b8⟩, ha, hb, ht, he, hc, hw⟩ := h.form
  have hwl : s.wl = ws.length := by obtain ⟨_, _, A, cap, _, h4, _⟩ := hw; injection h4
  refine (may_hit s ({ SV.zero with nm := s.nm, wh := s.wh } : SV) a b zE zE _ 2 141 w B hB ha hb (zE_is w _) (zE_is w _) (by rw [g1, hop]; rfl) (fun w' => cf141 _ w') (fun w' hbw => makesW8_any s w' (by omega))).mono ?_
  rintro e' w' ⟨rfl, hb'⟩
  refine ⟨ret_bool ?_, hb'⟩
  have ht1 := ht.1
  have he1 := he.1
  have hc1 := hc.1
  simp [sameF, mayS, zS, SV.zero, hop, g2, g3, g4, g5, ht1, he1, hc1, hwl, nz, dz, hwh]
set_option maxHeartbeats 1000000 in
theorem mayM14 (s : SV) (op : Int) (nm sec : ByteArray) (ab wh : Int) (a b : Ex) (t e c : List St) (ws : List ByteArray) (w : World) (B : Nat) (hB : B ≤ w.heap.size) (h : IsSt w B s (.mk op nm sec ab wh a b t e c ws)) (hop : op = 3) (hwh : wh = 14) :
    Calls Try.prog 76 #[.agg s.arr] w fun e' w' => e' = .returned (.bool (mayS (.mk op nm sec ab wh a b t e c ws))) ∧ Below w.heap.size w w' := by
  obtain ⟨⟨g1, g2, g3, g4, g5⟩, ⟨b1, b2, b3, b4, b5, b6, b7, b8⟩, ha, hb, ht, he, hc, hw⟩ := h.form
  have hwl : s.wl = ws.length := by obtain ⟨_, _, A, cap, _, h4, _⟩ := hw; injection h4
  refine (may_hit s ({ SV.zero with nm := s.nm, wh := s.wh, a0 := s.a0, a1 := s.a1, a2 := s.a2, aA := s.aA, al := s.al, ac := s.ac, ab := s.ab } : SV) a b a zE _ 2 141 w B hB ha hb (ha) (zE_is w _) (by rw [g1, hop]; rfl) (fun w' => cf141 _ w') (fun w' hbw => makesW14_any s a w' B (Nat.le_trans hB hbw.size) (ha.keep (fun b _ hb => hbw.block b (Nat.lt_of_lt_of_le hb hB))) (by omega) (by omega) (by omega))).mono ?_
  rintro e' w' ⟨rfl, hb'⟩
  refine ⟨ret_bool ?_, hb'⟩
  have ht1 := ht.1
  have he1 := he.1
  have hc1 := hc.1
  simp [sameF, mayS, zS, SV.zero, hop, g2, g3, g4, g5, ht1, he1, hc1, hwl, nz, dz, hwh]
set_option maxHeartbeats 1000000 in
theorem mayM15 (s : SV) (op : Int) (nm sec : ByteArray) (ab wh : Int) (a b : Ex) (t e c : List St) (ws : List ByteArray) (w : World) (B : Nat) (hB : B ≤ w.heap.size) (h : IsSt w B s (.mk op nm sec ab wh a b t e c ws)) (hop : op = 3) (hwh : wh = 15) :
    Calls Try.prog 76 #[.agg s.arr] w fun e' w' => e' = .returned (.bool (mayS (.mk op nm sec ab wh a b t e c ws))) ∧ Below w.heap.size w w' := by
  obtain ⟨⟨g1, g2, g3, g4, g5⟩, ⟨b1, b2, b3, b4, b5, b6, b7, b8⟩, ha, hb, ht, he, hc, hw⟩ := h.form
  have hwl : s.wl = ws.length := by obtain ⟨_, _, A, cap, _, h4, _⟩ := hw; injection h4
  refine (may_hit s ({ SV.zero with nm := s.nm, wh := s.wh, sec := s.sec, a0 := s.a0, a1 := s.a1, a2 := s.a2, aA := s.aA, al := s.al, ac := s.ac } : SV) a b a zE _ 2 141 w B hB ha hb (ha) (zE_is w _) (by rw [g1, hop]; rfl) (fun w' => cf141 _ w') (fun w' hbw => makesW15_any s a w' B (Nat.le_trans hB hbw.size) (ha.keep (fun b _ hb => hbw.block b (Nat.lt_of_lt_of_le hb hB))) (by omega))).mono ?_
  rintro e' w' ⟨rfl, hb'⟩
  refine ⟨ret_bool ?_, hb'⟩
  have ht1 := ht.1
  have he1 := he.1
  have hc1 := hc.1
  simp [sameF, mayS, zS, SV.zero, hop, g2, g3, g4, g5, ht1, he1, hc1, hwl, nz, dz, hwh]
set_option maxHeartbeats 1000000 in
theorem mayM16 (s : SV) (op : Int) (nm sec : ByteArray) (ab wh : Int) (a b : Ex) (t e c : List St) (ws : List ByteArray) (w : World) (B : Nat) (hB : B ≤ w.heap.size) (h : IsSt w B s (.mk op nm sec ab wh a b t e c ws)) (hop : op = 3) (hwh : wh = 16) :
    Calls Try.prog 76 #[.agg s.arr] w fun e' w' => e' = .returned (.bool (mayS (.mk op nm sec ab wh a b t e c ws))) ∧ Below w.heap.size w w' := by
  obtain ⟨⟨g1, g2, g3, g4, g5⟩, ⟨b1, b2, b3, b4, b5, b6, b7, b8⟩, ha, hb, ht, he, hc, hw⟩ := h.form
  have hwl : s.wl = ws.length := by obtain ⟨_, _, A, cap, _, h4, _⟩ := hw; injection h4
  refine (may_hit s ({ SV.zero with nm := s.nm, wh := s.wh, sec := s.sec, a0 := s.a0, a1 := s.a1, a2 := s.a2, aA := s.aA, al := s.al, ac := s.ac } : SV) a b a zE _ 2 141 w B hB ha hb (ha) (zE_is w _) (by rw [g1, hop]; rfl) (fun w' => cf141 _ w') (fun w' hbw => makesW16_any s a w' B (Nat.le_trans hB hbw.size) (ha.keep (fun b _ hb => hbw.block b (Nat.lt_of_lt_of_le hb hB))) (by omega))).mono ?_
  rintro e' w' ⟨rfl, hb'⟩
  refine ⟨ret_bool ?_, hb'⟩
  have ht1 := ht.1
  have he1 := he.1
  have hc1 := hc.1
  simp [sameF, mayS, zS, SV.zero, hop, g2, g3, g4, g5, ht1, he1, hc1, hwl, nz, dz, hwh]
set_option maxHeartbeats 1000000 in
theorem mayM5 (s : SV) (op : Int) (nm sec : ByteArray) (ab wh : Int) (a b : Ex) (t e c : List St) (ws : List ByteArray) (w : World) (B : Nat) (hB : B ≤ w.heap.size) (h : IsSt w B s (.mk op nm sec ab wh a b t e c ws)) (hop : op = 3) (hwh : wh = 5) :
    Calls Try.prog 76 #[.agg s.arr] w fun e' w' => e' = .returned (.bool (mayS (.mk op nm sec ab wh a b t e c ws))) ∧ Below w.heap.size w w' := by
  obtain ⟨⟨g1, g2, g3, g4, g5⟩, ⟨b1, b2, b3, b4, b5, b6, b7, b8⟩, ha, hb, ht, he, hc, hw⟩ := h.form
  have hwl : s.wl = ws.length := by obtain ⟨_, _, A, cap, _, h4, _⟩ := hw; injection h4
  refine (may_hit s ({ SV.zero with nm := s.nm, wh := s.wh, sec := s.sec } : SV) a b zE zE _ 2 141 w B hB ha hb (zE_is w _) (zE_is w _) (by rw [g1, hop]; rfl) (fun w' => cf141 _ w') (fun w' hbw => makesW5_any s w' B (Nat.le_trans hB hbw.size) (by omega))).mono ?_
  rintro e' w' ⟨rfl, hb'⟩
  refine ⟨ret_bool ?_, hb'⟩
  have ht1 := ht.1
  have he1 := he.1
  have hc1 := hc.1
  simp [sameF, mayS, zS, SV.zero, hop, g2, g3, g4, g5, ht1, he1, hc1, hwl, nz, dz, hwh]
set_option maxHeartbeats 1000000 in
theorem mayM10 (s : SV) (op : Int) (nm sec : ByteArray) (ab wh : Int) (a b : Ex) (t e c : List St) (ws : List ByteArray) (w : World) (B : Nat) (hB : B ≤ w.heap.size) (h : IsSt w B s (.mk op nm sec ab wh a b t e c ws)) (hop : op = 3) (hwh : wh = 10) :
    Calls Try.prog 76 #[.agg s.arr] w fun e' w' => e' = .returned (.bool (mayS (.mk op nm sec ab wh a b t e c ws))) ∧ Below w.heap.size w w' := by
  obtain ⟨⟨g1, g2, g3, g4, g5⟩, ⟨b1, b2, b3, b4, b5, b6, b7, b8⟩, ha, hb, ht, he, hc, hw⟩ := h.form
  have hwl : s.wl = ws.length := by obtain ⟨_, _, A, cap, _, h4, _⟩ := hw; injection h4
  refine (may_hit s ({ SV.zero with nm := s.nm, wh := s.wh, sec := s.sec } : SV) a b zE zE _ 2 141 w B hB ha hb (zE_is w _) (zE_is w _) (by rw [g1, hop]; rfl) (fun w' => cf141 _ w') (fun w' hbw => makesW10_any s w' B (Nat.le_trans hB hbw.size) (by omega))).mono ?_
  rintro e' w' ⟨rfl, hb'⟩
  refine ⟨ret_bool ?_, hb'⟩
  have ht1 := ht.1
  have he1 := he.1
  have hc1 := hc.1
  simp [sameF, mayS, zS, SV.zero, hop, g2, g3, g4, g5, ht1, he1, hc1, hwl, nz, dz, hwh]
set_option maxHeartbeats 1000000 in
theorem mayM12 (s : SV) (op : Int) (nm sec : ByteArray) (ab wh : Int) (a b : Ex) (t e c : List St) (ws : List ByteArray) (w : World) (B : Nat) (hB : B ≤ w.heap.size) (h : IsSt w B s (.mk op nm sec ab wh a b t e c ws)) (hop : op = 3) (hwh : wh = 12) :
    Calls Try.prog 76 #[.agg s.arr] w fun e' w' => e' = .returned (.bool (mayS (.mk op nm sec ab wh a b t e c ws))) ∧ Below w.heap.size w w' := by
  obtain ⟨⟨g1, g2, g3, g4, g5⟩, ⟨b1, b2, b3, b4, b5, b6, b7, b8⟩, ha, hb, ht, he, hc, hw⟩ := h.form
  have hwl : s.wl = ws.length := by obtain ⟨_, _, A, cap, _, h4, _⟩ := hw; injection h4
  refine (may_hit s ({ SV.zero with nm := s.nm, wh := s.wh, cA := s.cA, cl := s.cl, cc := s.cc, wA := s.wA, wl := s.wl, wc := s.wc } : SV) a b zE zE _ 2 141 w B hB ha hb (zE_is w _) (zE_is w _) (by rw [g1, hop]; rfl) (fun w' => cf141 _ w') (fun w' hbw => makesW12_any s ws w' B (Nat.le_trans hB hbw.size) (hw.keep (fun b _ hb => hbw.block b (Nat.lt_of_lt_of_le hb hB))) (by omega))).mono ?_
  rintro e' w' ⟨rfl, hb'⟩
  refine ⟨ret_bool ?_, hb'⟩
  have ht1 := ht.1
  have he1 := he.1
  have hc1 := hc.1
  simp [sameF, mayS, zS, SV.zero, hop, g2, g3, g4, g5, ht1, he1, hc1, hwl, nz, dz, hwh]
set_option maxHeartbeats 1000000 in
set_option maxRecDepth 100000 in
theorem mayMx (s : SV) (op : Int) (nm sec : ByteArray) (ab wh : Int) (a b : Ex) (t e c : List St) (ws : List ByteArray) (w : World) (B : Nat) (hB : B ≤ w.heap.size) (h : IsSt w B s (.mk op nm sec ab wh a b t e c ws)) (hop : op = 3) (q1 : wh ≠ 1) (q2 : wh ≠ 2) (q3 : wh ≠ 3) (q4 : wh ≠ 4) (q8 : wh ≠ 8) (q14 : wh ≠ 14) (q15 : wh ≠ 15) (q16 : wh ≠ 16) (q5 : wh ≠ 5) (q10 : wh ≠ 10) (q12 : wh ≠ 12) :
    Calls Try.prog 76 #[.agg s.arr] w fun e' w' => e' = .returned (.bool (mayS (.mk op nm sec ab wh a b t e c ws))) ∧ Below w.heap.size w w' := by
  obtain ⟨⟨g1, g2, g3, g4, g5⟩, ⟨b1, b2, b3, b4, b5, b6, b7, b8⟩, ha, hb, ht, he, hc, hw⟩ := h.form
  refine (may_hit s ({ SV.zero with nm := s.nm, wh := s.wh } : SV) a b zE zE _ 2 141 w B hB ha hb (zE_is w _) (zE_is w _) (by rw [g1, hop]; rfl) (fun w' => cf141 _ w') (fun w' hbw => makesWx_any s w' (by rw [g5]; simpa using q1) (by rw [g5]; simpa using q2) (by rw [g5]; simpa using q3) (by rw [g5]; simpa using q4) (by rw [g5]; simpa using q8) (by rw [g5]; simpa using q14) (by rw [g5]; simpa using q15) (by rw [g5]; simpa using q16) (by rw [g5]; simpa using q5) (by rw [g5]; simpa using q10) (by rw [g5]; simpa using q12))).mono ?_
  rintro e' w' ⟨rfl, hb'⟩
  refine ⟨ret_bool ?_, hb'⟩
  simp [mayS, hop, q1, q2, q3, q4, q8, q14, q15, q16, q5, q10, q12]
def isMiss (o : Option (Option (Nat × Value))) : Bool := match o with | some Option.none => true | _ => false
theorem findMiss0 : ∀ k : Fin 256, (k.1 = 0 ∨ 10 ≤ k.1) → isMiss (Instr.findNow (.int .u8) (.int .u8 ((k.1 : Nat) : Int)) tbl.toList 0) = true := by decide +kernel
theorem findMiss (k : Fin 256) (h : k.1 = 0 ∨ 10 ≤ k.1) : Instr.findNow (.int .u8) (.int .u8 ((k.1 : Nat) : Int)) tbl.toList 0 = some Option.none := by
  have := findMiss0 k h
  unfold isMiss at this
  split at this
  · assumption
  · cases this
set_option maxRecDepth 100000 in
set_option maxHeartbeats 1000000 in
theorem may_none (s : SV) (w : World) (h0 : 0 ≤ s.op) (h1 : s.op < 256) (hop : s.op = 0 ∨ 10 ≤ s.op) :
    Calls Try.prog 76 #[.agg s.arr] w fun e w' => e = .returned (.bool false) ∧ Below w.heap.size w w' := by
  have h17 := s.size
  have hf : Instr.findNow (.int .u8) (.int .u8 s.op) tbl.toList 0 = some Option.none := by
    have := findMiss ⟨s.op.toNat, by omega⟩ (by simp only; omega)
    rwa [show ((s.op.toNat : Nat) : Int) = s.op from by omega] at this
  have HF := Lib.hid hf
  clear hf hop
  obtain ⟨i0, hi, hz0, hz1, hz2⟩ := info_parts info58
  go_enter Try.func76, Try.ntmps76
  go_wp2_with fail
  obtain ⟨w0, hw0⟩ : ∃ w0, w0 = w.alloc (.cells s.arr 58) := ⟨_, rfl⟩
  rw [← hw0]
  have hS : BlkN w0 w.heap.size 58 s.arr := by rw [hw0]; exact BlkN.at_ rfl _ _
  have hB0 : Below w.heap.size w w0 := by rw [hw0]; exact (Below.refl _ _).alloc (Nat.le_refl _) _
  clear hw0
  have c0 := hS.cell 0 s.at0
  have HS := Lib.hid hS
  have hlt := hS.lt
  clear hS
  refine RegT.region_mix (fun _ => true) (fun W => W.cell? ⟨w.heap.size, 0, Option.none⟩ = some (.int .u8 s.op)) [(true, 1), (true, 2), (false, 0), (false, 3), (false, 4), (true, 5), (true, 6), (false, 7), (false, 8)] rfl (by kernel_rfl) (by kernel_rfl) (by decide) ?_
  refine RegT.seqM_quiet c0 rfl (fun _ _ _ h => h) (by rfl) (v := .pointer (some ⟨w.heap.size, 0, Option.none⟩)) (fun w' hS => ?_) ?_
  · go_simp
  refine RegT.seqM_quiet c0 rfl (fun _ _ _ h => h) (by rfl) (v := .int .u8 s.op) (fun w' hS => ?_) ?_
  · go_simp
  refine RegT.seqM_held rfl ?_
  go_wp2_with (go_at_call 117; refine (formsT_any _).mono ?_; rintro e w' ⟨rfl, rfl⟩)
  have hb2 : Below w0.heap.size w0 (w0.alloc (.map tbl 9)).drew := ((Below.refl _ _).alloc (Nat.le_refl _) _).drew
  have hS2 := HS.out.below hb2
  have c02 := hS2.cell 0 s.at0
  have hlk := run_lookup_miss (P := Try.prog) (t := 134) (k := .int .u8 s.op) (z := .nilFunc) (es := tbl) (n := 9) (r := w0.heap.size) (w := (w0.alloc (.map tbl 9)).drew) Try.underlying134 Try.underlying54 (by simp [Go.MapKept.IsKey]) (Array.getElem?_push_size) HF.out (by go_simp)
  obtain ⟨w2, hw2⟩ : ∃ w2, w2 = (w0.alloc (.map tbl 9)).drew := ⟨_, rfl⟩
  rw [← hw2] at hb2 hS2 hlk c02 ⊢
  have hB2 := hB0.trans (hb2.mono hB0.size)
  clear hw2 hS2 hb2 c0 HS hlt
  refine ⟨c02, RegT.seqM_held rfl ?_⟩
  go_wp2_with fail
  refine ⟨c02, RegT.seqM_held rfl ?_⟩
  go_wp2_with fail
  refine ⟨c02, RegT.seqM_quiet c02 rfl (fun _ _ _ h => h) (by rfl) (v := .nilFunc) (fun w' hS => ?_) ?_⟩
  · go_simp
  refine RegT.seqM_quiet c02 rfl (fun _ _ _ h => h) (by rfl) (v := .bool false) (fun w' hS => ?_) ?_
  · go_simp
  refine RegT.seqM_held rfl ?_
  go_wp2_with fail
  refine ⟨c02, RegT.seqM_held rfl ?_⟩
  go_wp2_with fail
  refine ⟨c02, RegT.seqM_end ?_⟩
  simp only [RegT.NP, Exit.then]
  go_wp2_with fail
  go_ret
  exact ⟨rfl, hB2⟩
theorem mayS_any (s : SV) (x : St) (w : World) (B : Nat) (hB : B ≤ w.heap.size) (h : IsSt w B s x) :
    Calls Try.prog 76 #[.agg s.arr] w fun e w' => e = .returned (.bool (mayS x)) ∧ Below w.heap.size w w' := by
  obtain ⟨op, nm, sec, ab, wh, a, b, t, e, c, ws⟩ := x
  obtain ⟨⟨g1, g2, g3, g4, g5⟩, ⟨b1, b2, b3, b4, b5, b6, b7, b8⟩, _⟩ := h.form
  by_cases k1 : op = 1
  · exact mayS1 s op nm sec ab wh a b t e c ws w B hB h k1
  by_cases k2 : op = 2
  · exact mayS2 s op nm sec ab wh a b t e c ws w B hB h k2
  by_cases k4 : op = 4
  · exact mayS4 s op nm sec ab wh a b t e c ws w B hB h k4
  by_cases k5 : op = 5
  · exact mayS5 s op nm sec ab wh a b t e c ws w B hB h k5
  by_cases k6 : op = 6
  · exact mayS6 s op nm sec ab wh a b t e c ws w B hB h k6
  by_cases k7 : op = 7
  · exact mayS7 s op nm sec ab wh a b t e c ws w B hB h k7
  by_cases k8 : op = 8
  · exact mayS8 s op nm sec ab wh a b t e c ws w B hB h k8
  by_cases k9 : op = 9
  · exact mayS9 s op nm sec ab wh a b t e c ws w B hB h k9
  by_cases k3 : op = 3
  · by_cases m1 : wh = 1
    · exact mayM1 s op nm sec ab wh a b t e c ws w B hB h k3 m1
    by_cases m2 : wh = 2
    · exact mayM2 s op nm sec ab wh a b t e c ws w B hB h k3 m2
    by_cases m3 : wh = 3
    · exact mayM3 s op nm sec ab wh a b t e c ws w B hB h k3 m3
    by_cases m4 : wh = 4
    · exact mayM4 s op nm sec ab wh a b t e c ws w B hB h k3 m4
    by_cases m8 : wh = 8
    · exact mayM8 s op nm sec ab wh a b t e c ws w B hB h k3 m8
    by_cases m14 : wh = 14
    · exact mayM14 s op nm sec ab wh a b t e c ws w B hB h k3 m14
    by_cases m15 : wh = 15
    · exact mayM15 s op nm sec ab wh a b t e c ws w B hB h k3 m15
    by_cases m16 : wh = 16
    · exact mayM16 s op nm sec ab wh a b t e c ws w B hB h k3 m16
    by_cases m5 : wh = 5
    · exact mayM5 s op nm sec ab wh a b t e c ws w B hB h k3 m5
    by_cases m10 : wh = 10
    · exact mayM10 s op nm sec ab wh a b t e c ws w B hB h k3 m10
    by_cases m12 : wh = 12
    · exact mayM12 s op nm sec ab wh a b t e c ws w B hB h k3 m12
    exact mayMx s op nm sec ab wh a b t e c ws w B hB h k3 m1 m2 m3 m4 m8 m14 m15 m16 m5 m10 m12
  have hf : mayS (.mk op nm sec ab wh a b t e c ws) = false := by simp [mayS, k1, k2, k3, k4, k5, k6, k7, k8, k9]
  rw [hf]
  exact may_none s w (by omega) (by omega) (by omega)
end Go.Proofs.Ytnknefdpglnbnaa
