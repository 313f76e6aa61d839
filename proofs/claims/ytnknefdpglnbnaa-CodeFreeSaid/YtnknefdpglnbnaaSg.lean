/- Forms of statements: a set. Forms of statements: forms$4. Forms of statements: forms$5. Forms of statements: forms$6. Forms of statements: forms$8. -/
import Derived.Test.YtnknefdpglnbnaaU
namespace Go.Proofs.Ytnknefdpglnbnaa
open Go.RowKit

set_option maxRecDepth 100000 in
set_option maxHeartbeats 2000000 in
theorem forms3_any (s : SV) (a : Ex) (b : Ex) (w : World) (B : Nat) (hB : B ≤ w.heap.size) (ha : IsEx w B s.a a) (hb : IsEx w B s.b b) : Calls Try.prog 142 #[.agg s.arr] w fun e w' =>
    e = .returned (.tuple #[.agg ({ SV.zero with nm := s.nm, a0 := s.a0, a1 := s.a1, a2 := s.a2, aA := s.aA, al := s.al, ac := s.ac, b0 := s.b0, b1 := s.b1, b2 := s.b2, bA := s.bA, bl := s.bl, bc := s.bc } : SV).arr, .bool ((mayN s.nm && mayE a) && mayE b)]) ∧ Below w.heap.size w w' := by
  have h17 := s.size
  have Ha := Lib.hid ha
  clear ha
  have Hb := Lib.hid hb
  clear hb
  go_enter Try.func142, Try.ntmps142
  go_wp2_with fail
  obtain ⟨w0, hw0⟩ : ∃ w0, w0 = (w.alloc (.cells s.arr 58)).alloc (.cells SV.zero.arr 58) := ⟨_, rfl⟩
  have hw0' : (w.alloc (.cells s.arr 58)).alloc (.cells #[.int .u8 0, .string ⟨#[]⟩, .string ⟨#[]⟩, .int .u8 0, .int .u8 0, .int .u8 0, .int .i64 0, .string ⟨#[]⟩, .slice Option.none 0 0, .int .u8 0, .int .i64 0, .string ⟨#[]⟩, .slice Option.none 0 0, .slice Option.none 0 0, .slice Option.none 0 0, .slice Option.none 0 0, .slice Option.none 0 0] 58) = w0 := hw0.symm
  rw [hw0']
  have hS : BlkN w0 w.heap.size 58 s.arr := by rw [hw0]; exact (BlkN.at_ rfl _ _).alloc _
  have hR0 : BlkN w0 (w.heap.size + 1) 58 SV.zero.arr := by rw [hw0]; exact BlkN.at_ (by simp) _ _
  have hB0 : Below w.heap.size w w0 := by rw [hw0]; exact ((Below.refl _ _).alloc (Nat.le_refl _) _).alloc (by simp) _
  obtain ⟨i0, hi, hz0, hz1, hz2⟩ := info_parts info58
  have c1 := fun d os => cell_regrown (hS.cell 1 s.at1) d os
  have c5 := fun d os => cell_regrown (hS.cell 5 s.at5) d os
  have c6 := fun d os => cell_regrown (hS.cell 6 s.at6) d os
  have c7 := fun d os => cell_regrown (hS.cell 7 s.at7) d os
  have c8 := fun d os => cell_regrown (hS.cell 8 s.at8) d os
  have c9 := fun d os => cell_regrown (hS.cell 9 s.at9) d os
  have c10 := fun d os => cell_regrown (hS.cell 10 s.at10) d os
  have c11 := fun d os => cell_regrown (hS.cell 11 s.at11) d os
  have c12 := fun d os => cell_regrown (hS.cell 12 s.at12) d os
  clear hw0 hw0' hS
  have cQ0 := fun d os => Calls.regrown_of (mayName_any s.nm (Sort.grow (redrawn w0 d) os))
  have cQ1 := fun d os => Calls.regrown_of (MayExpr_any (Sort.grow (redrawn w0 d) os) ((Ha.out.keep (fun b hb => hB0.block b (Nat.lt_of_lt_of_le hb hB))).keep (fun b hb => (below_regrown w0 d os).block b (Nat.lt_of_lt_of_le hb (Nat.le_trans hB hB0.size)))) (Nat.le_trans hB (Nat.le_trans hB0.size (below_regrown w0 d os).size)))
  have cQ2 := fun d os => Calls.regrown_of (MayExpr_any (Sort.grow (redrawn w0 d) os) ((Hb.out.keep (fun b hb => hB0.block b (Nat.lt_of_lt_of_le hb hB))).keep (fun b hb => (below_regrown w0 d os).block b (Nat.lt_of_lt_of_le hb (Nat.le_trans hB hB0.size)))) (Nat.le_trans hB (Nat.le_trans hB0.size (below_regrown w0 d os).size)))
  cases hm0 : mayN s.nm
  · have HM0 := Lib.hid hm0
    rw [hm0] at cQ0
    clear hm0
    refine RegQ.region [7, 8, 9, 10, 11, 12, 13, 14, 15, 16, 17, 18, 19, 0, 1, 2, 3, 4, 5, 6] [7, 8, 9, 10, 11, 12, 13, 14, 15, 16, 17, 18, 0, 1, 2, 3, 4, 5, 6] [20, 21] [_, _, _, _, _, _, _, _, _, _, _, _, _, _, _, _, _, _, _, _] [_, _] rfl rfl (by kernel_rfl) (by kernel_rfl) (by kernel_rfl) (by kernel_rfl) (by kernel_rfl) (by kernel_rfl) ?_
    simp only [List.getElem_toArray, List.getElem_cons_zero, List.getElem_cons_succ]
    repeat (quiet_step (first | exact cQ0 _ _))
    refine wpQuiet_nil ?_
    rintro w1 ⟨pr, rfl⟩
    have hR1 := hR0.below (below_regrown w0 pr.d pr.os)
    refine wpList_store_blk rfl 58 (.tmp 2) (.tmp 10) rfl i0 hi (w.heap.size + 1) ({ SV.zero with nm := s.nm, a0 := s.a0, a1 := s.a1, a2 := s.a2, aA := s.aA, al := s.al, ac := s.ac, b0 := s.b0, b1 := s.b1, b2 := s.b2, bA := s.bA, bl := s.bl, bc := s.bc } : SV).arr rfl rfl 58 _ hR1 (by rw [hz1]; rfl) rfl (SV.one _) ?_
    intro w2 hB2 hbut
    go_wp2_with fail
    simp only [RegT.NP, Exit.then]
    go_wp2_with fail
    refine bodyPost_ret (results_cell2 (s := 2) (t := 3) (b := w.heap.size + 1) rfl Try.underlying58 hi rfl hB2 (by rw [hz1]; rfl) rfl) rfl ⟨?_, ?_⟩
    · rw [HM0.out]; rfl
    · exact hbut.below (Nat.le_succ _) (hB0.trans ((below_regrown w0 pr.d pr.os).mono hB0.size))
  · have HM0 := Lib.hid hm0
    rw [hm0] at cQ0
    clear hm0
    cases hm1 : mayE a
    · have HM1 := Lib.hid hm1
      rw [hm1] at cQ1
      clear hm1
      refine RegQ.region [7, 8, 9, 10, 11, 12, 13, 14, 15, 16, 17, 18, 19, 0, 1, 2, 3, 4, 5, 6] [7, 8, 9, 10, 11, 12, 13, 14, 15, 16, 17, 18, 0, 1, 2, 3, 4, 5, 6] [20, 21] [_, _, _, _, _, _, _, _, _, _, _, _, _, _, _, _, _, _, _, _] [_, _] rfl rfl (by kernel_rfl) (by kernel_rfl) (by kernel_rfl) (by kernel_rfl) (by kernel_rfl) (by kernel_rfl) ?_
      simp only [List.getElem_toArray, List.getElem_cons_zero, List.getElem_cons_succ]
      repeat (quiet_step (first | exact cQ0 _ _ | exact cQ1 _ _))
      refine wpQuiet_nil ?_
      rintro w1 ⟨pr, rfl⟩
      have hR1 := hR0.below (below_regrown w0 pr.d pr.os)
      refine wpList_store_blk rfl 58 (.tmp 2) (.tmp 10) rfl i0 hi (w.heap.size + 1) ({ SV.zero with nm := s.nm, a0 := s.a0, a1 := s.a1, a2 := s.a2, aA := s.aA, al := s.al, ac := s.ac, b0 := s.b0, b1 := s.b1, b2 := s.b2, bA := s.bA, bl := s.bl, bc := s.bc } : SV).arr rfl rfl 58 _ hR1 (by rw [hz1]; rfl) rfl (SV.one _) ?_
      intro w2 hB2 hbut
      go_wp2_with fail
      simp only [RegT.NP, Exit.then]
      go_wp2_with fail
      refine bodyPost_ret (results_cell2 (s := 2) (t := 3) (b := w.heap.size + 1) rfl Try.underlying58 hi rfl hB2 (by rw [hz1]; rfl) rfl) rfl ⟨?_, ?_⟩
      · rw [HM0.out, HM1.out]; rfl
      · exact hbut.below (Nat.le_succ _) (hB0.trans ((below_regrown w0 pr.d pr.os).mono hB0.size))
    · have HM1 := Lib.hid hm1
      rw [hm1] at cQ1
      clear hm1
      refine RegQ.region [7, 8, 9, 10, 11, 12, 13, 14, 15, 16, 17, 18, 19, 0, 1, 2, 3, 4, 5, 6] [7, 8, 9, 10, 11, 12, 13, 14, 15, 16, 17, 18, 0, 1, 2, 3, 4, 5, 6] [20, 21] [_, _, _, _, _, _, _, _, _, _, _, _, _, _, _, _, _, _, _, _] [_, _] rfl rfl (by kernel_rfl) (by kernel_rfl) (by kernel_rfl) (by kernel_rfl) (by kernel_rfl) (by kernel_rfl) ?_
      simp only [List.getElem_toArray, List.getElem_cons_zero, List.getElem_cons_succ]
      repeat (quiet_step (first | exact cQ0 _ _ | exact cQ1 _ _ | exact cQ2 _ _))
      refine wpQuiet_nil ?_
      rintro w1 ⟨pr, rfl⟩
      have hR1 := hR0.below (below_regrown w0 pr.d pr.os)
      refine wpList_store_blk rfl 58 (.tmp 2) (.tmp 10) rfl i0 hi (w.heap.size + 1) ({ SV.zero with nm := s.nm, a0 := s.a0, a1 := s.a1, a2 := s.a2, aA := s.aA, al := s.al, ac := s.ac, b0 := s.b0, b1 := s.b1, b2 := s.b2, bA := s.bA, bl := s.bl, bc := s.bc } : SV).arr rfl rfl 58 _ hR1 (by rw [hz1]; rfl) rfl (SV.one _) ?_
      intro w2 hB2 hbut
      go_wp2_with fail
      simp only [RegT.NP, Exit.then]
      go_wp2_with fail
      refine bodyPost_ret (results_cell2 (s := 2) (t := 3) (b := w.heap.size + 1) rfl Try.underlying58 hi rfl hB2 (by rw [hz1]; rfl) rfl) rfl ⟨?_, ?_⟩
      · rw [HM0.out, HM1.out]; rfl
      · exact hbut.below (Nat.le_succ _) (hB0.trans ((below_regrown w0 pr.d pr.os).mono hB0.size))
end Go.Proofs.Ytnknefdpglnbnaa
namespace Go.Proofs.Ytnknefdpglnbnaa
open Go.RowKit

set_option maxRecDepth 100000 in
set_option maxHeartbeats 2000000 in
theorem forms4_any (s : SV) (a : Ex) (b : Ex) (w : World) (B : Nat) (hB : B ≤ w.heap.size) (ha : IsEx w B s.a a) (hb : IsEx w B s.b b) : Calls Try.prog 143 #[.agg s.arr] w fun e w' =>
    e = .returned (.tuple #[.agg ({ SV.zero with a0 := s.a0, a1 := s.a1, a2 := s.a2, aA := s.aA, al := s.al, ac := s.ac, b0 := s.b0, b1 := s.b1, b2 := s.b2, bA := s.bA, bl := s.bl, bc := s.bc, tA := s.tA, tl := s.tl, tc := s.tc, eA := s.eA, el := s.el, ec := s.ec } : SV).arr, .bool (orNoneE a && orNoneE b)]) ∧ Below w.heap.size w w' := by
  have h17 := s.size
  have Ha := Lib.hid ha
  clear ha
  have Hb := Lib.hid hb
  clear hb
  go_enter Try.func143, Try.ntmps143
  go_wp2_with fail
  obtain ⟨w0, hw0⟩ : ∃ w0, w0 = (w.alloc (.cells s.arr 58)).alloc (.cells SV.zero.arr 58) := ⟨_, rfl⟩
  have hw0' : (w.alloc (.cells s.arr 58)).alloc (.cells #[.int .u8 0, .string ⟨#[]⟩, .string ⟨#[]⟩, .int .u8 0, .int .u8 0, .int .u8 0, .int .i64 0, .string ⟨#[]⟩, .slice Option.none 0 0, .int .u8 0, .int .i64 0, .string ⟨#[]⟩, .slice Option.none 0 0, .slice Option.none 0 0, .slice Option.none 0 0, .slice Option.none 0 0, .slice Option.none 0 0] 58) = w0 := hw0.symm
  rw [hw0']
  have hS : BlkN w0 w.heap.size 58 s.arr := by rw [hw0]; exact (BlkN.at_ rfl _ _).alloc _
  have hR0 : BlkN w0 (w.heap.size + 1) 58 SV.zero.arr := by rw [hw0]; exact BlkN.at_ (by simp) _ _
  have hB0 : Below w.heap.size w w0 := by rw [hw0]; exact ((Below.refl _ _).alloc (Nat.le_refl _) _).alloc (by simp) _
  obtain ⟨i0, hi, hz0, hz1, hz2⟩ := info_parts info58
  have c5 := fun d os => cell_regrown (hS.cell 5 s.at5) d os
  have c6 := fun d os => cell_regrown (hS.cell 6 s.at6) d os
  have c7 := fun d os => cell_regrown (hS.cell 7 s.at7) d os
  have c8 := fun d os => cell_regrown (hS.cell 8 s.at8) d os
  have c9 := fun d os => cell_regrown (hS.cell 9 s.at9) d os
  have c10 := fun d os => cell_regrown (hS.cell 10 s.at10) d os
  have c11 := fun d os => cell_regrown (hS.cell 11 s.at11) d os
  have c12 := fun d os => cell_regrown (hS.cell 12 s.at12) d os
  have c13 := fun d os => cell_regrown (hS.cell 13 s.at13) d os
  have c14 := fun d os => cell_regrown (hS.cell 14 s.at14) d os
  clear hw0 hw0' hS
  have cQ0 := fun d os => Calls.regrown_of (orNone_any (Sort.grow (redrawn w0 d) os) ((Ha.out.keep (fun b hb => hB0.block b (Nat.lt_of_lt_of_le hb hB))).keep (fun b hb => (below_regrown w0 d os).block b (Nat.lt_of_lt_of_le hb (Nat.le_trans hB hB0.size)))) (Nat.le_trans hB (Nat.le_trans hB0.size (below_regrown w0 d os).size)))
  have cQ1 := fun d os => Calls.regrown_of (orNone_any (Sort.grow (redrawn w0 d) os) ((Hb.out.keep (fun b hb => hB0.block b (Nat.lt_of_lt_of_le hb hB))).keep (fun b hb => (below_regrown w0 d os).block b (Nat.lt_of_lt_of_le hb (Nat.le_trans hB hB0.size)))) (Nat.le_trans hB (Nat.le_trans hB0.size (below_regrown w0 d os).size)))
  cases hm0 : orNoneE a
  · have HM0 := Lib.hid hm0
    rw [hm0] at cQ0
    clear hm0
    refine RegQ.region [9, 10, 11, 12, 13, 14, 15, 16, 0, 1, 2, 3, 4, 5, 6, 7, 8] [9, 10, 11, 12, 13, 14, 15, 0, 1, 2, 3, 4, 5, 6, 7, 8] [17, 18] [_, _, _, _, _, _, _, _, _, _, _, _, _, _, _, _, _] [_, _] rfl rfl (by kernel_rfl) (by kernel_rfl) (by kernel_rfl) (by kernel_rfl) (by kernel_rfl) (by kernel_rfl) ?_
    simp only [List.getElem_toArray, List.getElem_cons_zero, List.getElem_cons_succ]
    repeat (quiet_step (first | exact cQ0 _ _))
    refine wpQuiet_nil ?_
    rintro w1 ⟨pr, rfl⟩
    have hR1 := hR0.below (below_regrown w0 pr.d pr.os)
    refine wpList_store_blk rfl 58 (.tmp 2) (.tmp 12) rfl i0 hi (w.heap.size + 1) ({ SV.zero with a0 := s.a0, a1 := s.a1, a2 := s.a2, aA := s.aA, al := s.al, ac := s.ac, b0 := s.b0, b1 := s.b1, b2 := s.b2, bA := s.bA, bl := s.bl, bc := s.bc, tA := s.tA, tl := s.tl, tc := s.tc, eA := s.eA, el := s.el, ec := s.ec } : SV).arr rfl rfl 58 _ hR1 (by rw [hz1]; rfl) rfl (SV.one _) ?_
    intro w2 hB2 hbut
    go_wp2_with fail
    simp only [RegT.NP, Exit.then]
    go_wp2_with fail
    refine bodyPost_ret (results_cell2 (s := 2) (t := 3) (b := w.heap.size + 1) rfl Try.underlying58 hi rfl hB2 (by rw [hz1]; rfl) rfl) rfl ⟨?_, ?_⟩
    · rw [HM0.out]; rfl
    · exact hbut.below (Nat.le_succ _) (hB0.trans ((below_regrown w0 pr.d pr.os).mono hB0.size))
  · have HM0 := Lib.hid hm0
    rw [hm0] at cQ0
    clear hm0
    refine RegQ.region [9, 10, 11, 12, 13, 14, 15, 16, 0, 1, 2, 3, 4, 5, 6, 7, 8] [9, 10, 11, 12, 13, 14, 15, 0, 1, 2, 3, 4, 5, 6, 7, 8] [17, 18] [_, _, _, _, _, _, _, _, _, _, _, _, _, _, _, _, _] [_, _] rfl rfl (by kernel_rfl) (by kernel_rfl) (by kernel_rfl) (by kernel_rfl) (by kernel_rfl) (by kernel_rfl) ?_
    simp only [List.getElem_toArray, List.getElem_cons_zero, List.getElem_cons_succ]
    repeat (quiet_step (first | exact cQ0 _ _ | exact cQ1 _ _))
    refine wpQuiet_nil ?_
    rintro w1 ⟨pr, rfl⟩
    have hR1 := hR0.below (below_regrown w0 pr.d pr.os)
    refine wpList_store_blk rfl 58 (.tmp 2) (.tmp 12) rfl i0 hi (w.heap.size + 1) ({ SV.zero with a0 := s.a0, a1 := s.a1, a2 := s.a2, aA := s.aA, al := s.al, ac := s.ac, b0 := s.b0, b1 := s.b1, b2 := s.b2, bA := s.bA, bl := s.bl, bc := s.bc, tA := s.tA, tl := s.tl, tc := s.tc, eA := s.eA, el := s.el, ec := s.ec } : SV).arr rfl rfl 58 _ hR1 (by rw [hz1]; rfl) rfl (SV.one _) ?_
    intro w2 hB2 hbut
    go_wp2_with fail
    simp only [RegT.NP, Exit.then]
    go_wp2_with fail
    refine bodyPost_ret (results_cell2 (s := 2) (t := 3) (b := w.heap.size + 1) rfl Try.underlying58 hi rfl hB2 (by rw [hz1]; rfl) rfl) rfl ⟨?_, ?_⟩
    · rw [HM0.out]; rfl
    · exact hbut.below (Nat.le_succ _) (hB0.trans ((below_regrown w0 pr.d pr.os).mono hB0.size))
end Go.Proofs.Ytnknefdpglnbnaa
namespace Go.Proofs.Ytnknefdpglnbnaa
open Go.RowKit

set_option maxRecDepth 100000 in
set_option maxHeartbeats 2000000 in
theorem forms5_any (s : SV) (a : Ex) (w : World) (B : Nat) (hB : B ≤ w.heap.size) (ha : IsEx w B s.a a) (h0 : 0 ≤ s.ab) (h1 : s.ab < 256) : Calls Try.prog 144 #[.agg s.arr] w fun e w' =>
    e = .returned (.tuple #[.agg ({ SV.zero with a0 := s.a0, a1 := s.a1, a2 := s.a2, aA := s.aA, al := s.al, ac := s.ac, ab := s.ab, tA := s.tA, tl := s.tl, tc := s.tc, eA := s.eA, el := s.el, ec := s.ec } : SV).arr, .bool (mayE a && mayI s.ab)]) ∧ Below w.heap.size w w' := by
  have h17 := s.size
  have Ha := Lib.hid ha
  clear ha
  go_enter Try.func144, Try.ntmps144
  go_wp2_with fail
  obtain ⟨w0, hw0⟩ : ∃ w0, w0 = (w.alloc (.cells s.arr 58)).alloc (.cells SV.zero.arr 58) := ⟨_, rfl⟩
  have hw0' : (w.alloc (.cells s.arr 58)).alloc (.cells #[.int .u8 0, .string ⟨#[]⟩, .string ⟨#[]⟩, .int .u8 0, .int .u8 0, .int .u8 0, .int .i64 0, .string ⟨#[]⟩, .slice Option.none 0 0, .int .u8 0, .int .i64 0, .string ⟨#[]⟩, .slice Option.none 0 0, .slice Option.none 0 0, .slice Option.none 0 0, .slice Option.none 0 0, .slice Option.none 0 0] 58) = w0 := hw0.symm
  rw [hw0']
  have hS : BlkN w0 w.heap.size 58 s.arr := by rw [hw0]; exact (BlkN.at_ rfl _ _).alloc _
  have hR0 : BlkN w0 (w.heap.size + 1) 58 SV.zero.arr := by rw [hw0]; exact BlkN.at_ (by simp) _ _
  have hB0 : Below w.heap.size w w0 := by rw [hw0]; exact ((Below.refl _ _).alloc (Nat.le_refl _) _).alloc (by simp) _
  obtain ⟨i0, hi, hz0, hz1, hz2⟩ := info_parts info58
  have c3 := fun d os => cell_regrown (hS.cell 3 s.at3) d os
  have c5 := fun d os => cell_regrown (hS.cell 5 s.at5) d os
  have c6 := fun d os => cell_regrown (hS.cell 6 s.at6) d os
  have c7 := fun d os => cell_regrown (hS.cell 7 s.at7) d os
  have c8 := fun d os => cell_regrown (hS.cell 8 s.at8) d os
  have c13 := fun d os => cell_regrown (hS.cell 13 s.at13) d os
  have c14 := fun d os => cell_regrown (hS.cell 14 s.at14) d os
  clear hw0 hw0' hS
  have cQ0 := fun d os => Calls.regrown_of (MayExpr_any (Sort.grow (redrawn w0 d) os) ((Ha.out.keep (fun b hb => hB0.block b (Nat.lt_of_lt_of_le hb hB))).keep (fun b hb => (below_regrown w0 d os).block b (Nat.lt_of_lt_of_le hb (Nat.le_trans hB hB0.size)))) (Nat.le_trans hB (Nat.le_trans hB0.size (below_regrown w0 d os).size)))
  have cQ1 := fun d os => Calls.regrown_of (mayI_any s.ab h0 h1 (Sort.grow (redrawn w0 d) os))
  cases hm0 : mayE a
  · have HM0 := Lib.hid hm0
    rw [hm0] at cQ0
    clear hm0
    refine RegQ.region [9, 10, 11, 12, 13, 14, 15, 16, 0, 1, 2, 3, 4, 5, 6, 7, 8] [9, 10, 11, 12, 13, 14, 15, 0, 1, 2, 3, 4, 5, 6, 7, 8] [17, 18] [_, _, _, _, _, _, _, _, _, _, _, _, _, _, _, _, _] [_, _] rfl rfl (by kernel_rfl) (by kernel_rfl) (by kernel_rfl) (by kernel_rfl) (by kernel_rfl) (by kernel_rfl) ?_
    simp only [List.getElem_toArray, List.getElem_cons_zero, List.getElem_cons_succ]
    repeat (quiet_step (first | exact cQ0 _ _))
    refine wpQuiet_nil ?_
    rintro w1 ⟨pr, rfl⟩
    have hR1 := hR0.below (below_regrown w0 pr.d pr.os)
    refine wpList_store_blk rfl 58 (.tmp 2) (.tmp 12) rfl i0 hi (w.heap.size + 1) ({ SV.zero with a0 := s.a0, a1 := s.a1, a2 := s.a2, aA := s.aA, al := s.al, ac := s.ac, ab := s.ab, tA := s.tA, tl := s.tl, tc := s.tc, eA := s.eA, el := s.el, ec := s.ec } : SV).arr rfl rfl 58 _ hR1 (by rw [hz1]; rfl) rfl (SV.one _) ?_
    intro w2 hB2 hbut
    go_wp2_with fail
    simp only [RegT.NP, Exit.then]
    go_wp2_with fail
    refine bodyPost_ret (results_cell2 (s := 2) (t := 3) (b := w.heap.size + 1) rfl Try.underlying58 hi rfl hB2 (by rw [hz1]; rfl) rfl) rfl ⟨?_, ?_⟩
    · rw [HM0.out]; rfl
    · exact hbut.below (Nat.le_succ _) (hB0.trans ((below_regrown w0 pr.d pr.os).mono hB0.size))
  · have HM0 := Lib.hid hm0
    rw [hm0] at cQ0
    clear hm0
    refine RegQ.region [9, 10, 11, 12, 13, 14, 15, 16, 0, 1, 2, 3, 4, 5, 6, 7, 8] [9, 10, 11, 12, 13, 14, 15, 0, 1, 2, 3, 4, 5, 6, 7, 8] [17, 18] [_, _, _, _, _, _, _, _, _, _, _, _, _, _, _, _, _] [_, _] rfl rfl (by kernel_rfl) (by kernel_rfl) (by kernel_rfl) (by kernel_rfl) (by kernel_rfl) (by kernel_rfl) ?_
    simp only [List.getElem_toArray, List.getElem_cons_zero, List.getElem_cons_succ]
    repeat (quiet_step (first | exact cQ0 _ _ | exact cQ1 _ _))
    refine wpQuiet_nil ?_
    rintro w1 ⟨pr, rfl⟩
    have hR1 := hR0.below (below_regrown w0 pr.d pr.os)
    refine wpList_store_blk rfl 58 (.tmp 2) (.tmp 12) rfl i0 hi (w.heap.size + 1) ({ SV.zero with a0 := s.a0, a1 := s.a1, a2 := s.a2, aA := s.aA, al := s.al, ac := s.ac, ab := s.ab, tA := s.tA, tl := s.tl, tc := s.tc, eA := s.eA, el := s.el, ec := s.ec } : SV).arr rfl rfl 58 _ hR1 (by rw [hz1]; rfl) rfl (SV.one _) ?_
    intro w2 hB2 hbut
    go_wp2_with fail
    simp only [RegT.NP, Exit.then]
    go_wp2_with fail
    refine bodyPost_ret (results_cell2 (s := 2) (t := 3) (b := w.heap.size + 1) rfl Try.underlying58 hi rfl hB2 (by rw [hz1]; rfl) rfl) rfl ⟨?_, ?_⟩
    · rw [HM0.out]; rfl
    · exact hbut.below (Nat.le_succ _) (hB0.trans ((below_regrown w0 pr.d pr.os).mono hB0.size))
end Go.Proofs.Ytnknefdpglnbnaa
namespace Go.Proofs.Ytnknefdpglnbnaa
open Go.RowKit

set_option maxRecDepth 100000 in
set_option maxHeartbeats 2000000 in
theorem forms6_any (s : SV) (a : Ex) (w : World) (B : Nat) (hB : B ≤ w.heap.size) (ha : IsEx w B s.a a) : Calls Try.prog 146 #[.agg s.arr] w fun e w' =>
    e = .returned (.tuple #[.agg ({ SV.zero with a0 := s.a0, a1 := s.a1, a2 := s.a2, aA := s.aA, al := s.al, ac := s.ac } : SV).arr, .bool (orNoneE a)]) ∧ Below w.heap.size w w' := by
  have h17 := s.size
  have Ha := Lib.hid ha
  clear ha
  go_enter Try.func146, Try.ntmps146
  go_wp2_with fail
  obtain ⟨w0, hw0⟩ : ∃ w0, w0 = (w.alloc (.cells s.arr 58)).alloc (.cells SV.zero.arr 58) := ⟨_, rfl⟩
  have hw0' : (w.alloc (.cells s.arr 58)).alloc (.cells #[.int .u8 0, .string ⟨#[]⟩, .string ⟨#[]⟩, .int .u8 0, .int .u8 0, .int .u8 0, .int .i64 0, .string ⟨#[]⟩, .slice Option.none 0 0, .int .u8 0, .int .i64 0, .string ⟨#[]⟩, .slice Option.none 0 0, .slice Option.none 0 0, .slice Option.none 0 0, .slice Option.none 0 0, .slice Option.none 0 0] 58) = w0 := hw0.symm
  rw [hw0']
  have hS : BlkN w0 w.heap.size 58 s.arr := by rw [hw0]; exact (BlkN.at_ rfl _ _).alloc _
  have hR0 : BlkN w0 (w.heap.size + 1) 58 SV.zero.arr := by rw [hw0]; exact BlkN.at_ (by simp) _ _
  have hB0 : Below w.heap.size w w0 := by rw [hw0]; exact ((Below.refl _ _).alloc (Nat.le_refl _) _).alloc (by simp) _
  obtain ⟨i0, hi, hz0, hz1, hz2⟩ := info_parts info58
  have c5 := fun d os => cell_regrown (hS.cell 5 s.at5) d os
  have c6 := fun d os => cell_regrown (hS.cell 6 s.at6) d os
  have c7 := fun d os => cell_regrown (hS.cell 7 s.at7) d os
  have c8 := fun d os => cell_regrown (hS.cell 8 s.at8) d os
  clear hw0 hw0' hS
  have cQ0 := fun d os => Calls.regrown_of (orNone_any (Sort.grow (redrawn w0 d) os) ((Ha.out.keep (fun b hb => hB0.block b (Nat.lt_of_lt_of_le hb hB))).keep (fun b hb => (below_regrown w0 d os).block b (Nat.lt_of_lt_of_le hb (Nat.le_trans hB hB0.size)))) (Nat.le_trans hB (Nat.le_trans hB0.size (below_regrown w0 d os).size)))
  refine RegQ.region [3, 4, 5, 0, 1, 2] [3, 4, 5, 0, 1, 2] [6, 7] [_, _, _, _, _, _] [_, _] rfl rfl (by kernel_rfl) (by kernel_rfl) (by kernel_rfl) (by kernel_rfl) (by kernel_rfl) (by kernel_rfl) ?_
  simp only [List.getElem_toArray, List.getElem_cons_zero, List.getElem_cons_succ]
  repeat (quiet_step (first | exact cQ0 _ _))
  refine wpQuiet_nil ?_
  rintro w1 ⟨pr, rfl⟩
  have hR1 := hR0.below (below_regrown w0 pr.d pr.os)
  refine wpList_store_blk rfl 58 (.tmp 2) (.tmp 6) rfl i0 hi (w.heap.size + 1) ({ SV.zero with a0 := s.a0, a1 := s.a1, a2 := s.a2, aA := s.aA, al := s.al, ac := s.ac } : SV).arr rfl rfl 58 _ hR1 (by rw [hz1]; rfl) rfl (SV.one _) ?_
  intro w2 hB2 hbut
  go_wp2_with fail
  simp only [RegT.NP, Exit.then]
  go_wp2_with fail
  refine bodyPost_ret (results_cell2 (s := 2) (t := 3) (b := w.heap.size + 1) rfl Try.underlying58 hi rfl hB2 (by rw [hz1]; rfl) rfl) rfl ⟨?_, ?_⟩
  · rfl
  · exact hbut.below (Nat.le_succ _) (hB0.trans ((below_regrown w0 pr.d pr.os).mono hB0.size))
end Go.Proofs.Ytnknefdpglnbnaa
namespace Go.Proofs.Ytnknefdpglnbnaa
open Go.RowKit

set_option maxRecDepth 100000 in
set_option maxHeartbeats 2000000 in
theorem forms8_any (s : SV) (a : Ex) (w : World) (B : Nat) (hB : B ≤ w.heap.size) (ha : IsEx w B s.a a) : Calls Try.prog 148 #[.agg s.arr] w fun e w' =>
    e = .returned (.tuple #[.agg ({ SV.zero with nm := s.nm, a0 := s.a0, a1 := s.a1, a2 := s.a2, aA := s.aA, al := s.al, ac := s.ac } : SV).arr, .bool (mayN s.nm && mayE a)]) ∧ Below w.heap.size w w' := by
  have h17 := s.size
  have Ha := Lib.hid ha
  clear ha
  go_enter Try.func148, Try.ntmps148
  go_wp2_with fail
  obtain ⟨w0, hw0⟩ : ∃ w0, w0 = (w.alloc (.cells s.arr 58)).alloc (.cells SV.zero.arr 58) := ⟨_, rfl⟩
  have hw0' : (w.alloc (.cells s.arr 58)).alloc (.cells #[.int .u8 0, .string ⟨#[]⟩, .string ⟨#[]⟩, .int .u8 0, .int .u8 0, .int .u8 0, .int .i64 0, .string ⟨#[]⟩, .slice Option.none 0 0, .int .u8 0, .int .i64 0, .string ⟨#[]⟩, .slice Option.none 0 0, .slice Option.none 0 0, .slice Option.none 0 0, .slice Option.none 0 0, .slice Option.none 0 0] 58) = w0 := hw0.symm
  rw [hw0']
  have hS : BlkN w0 w.heap.size 58 s.arr := by rw [hw0]; exact (BlkN.at_ rfl _ _).alloc _
  have hR0 : BlkN w0 (w.heap.size + 1) 58 SV.zero.arr := by rw [hw0]; exact BlkN.at_ (by simp) _ _
  have hB0 : Below w.heap.size w w0 := by rw [hw0]; exact ((Below.refl _ _).alloc (Nat.le_refl _) _).alloc (by simp) _
  obtain ⟨i0, hi, hz0, hz1, hz2⟩ := info_parts info58
  have c1 := fun d os => cell_regrown (hS.cell 1 s.at1) d os
  have c5 := fun d os => cell_regrown (hS.cell 5 s.at5) d os
  have c6 := fun d os => cell_regrown (hS.cell 6 s.at6) d os
  have c7 := fun d os => cell_regrown (hS.cell 7 s.at7) d os
  have c8 := fun d os => cell_regrown (hS.cell 8 s.at8) d os
  clear hw0 hw0' hS
  have cQ0 := fun d os => Calls.regrown_of (mayName_any s.nm (Sort.grow (redrawn w0 d) os))
  have cQ1 := fun d os => Calls.regrown_of (MayExpr_any (Sort.grow (redrawn w0 d) os) ((Ha.out.keep (fun b hb => hB0.block b (Nat.lt_of_lt_of_le hb hB))).keep (fun b hb => (below_regrown w0 d os).block b (Nat.lt_of_lt_of_le hb (Nat.le_trans hB hB0.size)))) (Nat.le_trans hB (Nat.le_trans hB0.size (below_regrown w0 d os).size)))
  cases hm0 : mayN s.nm
  · have HM0 := Lib.hid hm0
    rw [hm0] at cQ0
    clear hm0
    refine RegQ.region [5, 6, 7, 8, 9, 10, 11, 12, 0, 1, 2, 3, 4] [5, 6, 7, 8, 9, 10, 11, 0, 1, 2, 3, 4] [13, 14] [_, _, _, _, _, _, _, _, _, _, _, _, _] [_, _] rfl rfl (by kernel_rfl) (by kernel_rfl) (by kernel_rfl) (by kernel_rfl) (by kernel_rfl) (by kernel_rfl) ?_
    simp only [List.getElem_toArray, List.getElem_cons_zero, List.getElem_cons_succ]
    repeat (quiet_step (first | exact cQ0 _ _))
    refine wpQuiet_nil ?_
    rintro w1 ⟨pr, rfl⟩
    have hR1 := hR0.below (below_regrown w0 pr.d pr.os)
    refine wpList_store_blk rfl 58 (.tmp 2) (.tmp 8) rfl i0 hi (w.heap.size + 1) ({ SV.zero with nm := s.nm, a0 := s.a0, a1 := s.a1, a2 := s.a2, aA := s.aA, al := s.al, ac := s.ac } : SV).arr rfl rfl 58 _ hR1 (by rw [hz1]; rfl) rfl (SV.one _) ?_
    intro w2 hB2 hbut
    go_wp2_with fail
    simp only [RegT.NP, Exit.then]
    go_wp2_with fail
    refine bodyPost_ret (results_cell2 (s := 2) (t := 3) (b := w.heap.size + 1) rfl Try.underlying58 hi rfl hB2 (by rw [hz1]; rfl) rfl) rfl ⟨?_, ?_⟩
    · rw [HM0.out]; rfl
    · exact hbut.below (Nat.le_succ _) (hB0.trans ((below_regrown w0 pr.d pr.os).mono hB0.size))
  · have HM0 := Lib.hid hm0
    rw [hm0] at cQ0
    clear hm0
    refine RegQ.region [5, 6, 7, 8, 9, 10, 11, 12, 0, 1, 2, 3, 4] [5, 6, 7, 8, 9, 10, 11, 0, 1, 2, 3, 4] [13, 14] [_, _, _, _, _, _, _, _, _, _, _, _, _] [_, _] rfl rfl (by kernel_rfl) (by kernel_rfl) (by kernel_rfl) (by kernel_rfl) (by kernel_rfl) (by kernel_rfl) ?_
    simp only [List.getElem_toArray, List.getElem_cons_zero, List.getElem_cons_succ]
    repeat (quiet_step (first | exact cQ0 _ _ | exact cQ1 _ _))
    refine wpQuiet_nil ?_
    rintro w1 ⟨pr, rfl⟩
    have hR1 := hR0.below (below_regrown w0 pr.d pr.os)
    refine wpList_store_blk rfl 58 (.tmp 2) (.tmp 8) rfl i0 hi (w.heap.size + 1) ({ SV.zero with nm := s.nm, a0 := s.a0, a1 := s.a1, a2 := s.a2, aA := s.aA, al := s.al, ac := s.ac } : SV).arr rfl rfl 58 _ hR1 (by rw [hz1]; rfl) rfl (SV.one _) ?_
    intro w2 hB2 hbut
    go_wp2_with fail
    simp only [RegT.NP, Exit.then]
    go_wp2_with fail
    refine bodyPost_ret (results_cell2 (s := 2) (t := 3) (b := w.heap.size + 1) rfl Try.underlying58 hi rfl hB2 (by rw [hz1]; rfl) rfl) rfl ⟨?_, ?_⟩
    · rw [HM0.out]; rfl
    · exact hbut.below (Nat.le_succ _) (hB0.trans ((below_regrown w0 pr.d pr.os).mono hB0.size))
end Go.Proofs.Ytnknefdpglnbnaa
