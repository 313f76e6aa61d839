/- Contracts of the forms of statements. -/
import Derived.Test.YtnknefdpglnbnaaP
namespace Go.Proofs.Ytnknefdpglnbnaa
open Go.RowKit

theorem forms7_any (s : SV) (w : World) : Calls Try.prog 147 #[.agg s.arr] w fun e w' => e = .returned (.tuple #[.agg SV.zero.arr, .bool true]) ∧ Below w.heap.size w w' := by
  have h17 := s.size
  go_enter Try.func147, Try.ntmps147
  go_wp2_with fail
  obtain ⟨i0, hi, hz0, hz1, hz2⟩ := info_parts info58
  exact bodyPost_ret (results_cell2 (s := 2) (t := 3) (b := w.heap.size + 1) rfl Try.underlying58 hi rfl (BlkN.at_ (w := w.alloc (.cells s.arr 58)) (by simp) 58 SV.zero.arr) (by rw [hz1]; rfl) rfl) rfl ⟨rfl, ((Below.refl _ _).alloc (Nat.le_refl _) _).alloc (by simp) _⟩
set_option maxRecDepth 100000 in
set_option maxHeartbeats 1000000 in
theorem forms1_any (s : SV) (a : Ex) (w : World) (B : Nat) (hB : B ≤ w.heap.size) (ha : IsEx w B s.a a) : Calls Try.prog 138 #[.agg s.arr] w fun e w' =>
    e = .returned (.tuple #[.agg ({ SV.zero with nm := s.nm, a0 := s.a0, a1 := s.a1, a2 := s.a2, aA := s.aA, al := s.al, ac := s.ac } : SV).arr, .bool (mayN s.nm && orNoneE a)]) ∧ Below w.heap.size w w' := by
  have h17 := s.size
  have HA := Lib.hid ha
  clear ha
  go_enter Try.func138, Try.ntmps138
  go_wp2_with fail
  obtain ⟨w0, hw0⟩ : ∃ w0, w0 = (w.alloc (.cells s.arr 58)).alloc (.cells SV.zero.arr 58) := ⟨_, rfl⟩
  have hw0' : (w.alloc (.cells s.arr 58)).alloc (.cells #[.int .u8 0, .string ⟨#[]⟩, .string ⟨#[]⟩, .int .u8 0, .int .u8 0, .int .u8 0, .int .i64 0, .string ⟨#[]⟩, .slice Option.none 0 0, .int .u8 0, .int .i64 0, .string ⟨#[]⟩, .slice Option.none 0 0, .slice Option.none 0 0, .slice Option.none 0 0, .slice Option.none 0 0, .slice Option.none 0 0] 58) = w0 := hw0.symm
  rw [hw0']
  have hS : BlkN w0 w.heap.size 58 s.arr := by rw [hw0]; exact (BlkN.at_ rfl _ _).alloc _
  have hR0 : BlkN w0 (w.heap.size + 1) 58 SV.zero.arr := by rw [hw0]; exact BlkN.at_ (by simp) _ _
  have hB0 : Below w.heap.size w w0 := by rw [hw0]; exact ((Below.refl _ _).alloc (Nat.le_refl _) _).alloc (by simp) _
  obtain ⟨i0, hi, hz0, hz1, hz2⟩ := info_parts info58
  have c1 := fun d os => cell_regrown (hS.cell 1 s.at1) d os
  have c5 := fun d os => cell_regrown (hS.cell 5 s.at5) d os
  have c6 := fun d os => cell_regrown (hS.cell 6 s.at6) d os
  have c7 := fun d os => cell_regrown (hS.cell 7 s.at7) d os
  have c8 := fun d os => cell_regrown (hS.cell 8 s.at8) d os
  clear hw0 hw0' hS
  cases hm : mayN s.nm
  · have HM := Lib.hid hm
    have cQ := fun d os => Calls.regrown_of (mayName_any s.nm (Sort.grow (redrawn w0 d) os))
    rw [hm] at cQ
    clear hm
    refine RegQ.region [5, 6, 7, 8, 9, 10, 11, 12, 0, 1, 2, 3, 4] [5, 6, 7, 8, 9, 10, 11, 0, 1, 2, 3, 4] [13, 14] [_, _, _, _, _, _, _, _, _, _, _, _, _] [_, _] rfl rfl (by kernel_rfl) (by kernel_rfl) (by kernel_rfl) (by kernel_rfl) (by kernel_rfl) (by kernel_rfl) ?_
    simp only [List.getElem_toArray, List.getElem_cons_zero, List.getElem_cons_succ]
    repeat (quiet_step (exact cQ _ _))
    refine wpQuiet_nil ?_
    rintro w1 ⟨pr, rfl⟩
    have hR1 := hR0.below (below_regrown w0 pr.d pr.os)
    refine wpList_store_blk rfl 58 (.tmp 2) (.tmp 8) rfl i0 hi (w.heap.size + 1) ({ SV.zero with nm := s.nm, a0 := s.a0, a1 := s.a1, a2 := s.a2, aA := s.aA, al := s.al, ac := s.ac } : SV).arr rfl rfl 58 _ hR1 (by rw [hz1]; rfl) rfl (SV.one _) ?_
    intro w2 hB2 hbut
    go_wp2_with fail
    simp only [RegT.NP, Exit.then]
    go_wp2_with fail
    refine bodyPost_ret (results_cell2 (s := 2) (t := 3) (b := w.heap.size + 1) rfl Try.underlying58 hi rfl hB2 (by rw [hz1]; rfl) rfl) rfl ⟨?_, ?_⟩
    · rw [HM.out]; rfl
    · exact hbut.below (Nat.le_succ _) (hB0.trans ((below_regrown w0 pr.d pr.os).mono hB0.size))
  · have HM := Lib.hid hm
    have cQ := fun d os => Calls.regrown_of (mayName_any s.nm (Sort.grow (redrawn w0 d) os))
    rw [hm] at cQ
    clear hm
    have cO := fun d os => Calls.regrown_of (orNone_any (Sort.grow (redrawn w0 d) os) ((HA.out.keep (fun b hb => hB0.block b (Nat.lt_of_lt_of_le hb hB))).keep (fun b hb => (below_regrown w0 d os).block b (Nat.lt_of_lt_of_le hb (Nat.le_trans hB hB0.size)))) (Nat.le_trans hB (Nat.le_trans hB0.size (below_regrown w0 d os).size)))
    refine RegQ.region [5, 6, 7, 8, 9, 10, 11, 12, 0, 1, 2, 3, 4] [5, 6, 7, 8, 9, 10, 11, 0, 1, 2, 3, 4] [13, 14] [_, _, _, _, _, _, _, _, _, _, _, _, _] [_, _] rfl rfl (by kernel_rfl) (by kernel_rfl) (by kernel_rfl) (by kernel_rfl) (by kernel_rfl) (by kernel_rfl) ?_
    simp only [List.getElem_toArray, List.getElem_cons_zero, List.getElem_cons_succ]
    repeat (quiet_step (first | exact cQ _ _ | exact cO _ _))
    refine wpQuiet_nil ?_
    rintro w1 ⟨pr, rfl⟩
    have hR1 := hR0.below (below_regrown w0 pr.d pr.os)
    refine wpList_store_blk rfl 58 (.tmp 2) (.tmp 8) rfl i0 hi (w.heap.size + 1) ({ SV.zero with nm := s.nm, a0 := s.a0, a1 := s.a1, a2 := s.a2, aA := s.aA, al := s.al, ac := s.ac } : SV).arr rfl rfl 58 _ hR1 (by rw [hz1]; rfl) rfl (SV.one _) ?_
    intro w2 hB2 hbut
    go_wp2_with fail
    simp only [RegT.NP, Exit.then]
    go_wp2_with fail
    refine bodyPost_ret (results_cell2 (s := 2) (t := 3) (b := w.heap.size + 1) rfl Try.underlying58 hi rfl hB2 (by rw [hz1]; rfl) rfl) rfl ⟨?_, ?_⟩
    · rw [HM.out]; rfl
    · exact hbut.below (Nat.le_succ _) (hB0.trans ((below_regrown w0 pr.d pr.os).mono hB0.size))
end Go.Proofs.Ytnknefdpglnbnaa
