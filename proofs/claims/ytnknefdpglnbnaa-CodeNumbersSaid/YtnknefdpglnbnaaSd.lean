/- Forms of statements: forms$6. -/
import Derived.Test.YtnknefdpglnbnaaM
namespace Go.Proofs.Ytnknefdpglnbnaa
open Go.RowKit

set_option maxRecDepth 100000 in
set_option maxHeartbeats 2000000 in
theorem forms6_any (s : SV) (a : Ex) (w : World) (B : Nat) (hB : B ≤ w.heap.size) (ha : IsEx w B s.a a) : Calls Try.prog 146 #[.agg s.arr] w fun e w' =>
    e = .returned (.tuple #[.agg ({ SV.zero with a0 := s.a0, a1 := s.a1, a2 := s.a2, aA := s.aA, al := s.al, ac := s.ac } : SV).arr, .bool (orNoneE a)]) ∧ Below w.heap.size w w' := by
  have h17 := s.size
  have Ha := Lib.hid ha
  clear ha
  go_enter Try.func146, Try.ntmps146
  go_wp2_with fail
  obtain ⟨w0, hw0⟩ : ∃ w0, w0 = (w.alloc (.cells s.arr 58)).alloc (.cells SV.zero.arr 58) := ⟨_, rfl⟩
  have hw0' : (w.alloc (.cells s.arr 58)).alloc (.cells #[.int .u8 0, .string ⟨#[]⟩, .string ⟨#[]⟩, .int .u8 0, .int .u8 0, .int .u8 0, .int .i64 0, .string ⟨#[]⟩, .slice Option.none 0 0, .int .u8 0, .int .i64 0, .string ⟨#[]⟩, .slice Option.none 0 0, .slice Option.none 0 0, .slice Option.none 0 0, .slice Option.none 0 0, .slice Option.none 0 0] 58) = w0 := hw0.symm
  rw [hw0']
  have hS : BlkN w0 w.heap.size 58 s.arr := by rw [hw0]; exact (BlkN.at_ rfl _ _).alloc _
  have hR0 : BlkN w0 (w.heap.size + 1) 58 SV.zero.arr := by rw [hw0]; exact BlkN.at_ (by simp) _ _
  have hB0 : Below w.heap.size w w0 := by rw [hw0]; exact ((Below.refl _ _).alloc (Nat.le_refl _) _).alloc (by simp) _
  obtain ⟨i0, hi, hz0, hz1, hz2⟩ := info_parts info58
  have c5 := fun d os => cell_regrown (hS.cell 5 s.at5) d os
  have c6 := fun d os => cell_regrown (hS.cell 6 s.at6) d os
  have c7 := fun d os => cell_regrown (hS.cell 7 s.at7) d os
  have c8 := fun d os => cell_regrown (hS.cell 8 s.at8) d os
  clear hw0 hw0' hS
  have cQ0 := fun d os => Calls.regrown_of (orNone_any (Sort.grow (redrawn w0 d) os) ((Ha.out.keep (fun b hb => hB0.block b (Nat.lt_of_lt_of_le hb hB))).keep (fun b hb => (below_regrown w0 d os).block b (Nat.lt_of_lt_of_le hb (Nat.le_trans hB hB0.size)))) (Nat.le_trans hB (Nat.le_trans hB0.size (below_regrown w0 d os).size)))
  refine RegQ.region [3, 4, 5, 0, 1, 2] [3, 4, 5, 0, 1, 2] [6, 7] [_, _, _, _, _, _] [_, _] rfl rfl (by kernel_rfl) (by kernel_rfl) (by kernel_rfl) (by kernel_rfl) (by kernel_rfl) (by kernel_rfl) ?_
  simp only [List.getElem_toArray, List.getElem_cons_zero, List.getElem_cons_succ]
  repeat (quiet_step (first | exact cQ0 _ _))
  refine wpQuiet_nil ?_
  rintro w1 ⟨pr, rfl⟩
  have hR1 := hR0.below (below_regrown w0 pr.d pr.os)
  refine wpList_store_blk rfl 58 (.tmp 2) (.tmp 6) rfl i0 hi (w.heap.size + 1) ({ SV.zero with a0 := s.a0, a1 := s.a1, a2 := s.a2, aA := s.aA, al := s.al, ac := s.ac } : SV).arr rfl rfl 58 _ hR1 (by rw [hz1]; rfl) rfl (SV.one _) ?_
  intro w2 hB2 hbut
  go_wp2_with fail
  simp only [RegT.NP, Exit.then]
  go_wp2_with fail
  refine bodyPost_ret (results_cell2 (s := 2) (t := 3) (b := w.heap.size + 1) rfl Try.underlying58 hi rfl hB2 (by rw [hz1]; rfl) rfl) rfl ⟨?_, ?_⟩
  · rfl
  · exact hbut.below (Nat.le_succ _) (hB0.trans ((below_regrown w0 pr.d pr.os).mono hB0.size))
end Go.Proofs.Ytnknefdpglnbnaa
