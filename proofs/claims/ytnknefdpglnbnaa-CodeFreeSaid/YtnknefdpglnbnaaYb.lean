/- makes: What [1]. makes: What [2, 3, 4, 8]. makes: What [5, 10]. -/
import Derived.Test.YtnknefdpglnbnaaY
import Derived.Deep.Cut
namespace Go.Proofs.Ytnknefdpglnbnaa
open Go.RowKit

attribute [local go_sem] SV.g0 SV.g1 SV.g2 SV.g3 SV.g4 SV.g5 SV.g6 SV.g7 SV.g8 SV.g9 SV.g10 SV.g11 SV.g12 SV.g13 SV.g14 SV.g15 SV.g16
attribute [local irreducible] wpQuiet RegT.seqT wpList
set_option maxRecDepth 100000 in
set_option maxHeartbeats 4000000 in
theorem makesW1_any (s : SV) (a : Ex) (w : World) (B : Nat) (hB : B ≤ w.heap.size) (ha : IsEx w B s.a a) (hk : s.wh = 1) : Calls Try.prog 141 #[.agg s.arr] w fun e w' =>
    e = .returned (.tuple #[.agg ({ SV.zero with nm := s.nm, wh := s.wh, a0 := s.a0, a1 := s.a1, a2 := s.a2, aA := s.aA, al := s.al, ac := s.ac } : SV).arr, .bool ((mayN s.nm && orNoneE a))]) ∧ Below w.heap.size w w' := by
  have h17 := s.size
  have Ha := Lib.hid ha
  clear ha
  have t1 : (s.wh == 1) = true := by rw [hk]; rfl
  clear hk
  have q0 := fun w' => mayName_any s.nm w'
  obtain ⟨i0, hi, hz0, hz1, hz2⟩ := info_parts info58
  go_enter Try.func141, Try.ntmps141
  go_wp2_with fail
  obtain ⟨w0, hw0⟩ : ∃ w0, w0 = ((w.alloc (.cells s.arr 58)).alloc (.cells SV.zero.arr 58)).alloc (.cells ({ SV.zero with nm := s.nm, wh := s.wh } : SV).arr 58) := ⟨_, rfl⟩
  have hw0' : ((w.alloc (.cells s.arr 58)).alloc (.cells #[.int .u8 0, .string ⟨#[]⟩, .string ⟨#[]⟩, .int .u8 0, .int .u8 0, .int .u8 0, .int .i64 0, .string ⟨#[]⟩, .slice Option.none 0 0, .int .u8 0, .int .i64 0, .string ⟨#[]⟩, .slice Option.none 0 0, .slice Option.none 0 0, .slice Option.none 0 0, .slice Option.none 0 0, .slice Option.none 0 0] 58)).alloc (.cells #[.int .u8 0, .string s.nm, .string ⟨#[]⟩, .int .u8 0, .int .u8 s.wh, .int .u8 0, .int .i64 0, .string ⟨#[]⟩, .slice Option.none 0 0, .int .u8 0, .int .i64 0, .string ⟨#[]⟩, .slice Option.none 0 0, .slice Option.none 0 0, .slice Option.none 0 0, .slice Option.none 0 0, .slice Option.none 0 0] 58) = w0 := hw0.symm
  rw [hw0']
  have hS : BlkN w0 w.heap.size 58 s.arr := by rw [hw0]; exact ((BlkN.at_ rfl _ _).alloc _).alloc _
  have hR0 : BlkN w0 (w.heap.size + 1) 58 SV.zero.arr := by rw [hw0]; exact (BlkN.at_ (by simp) _ _).alloc _
  have hM0 : BlkN w0 (w.heap.size + 1 + 1) 58 ({ SV.zero with nm := s.nm, wh := s.wh } : SV).arr := by rw [hw0]; exact BlkN.at_ (by simp) _ _
  have hB0 : Below w.heap.size w w0 := by rw [hw0]; exact (((Below.refl _ _).alloc (Nat.le_refl _) _).alloc (by simp) _).alloc (by simp; omega) _
  clear hw0 hw0'
  refine (q0 _).mono ?_
  rintro e w1 ⟨rfl, hb1⟩
  have hS1 := hS.below hb1
  have hR1 := hR0.below hb1
  have hM1 := hM0.below hb1
  have hB1 := hB0.trans (hb1.mono hB0.size)
  have c4 := hS1.cell 4 s.at4
  have c5 := hS1.cell 5 s.at5
  have c6 := hS1.cell 6 s.at6
  have c7 := hS1.cell 7 s.at7
  have c8 := hS1.cell 8 s.at8
  have m5 := hM1.cell 5 (SV.at5 _)
  have f5 := hM1.free 5
  have m6 := hM1.cell 6 (SV.at6 _)
  have f6 := hM1.free 6
  have m7 := hM1.cell 7 (SV.at7 _)
  have f7 := hM1.free 7
  have m8 := hM1.cell 8 (SV.at8 _)
  have f8 := hM1.free 8
  have hlt := hM1.lt
  have HS1 := Lib.hid hS1
  have HR1 := Lib.hid hR1
  have HM1 := Lib.hid hM1
  clear hS hR0 hM0 hS1 hR1 hM1 hb1 q0
  cases hm0 : mayN s.nm
  · have HM0 := Lib.hid hm0
    go_wp2_with fail
    obtain ⟨w2, hw2⟩ : ∃ w2, w2 = ((((w1.setCell ⟨w.heap.size + 1 + 1, 5, Option.none⟩ (.int .u8 s.a0)).setCell ⟨w.heap.size + 1 + 1, 6, Option.none⟩ (.int .i64 s.a1)).setCell ⟨w.heap.size + 1 + 1, 7, Option.none⟩ (.string s.a2)).setCell ⟨w.heap.size + 1 + 1, 8, Option.none⟩ (.slice s.aA s.al s.ac)) := ⟨_, rfl⟩
    have hM2 : BlkN w2 (w.heap.size + 1 + 1) 58 ({ SV.zero with nm := s.nm, wh := s.wh, a0 := s.a0, a1 := s.a1, a2 := s.a2, aA := s.aA, al := s.al, ac := s.ac } : SV).arr := by rw [hw2]; exact ((((HM1.out.set 5 (.int .u8 s.a0)).set 6 (.int .i64 s.a1)).set 7 (.string s.a2)).set 8 (.slice s.aA s.al s.ac))
    have hS2 : BlkN w2 w.heap.size 58 s.arr := by rw [hw2]; exact ((((HS1.out.setOther (by simp; omega) _).setOther (by simp; omega) _).setOther (by simp; omega) _).setOther (by simp; omega) _)
    have hR2 : BlkN w2 (w.heap.size + 1) 58 SV.zero.arr := by rw [hw2]; exact ((((HR1.out.setOther (by simp) _).setOther (by simp) _).setOther (by simp) _).setOther (by simp) _)
    have hB2 : Below w.heap.size w w2 := by rw [hw2]; exact ((((hB1.setCell (by simp; omega) _).setCell (by simp; omega) _).setCell (by simp; omega) _).setCell (by simp; omega) _)
    try rw [← hw2]
    clear hw2 c4 c5 m5 f5 c6 m6 f6 c7 m7 f7 c8 m8 f8
    have c5 := fun d os => cell_regrown (hS2.cell 5 s.at5) d os
    have c6 := fun d os => cell_regrown (hS2.cell 6 s.at6) d os
    have c7 := fun d os => cell_regrown (hS2.cell 7 s.at7) d os
    have c8 := fun d os => cell_regrown (hS2.cell 8 s.at8) d os
    clear hm0
    refine RegQ.region [1, 2, 3, 4, 5, 6, 0] [1, 2, 3, 4, 5, 0] [7, 8] [_, _, _, _, _, _, _] [_, _] rfl rfl (by kernel_rfl) (by kernel_rfl) (by kernel_rfl) (by kernel_rfl) (by kernel_rfl) (by kernel_rfl) ?_
    simp only [List.getElem_toArray, List.getElem_cons_zero, List.getElem_cons_succ]
    have HM2 := Lib.hid hM2
    clear hM2
    iterate 6 (quiet_step (fail))
    refine wpQuiet_load rfl 58 _ rfl ⟨w.heap.size + 1 + 1, 0, Option.none⟩ rfl (.agg ({ SV.zero with nm := s.nm, wh := s.wh, a0 := s.a0, a1 := s.a1, a2 := s.a2, aA := s.aA, al := s.al, ac := s.ac } : SV).arr) (by rintro w' ⟨p, rfl⟩; exact run_loadVar_blk Try.underlying58 hi (HM2.out.below (below_regrown w2 p.d p.os)) (by rw [hz1]; rfl)) ?_
    refine wpQuiet_nil ?_
    rintro w3 ⟨pr, rfl⟩
    have hR3 := hR2.below (below_regrown w2 pr.d pr.os)
    refine wpList_store_blk rfl 58 (.tmp 2) (.tmp 21) rfl i0 hi (w.heap.size + 1) ({ SV.zero with nm := s.nm, wh := s.wh, a0 := s.a0, a1 := s.a1, a2 := s.a2, aA := s.aA, al := s.al, ac := s.ac } : SV).arr rfl rfl 58 _ hR3 (by rw [hz1]; rfl) rfl (SV.one _) ?_
    intro w4 hB4 hbut
    go_wp2_with fail
    simp only [RegT.NP, Exit.then]
    go_wp2_with fail
    refine bodyPost_ret (results_cell2 (s := 2) (t := 3) (b := w.heap.size + 1) rfl Try.underlying58 hi rfl hB4 (by rw [hz1]; rfl) rfl) rfl ⟨?_, ?_⟩
    · rw [HM0.out]; rfl
    · exact hbut.below (Nat.le_succ _) (hB2.trans ((below_regrown w2 pr.d pr.os).mono hB2.size))
  · have HM0 := Lib.hid hm0
    go_wp2_with fail
    obtain ⟨w2, hw2⟩ : ∃ w2, w2 = ((((w1.setCell ⟨w.heap.size + 1 + 1, 5, Option.none⟩ (.int .u8 s.a0)).setCell ⟨w.heap.size + 1 + 1, 6, Option.none⟩ (.int .i64 s.a1)).setCell ⟨w.heap.size + 1 + 1, 7, Option.none⟩ (.string s.a2)).setCell ⟨w.heap.size + 1 + 1, 8, Option.none⟩ (.slice s.aA s.al s.ac)) := ⟨_, rfl⟩
    have hM2 : BlkN w2 (w.heap.size + 1 + 1) 58 ({ SV.zero with nm := s.nm, wh := s.wh, a0 := s.a0, a1 := s.a1, a2 := s.a2, aA := s.aA, al := s.al, ac := s.ac } : SV).arr := by rw [hw2]; exact ((((HM1.out.set 5 (.int .u8 s.a0)).set 6 (.int .i64 s.a1)).set 7 (.string s.a2)).set 8 (.slice s.aA s.al s.ac))
    have hS2 : BlkN w2 w.heap.size 58 s.arr := by rw [hw2]; exact ((((HS1.out.setOther (by simp; omega) _).setOther (by simp; omega) _).setOther (by simp; omega) _).setOther (by simp; omega) _)
    have hR2 : BlkN w2 (w.heap.size + 1) 58 SV.zero.arr := by rw [hw2]; exact ((((HR1.out.setOther (by simp) _).setOther (by simp) _).setOther (by simp) _).setOther (by simp) _)
    have hB2 : Below w.heap.size w w2 := by rw [hw2]; exact ((((hB1.setCell (by simp; omega) _).setCell (by simp; omega) _).setCell (by simp; omega) _).setCell (by simp; omega) _)
    try rw [← hw2]
    clear hw2 c4 c5 m5 f5 c6 m6 f6 c7 m7 f7 c8 m8 f8
    have c5 := fun d os => cell_regrown (hS2.cell 5 s.at5) d os
    have c6 := fun d os => cell_regrown (hS2.cell 6 s.at6) d os
    have c7 := fun d os => cell_regrown (hS2.cell 7 s.at7) d os
    have c8 := fun d os => cell_regrown (hS2.cell 8 s.at8) d os
    have cQ0 := fun d os => Calls.regrown_of (orNone_any (Sort.grow (redrawn w2 d) os) ((Ha.out.keep (fun b hb => hB2.block b (Nat.lt_of_lt_of_le hb hB))).keep (fun b hb => (below_regrown w2 d os).block b (Nat.lt_of_lt_of_le hb (Nat.le_trans hB hB2.size)))) (Nat.le_trans hB (Nat.le_trans hB2.size (below_regrown w2 d os).size)))
    clear hm0
    refine RegQ.region [1, 2, 3, 4, 5, 6, 0] [1, 2, 3, 4, 5, 0] [7, 8] [_, _, _, _, _, _, _] [_, _] rfl rfl (by kernel_rfl) (by kernel_rfl) (by kernel_rfl) (by kernel_rfl) (by kernel_rfl) (by kernel_rfl) ?_
    simp only [List.getElem_toArray, List.getElem_cons_zero, List.getElem_cons_succ]
    have HM2 := Lib.hid hM2
    clear hM2
    iterate 6 (quiet_step (first | exact cQ0 _ _))
    refine wpQuiet_load rfl 58 _ rfl ⟨w.heap.size + 1 + 1, 0, Option.none⟩ rfl (.agg ({ SV.zero with nm := s.nm, wh := s.wh, a0 := s.a0, a1 := s.a1, a2 := s.a2, aA := s.aA, al := s.al, ac := s.ac } : SV).arr) (by rintro w' ⟨p, rfl⟩; exact run_loadVar_blk Try.underlying58 hi (HM2.out.below (below_regrown w2 p.d p.os)) (by rw [hz1]; rfl)) ?_
    refine wpQuiet_nil ?_
    rintro w3 ⟨pr, rfl⟩
    have hR3 := hR2.below (below_regrown w2 pr.d pr.os)
    refine wpList_store_blk rfl 58 (.tmp 2) (.tmp 21) rfl i0 hi (w.heap.size + 1) ({ SV.zero with nm := s.nm, wh := s.wh, a0 := s.a0, a1 := s.a1, a2 := s.a2, aA := s.aA, al := s.al, ac := s.ac } : SV).arr rfl rfl 58 _ hR3 (by rw [hz1]; rfl) rfl (SV.one _) ?_
    intro w4 hB4 hbut
    go_wp2_with fail
    simp only [RegT.NP, Exit.then]
    go_wp2_with fail
    refine bodyPost_ret (results_cell2 (s := 2) (t := 3) (b := w.heap.size + 1) rfl Try.underlying58 hi rfl hB4 (by rw [hz1]; rfl) rfl) rfl ⟨?_, ?_⟩
    · rw [HM0.out]; rfl
    · exact hbut.below (Nat.le_succ _) (hB2.trans ((below_regrown w2 pr.d pr.os).mono hB2.size))
end Go.Proofs.Ytnknefdpglnbnaa
namespace Go.Proofs.Ytnknefdpglnbnaa
open Go.RowKit

attribute [local go_sem] SV.g0 SV.g1 SV.g2 SV.g3 SV.g4 SV.g5 SV.g6 SV.g7 SV.g8 SV.g9 SV.g10 SV.g11 SV.g12 SV.g13 SV.g14 SV.g15 SV.g16
attribute [local irreducible] wpQuiet RegT.seqT wpList
set_option maxRecDepth 100000 in
set_option maxHeartbeats 4000000 in
theorem makesW2_any (s : SV) (w : World) (hk : s.wh = 2) : Calls Try.prog 141 #[.agg s.arr] w fun e w' =>
    e = .returned (.tuple #[.agg ({ SV.zero with nm := s.nm, wh := s.wh } : SV).arr, .bool (mayN s.nm)]) ∧ Below w.heap.size w w' := by
  have h17 := s.size
  have t1 : (s.wh == 1) = false := by rw [hk]; rfl
  have t2 : (s.wh == 2) = true := by rw [hk]; rfl
  clear hk
  have q0 := fun w' => mayName_any s.nm w'
  obtain ⟨i0, hi, hz0, hz1, hz2⟩ := info_parts info58
  go_enter Try.func141, Try.ntmps141
  go_wp2_with fail
  obtain ⟨w0, hw0⟩ : ∃ w0, w0 = ((w.alloc (.cells s.arr 58)).alloc (.cells SV.zero.arr 58)).alloc (.cells ({ SV.zero with nm := s.nm, wh := s.wh } : SV).arr 58) := ⟨_, rfl⟩
  have hw0' : ((w.alloc (.cells s.arr 58)).alloc (.cells #[.int .u8 0, .string ⟨#[]⟩, .string ⟨#[]⟩, .int .u8 0, .int .u8 0, .int .u8 0, .int .i64 0, .string ⟨#[]⟩, .slice Option.none 0 0, .int .u8 0, .int .i64 0, .string ⟨#[]⟩, .slice Option.none 0 0, .slice Option.none 0 0, .slice Option.none 0 0, .slice Option.none 0 0, .slice Option.none 0 0] 58)).alloc (.cells #[.int .u8 0, .string s.nm, .string ⟨#[]⟩, .int .u8 0, .int .u8 s.wh, .int .u8 0, .int .i64 0, .string ⟨#[]⟩, .slice Option.none 0 0, .int .u8 0, .int .i64 0, .string ⟨#[]⟩, .slice Option.none 0 0, .slice Option.none 0 0, .slice Option.none 0 0, .slice Option.none 0 0, .slice Option.none 0 0] 58) = w0 := hw0.symm
  rw [hw0']
  have hS : BlkN w0 w.heap.size 58 s.arr := by rw [hw0]; exact ((BlkN.at_ rfl _ _).alloc _).alloc _
  have hR0 : BlkN w0 (w.heap.size + 1) 58 SV.zero.arr := by rw [hw0]; exact (BlkN.at_ (by simp) _ _).alloc _
  have hM0 : BlkN w0 (w.heap.size + 1 + 1) 58 ({ SV.zero with nm := s.nm, wh := s.wh } : SV).arr := by rw [hw0]; exact BlkN.at_ (by simp) _ _
  have hB0 : Below w.heap.size w w0 := by rw [hw0]; exact (((Below.refl _ _).alloc (Nat.le_refl _) _).alloc (by simp) _).alloc (by simp; omega) _
  clear hw0 hw0'
  refine (q0 _).mono ?_
  rintro e w1 ⟨rfl, hb1⟩
  have hS1 := hS.below hb1
  have hR1 := hR0.below hb1
  have hM1 := hM0.below hb1
  have hB1 := hB0.trans (hb1.mono hB0.size)
  have c4 := hS1.cell 4 s.at4
  have hlt := hM1.lt
  have HR1 := Lib.hid hR1
  have HM1 := Lib.hid hM1
  clear hS hR0 hM0 hS1 hR1 hM1 hb1 q0
  go_upto_region 11 with (fail)
  refine wp_region_lit ?_
  refine wpList_load_blk rfl 58 (.tmp 4) rfl ⟨w.heap.size + 1 + 1, 0, Option.none⟩ rfl (.agg ({ SV.zero with nm := s.nm, wh := s.wh } : SV).arr) (run_loadVar_blk Try.underlying58 hi HM1.out (by rw [hz1]; rfl)) ?_
  refine wpList_move rfl (.tmp 5) rfl ?_
  refine wpList_store_blk rfl 58 (.tmp 2) (.tmp 33) rfl i0 hi (w.heap.size + 1) ({ SV.zero with nm := s.nm, wh := s.wh } : SV).arr rfl rfl 58 _ HR1.out (by rw [hz1]; rfl) rfl (SV.one _) ?_
  intro w4 hB4 hbut
  go_wp2_with fail
  exact bodyPost_ret (results_cell2 (s := 2) (t := 3) (b := w.heap.size + 1) rfl Try.underlying58 hi rfl hB4 (by rw [hz1]; rfl) rfl) rfl ⟨rfl, hbut.below (Nat.le_succ _) hB1⟩
set_option maxRecDepth 100000 in
set_option maxHeartbeats 4000000 in
theorem makesW3_any (s : SV) (w : World) (hk : s.wh = 3) : Calls Try.prog 141 #[.agg s.arr] w fun e w' =>
    e = .returned (.tuple #[.agg ({ SV.zero with nm := s.nm, wh := s.wh } : SV).arr, .bool (mayN s.nm)]) ∧ Below w.heap.size w w' := by
  have h17 := s.size
  have t1 : (s.wh == 1) = false := by rw [hk]; rfl
  have t2 : (s.wh == 2) = false := by rw [hk]; rfl
  have t3 : (s.wh == 3) = true := by rw [hk]; rfl
  clear hk
  have q0 := fun w' => mayName_any s.nm w'
  obtain ⟨i0, hi, hz0, hz1, hz2⟩ := info_parts info58
  go_enter Try.func141, Try.ntmps141
  go_wp2_with fail
  obtain ⟨w0, hw0⟩ : ∃ w0, w0 = ((w.alloc (.cells s.arr 58)).alloc (.cells SV.zero.arr 58)).alloc (.cells ({ SV.zero with nm := s.nm, wh := s.wh } : SV).arr 58) := ⟨_, rfl⟩
  have hw0' : ((w.alloc (.cells s.arr 58)).alloc (.cells #[.int .u8 0, .string ⟨#[]⟩, .string ⟨#[]⟩, .int .u8 0, .int .u8 0, .int .u8 0, .int .i64 0, .string ⟨#[]⟩, .slice Option.none 0 0, .int .u8 0, .int .i64 0, .string ⟨#[]⟩, .slice Option.none 0 0, .slice Option.none 0 0, .slice Option.none 0 0, .slice Option.none 0 0, .slice Option.none 0 0] 58)).alloc (.cells #[.int .u8 0, .string s.nm, .string ⟨#[]⟩, .int .u8 0, .int .u8 s.wh, .int .u8 0, .int .i64 0, .string ⟨#[]⟩, .slice Option.none 0 0, .int .u8 0, .int .i64 0, .string ⟨#[]⟩, .slice Option.none 0 0, .slice Option.none 0 0, .slice Option.none 0 0, .slice Option.none 0 0, .slice Option.none 0 0] 58) = w0 := hw0.symm
  rw [hw0']
  have hS : BlkN w0 w.heap.size 58 s.arr := by rw [hw0]; exact ((BlkN.at_ rfl _ _).alloc _).alloc _
  have hR0 : BlkN w0 (w.heap.size + 1) 58 SV.zero.arr := by rw [hw0]; exact (BlkN.at_ (by simp) _ _).alloc _
  have hM0 : BlkN w0 (w.heap.size + 1 + 1) 58 ({ SV.zero with nm := s.nm, wh := s.wh } : SV).arr := by rw [hw0]; exact BlkN.at_ (by simp) _ _
  have hB0 : Below w.heap.size w w0 := by rw [hw0]; exact (((Below.refl _ _).alloc (Nat.le_refl _) _).alloc (by simp) _).alloc (by simp; omega) _
  clear hw0 hw0'
  refine (q0 _).mono ?_
  rintro e w1 ⟨rfl, hb1⟩
  have hS1 := hS.below hb1
  have hR1 := hR0.below hb1
  have hM1 := hM0.below hb1
  have hB1 := hB0.trans (hb1.mono hB0.size)
  have c4 := hS1.cell 4 s.at4
  have hlt := hM1.lt
  have HR1 := Lib.hid hR1
  have HM1 := Lib.hid hM1
  clear hS hR0 hM0 hS1 hR1 hM1 hb1 q0
  go_upto_region 11 with (fail)
  refine wp_region_lit ?_
  refine wpList_load_blk rfl 58 (.tmp 4) rfl ⟨w.heap.size + 1 + 1, 0, Option.none⟩ rfl (.agg ({ SV.zero with nm := s.nm, wh := s.wh } : SV).arr) (run_loadVar_blk Try.underlying58 hi HM1.out (by rw [hz1]; rfl)) ?_
  refine wpList_move rfl (.tmp 5) rfl ?_
  refine wpList_store_blk rfl 58 (.tmp 2) (.tmp 33) rfl i0 hi (w.heap.size + 1) ({ SV.zero with nm := s.nm, wh := s.wh } : SV).arr rfl rfl 58 _ HR1.out (by rw [hz1]; rfl) rfl (SV.one _) ?_
  intro w4 hB4 hbut
  go_wp2_with fail
  exact bodyPost_ret (results_cell2 (s := 2) (t := 3) (b := w.heap.size + 1) rfl Try.underlying58 hi rfl hB4 (by rw [hz1]; rfl) rfl) rfl ⟨rfl, hbut.below (Nat.le_succ _) hB1⟩
set_option maxRecDepth 100000 in
set_option maxHeartbeats 4000000 in
theorem makesW4_any (s : SV) (w : World) (hk : s.wh = 4) : Calls Try.prog 141 #[.agg s.arr] w fun e w' =>
    e = .returned (.tuple #[.agg ({ SV.zero with nm := s.nm, wh := s.wh } : SV).arr, .bool (mayN s.nm)]) ∧ Below w.heap.size w w' := by
  have h17 := s.size
  have t1 : (s.wh == 1) = false := by rw [hk]; rfl
  have t2 : (s.wh == 2) = false := by rw [hk]; rfl
  have t3 : (s.wh == 3) = false := by rw [hk]; rfl
  have t4 : (s.wh == 4) = true := by rw [hk]; rfl
  clear hk
  have q0 := fun w' => mayName_any s.nm w'
  obtain ⟨i0, hi, hz0, hz1, hz2⟩ := info_parts info58
  go_enter Try.func141, Try.ntmps141
  go_wp2_with fail
  obtain ⟨w0, hw0⟩ : ∃ w0, w0 = ((w.alloc (.cells s.arr 58)).alloc (.cells SV.zero.arr 58)).alloc (.cells ({ SV.zero with nm := s.nm, wh := s.wh } : SV).arr 58) := ⟨_, rfl⟩
  have hw0' : ((w.alloc (.cells s.arr 58)).alloc (.cells #[.int .u8 0, .string ⟨#[]⟩, .string ⟨#[]⟩, .int .u8 0, .int .u8 0, .int .u8 0, .int .i64 0, .string ⟨#[]⟩, .slice Option.none 0 0, .int .u8 0, .int .i64 0, .string ⟨#[]⟩, .slice Option.none 0 0, .slice Option.none 0 0, .slice Option.none 0 0, .slice Option.none 0 0, .slice Option.none 0 0] 58)).alloc (.cells #[.int .u8 0, .string s.nm, .string ⟨#[]⟩, .int .u8 0, .int .u8 s.wh, .int .u8 0, .int .i64 0, .string ⟨#[]⟩, .slice Option.none 0 0, .int .u8 0, .int .i64 0, .string ⟨#[]⟩, .slice Option.none 0 0, .slice Option.none 0 0, .slice Option.none 0 0, .slice Option.none 0 0, .slice Option.none 0 0] 58) = w0 := hw0.symm
  rw [hw0']
  have hS : BlkN w0 w.heap.size 58 s.arr := by rw [hw0]; exact ((BlkN.at_ rfl _ _).alloc _).alloc _
  have hR0 : BlkN w0 (w.heap.size + 1) 58 SV.zero.arr := by rw [hw0]; exact (BlkN.at_ (by simp) _ _).alloc _
  have hM0 : BlkN w0 (w.heap.size + 1 + 1) 58 ({ SV.zero with nm := s.nm, wh := s.wh } : SV).arr := by rw [hw0]; exact BlkN.at_ (by simp) _ _
  have hB0 : Below w.heap.size w w0 := by rw [hw0]; exact (((Below.refl _ _).alloc (Nat.le_refl _) _).alloc (by simp) _).alloc (by simp; omega) _
  clear hw0 hw0'
  refine (q0 _).mono ?_
  rintro e w1 ⟨rfl, hb1⟩
  have hS1 := hS.below hb1
  have hR1 := hR0.below hb1
  have hM1 := hM0.below hb1
  have hB1 := hB0.trans (hb1.mono hB0.size)
  have c4 := hS1.cell 4 s.at4
  have hlt := hM1.lt
  have HR1 := Lib.hid hR1
  have HM1 := Lib.hid hM1
  clear hS hR0 hM0 hS1 hR1 hM1 hb1 q0
  go_upto_region 11 with (fail)
  refine wp_region_lit ?_
  refine wpList_load_blk rfl 58 (.tmp 4) rfl ⟨w.heap.size + 1 + 1, 0, Option.none⟩ rfl (.agg ({ SV.zero with nm := s.nm, wh := s.wh } : SV).arr) (run_loadVar_blk Try.underlying58 hi HM1.out (by rw [hz1]; rfl)) ?_
  refine wpList_move rfl (.tmp 5) rfl ?_
  refine wpList_store_blk rfl 58 (.tmp 2) (.tmp 33) rfl i0 hi (w.heap.size + 1) ({ SV.zero with nm := s.nm, wh := s.wh } : SV).arr rfl rfl 58 _ HR1.out (by rw [hz1]; rfl) rfl (SV.one _) ?_
  intro w4 hB4 hbut
  go_wp2_with fail
  exact bodyPost_ret (results_cell2 (s := 2) (t := 3) (b := w.heap.size + 1) rfl Try.underlying58 hi rfl hB4 (by rw [hz1]; rfl) rfl) rfl ⟨rfl, hbut.below (Nat.le_succ _) hB1⟩
set_option maxRecDepth 100000 in
set_option maxHeartbeats 4000000 in
theorem makesW8_any (s : SV) (w : World) (hk : s.wh = 8) : Calls Try.prog 141 #[.agg s.arr] w fun e w' =>
    e = .returned (.tuple #[.agg ({ SV.zero with nm := s.nm, wh := s.wh } : SV).arr, .bool (mayN s.nm)]) ∧ Below w.heap.size w w' := by
  have h17 := s.size
  have t1 : (s.wh == 1) = false := by rw [hk]; rfl
  have t2 : (s.wh == 2) = false := by rw [hk]; rfl
  have t3 : (s.wh == 3) = false := by rw [hk]; rfl
  have t4 : (s.wh == 4) = false := by rw [hk]; rfl
  have t8 : (s.wh == 8) = true := by rw [hk]; rfl
  clear hk
  have q0 := fun w' => mayName_any s.nm w'
  obtain ⟨i0, hi, hz0, hz1, hz2⟩ := info_parts info58
  go_enter Try.func141, Try.ntmps141
  go_wp2_with fail
  obtain ⟨w0, hw0⟩ : ∃ w0, w0 = ((w.alloc (.cells s.arr 58)).alloc (.cells SV.zero.arr 58)).alloc (.cells ({ SV.zero with nm := s.nm, wh := s.wh } : SV).arr 58) := ⟨_, rfl⟩
  have hw0' : ((w.alloc (.cells s.arr 58)).alloc (.cells #[.int .u8 0, .string ⟨#[]⟩, .string ⟨#[]⟩, .int .u8 0, .int .u8 0, .int .u8 0, .int .i64 0, .string ⟨#[]⟩, .slice Option.none 0 0, .int .u8 0, .int .i64 0, .string ⟨#[]⟩, .slice Option.none 0 0, .slice Option.none 0 0, .slice Option.none 0 0, .slice Option.none 0 0, .slice Option.none 0 0] 58)).alloc (.cells #[.int .u8 0, .string s.nm, .string ⟨#[]⟩, .int .u8 0, .int .u8 s.wh, .int .u8 0, .int .i64 0, .string ⟨#[]⟩, .slice Option.none 0 0, .int .u8 0, .int .i64 0, .string ⟨#[]⟩, .slice Option.none 0 0, .slice Option.none 0 0, .slice Option.none 0 0, .slice Option.none 0 0, .slice Option.none 0 0] 58) = w0 := hw0.symm
  rw [hw0']
  have hS : BlkN w0 w.heap.size 58 s.arr := by rw [hw0]; exact ((BlkN.at_ rfl _ _).alloc _).alloc _
  have hR0 : BlkN w0 (w.heap.size + 1) 58 SV.zero.arr := by rw [hw0]; exact (BlkN.at_ (by simp) _ _).alloc _
  have hM0 : BlkN w0 (w.heap.size + 1 + 1) 58 ({ SV.zero with nm := s.nm, wh := s.wh } : SV).arr := by rw [hw0]; exact BlkN.at_ (by simp) _ _
  have hB0 : Below w.heap.size w w0 := by rw [hw0]; exact (((Below.refl _ _).alloc (Nat.le_refl _) _).alloc (by simp) _).alloc (by simp; omega) _
  clear hw0 hw0'
  refine (q0 _).mono ?_
  rintro e w1 ⟨rfl, hb1⟩
  have hS1 := hS.below hb1
  have hR1 := hR0.below hb1
  have hM1 := hM0.below hb1
  have hB1 := hB0.trans (hb1.mono hB0.size)
  have c4 := hS1.cell 4 s.at4
  have hlt := hM1.lt
  have HR1 := Lib.hid hR1
  have HM1 := Lib.hid hM1
  clear hS hR0 hM0 hS1 hR1 hM1 hb1 q0
  go_upto_region 11 with (fail)
  refine wp_region_lit ?_
  refine wpList_load_blk rfl 58 (.tmp 4) rfl ⟨w.heap.size + 1 + 1, 0, Option.none⟩ rfl (.agg ({ SV.zero with nm := s.nm, wh := s.wh } : SV).arr) (run_loadVar_blk Try.underlying58 hi HM1.out (by rw [hz1]; rfl)) ?_
  refine wpList_move rfl (.tmp 5) rfl ?_
  refine wpList_store_blk rfl 58 (.tmp 2) (.tmp 33) rfl i0 hi (w.heap.size + 1) ({ SV.zero with nm := s.nm, wh := s.wh } : SV).arr rfl rfl 58 _ HR1.out (by rw [hz1]; rfl) rfl (SV.one _) ?_
  intro w4 hB4 hbut
  go_wp2_with fail
  exact bodyPost_ret (results_cell2 (s := 2) (t := 3) (b := w.heap.size + 1) rfl Try.underlying58 hi rfl hB4 (by rw [hz1]; rfl) rfl) rfl ⟨rfl, hbut.below (Nat.le_succ _) hB1⟩
end Go.Proofs.Ytnknefdpglnbnaa
namespace Go.Proofs.Ytnknefdpglnbnaa
open Go.RowKit

attribute [local go_sem] SV.g0 SV.g1 SV.g2 SV.g3 SV.g4 SV.g5 SV.g6 SV.g7 SV.g8 SV.g9 SV.g10 SV.g11 SV.g12 SV.g13 SV.g14 SV.g15 SV.g16
attribute [local irreducible] wpQuiet RegT.seqT wpList
set_option maxRecDepth 100000 in
set_option maxHeartbeats 4000000 in
theorem makesW5_any (s : SV) (w : World) (B : Nat) (_hB : B ≤ w.heap.size) (hk : s.wh = 5) : Calls Try.prog 141 #[.agg s.arr] w fun e w' =>
    e = .returned (.tuple #[.agg ({ SV.zero with nm := s.nm, wh := s.wh, sec := s.sec } : SV).arr, .bool (((mayN s.nm && mayN s.sec) && !(s.sec.toList == s.nm.toList)))]) ∧ Below w.heap.size w w' := by
  have h17 := s.size
  have t1 : (s.wh == 1) = false := by rw [hk]; rfl
  have t2 : (s.wh == 2) = false := by rw [hk]; rfl
  have t3 : (s.wh == 3) = false := by rw [hk]; rfl
  have t4 : (s.wh == 4) = false := by rw [hk]; rfl
  have t8 : (s.wh == 8) = false := by rw [hk]; rfl
  have t14 : (s.wh == 14) = false := by rw [hk]; rfl
  have t15 : (s.wh == 15) = false := by rw [hk]; rfl
  have t16 : (s.wh == 16) = false := by rw [hk]; rfl
  have t5 : (s.wh == 5) = true := by rw [hk]; rfl
  clear hk
  have q0 := fun w' => mayName_any s.nm w'
  obtain ⟨i0, hi, hz0, hz1, hz2⟩ := info_parts info58
  go_enter Try.func141, Try.ntmps141
  go_wp2_with fail
  obtain ⟨w0, hw0⟩ : ∃ w0, w0 = ((w.alloc (.cells s.arr 58)).alloc (.cells SV.zero.arr 58)).alloc (.cells ({ SV.zero with nm := s.nm, wh := s.wh } : SV).arr 58) := ⟨_, rfl⟩
  have hw0' : ((w.alloc (.cells s.arr 58)).alloc (.cells #[.int .u8 0, .string ⟨#[]⟩, .string ⟨#[]⟩, .int .u8 0, .int .u8 0, .int .u8 0, .int .i64 0, .string ⟨#[]⟩, .slice Option.none 0 0, .int .u8 0, .int .i64 0, .string ⟨#[]⟩, .slice Option.none 0 0, .slice Option.none 0 0, .slice Option.none 0 0, .slice Option.none 0 0, .slice Option.none 0 0] 58)).alloc (.cells #[.int .u8 0, .string s.nm, .string ⟨#[]⟩, .int .u8 0, .int .u8 s.wh, .int .u8 0, .int .i64 0, .string ⟨#[]⟩, .slice Option.none 0 0, .int .u8 0, .int .i64 0, .string ⟨#[]⟩, .slice Option.none 0 0, .slice Option.none 0 0, .slice Option.none 0 0, .slice Option.none 0 0, .slice Option.none 0 0] 58) = w0 := hw0.symm
  rw [hw0']
  have hS : BlkN w0 w.heap.size 58 s.arr := by rw [hw0]; exact ((BlkN.at_ rfl _ _).alloc _).alloc _
  have hR0 : BlkN w0 (w.heap.size + 1) 58 SV.zero.arr := by rw [hw0]; exact (BlkN.at_ (by simp) _ _).alloc _
  have hM0 : BlkN w0 (w.heap.size + 1 + 1) 58 ({ SV.zero with nm := s.nm, wh := s.wh } : SV).arr := by rw [hw0]; exact BlkN.at_ (by simp) _ _
  have hB0 : Below w.heap.size w w0 := by rw [hw0]; exact (((Below.refl _ _).alloc (Nat.le_refl _) _).alloc (by simp) _).alloc (by simp; omega) _
  clear hw0 hw0'
  refine (q0 _).mono ?_
  rintro e w1 ⟨rfl, hb1⟩
  have hS1 := hS.below hb1
  have hR1 := hR0.below hb1
  have hM1 := hM0.below hb1
  have hB1 := hB0.trans (hb1.mono hB0.size)
  have c4 := hS1.cell 4 s.at4
  have c2 := hS1.cell 2 s.at2
  have m2 := hM1.cell 2 (SV.at2 _)
  have f2 := hM1.free 2
  have hlt := hM1.lt
  have HS1 := Lib.hid hS1
  have HR1 := Lib.hid hR1
  have HM1 := Lib.hid hM1
  clear hS hR0 hM0 hS1 hR1 hM1 hb1 q0
  cases hm0 : mayN s.nm
  · have HM0 := Lib.hid hm0
    go_wp2_with fail
    obtain ⟨w2, hw2⟩ : ∃ w2, w2 = (w1.setCell ⟨w.heap.size + 1 + 1, 2, Option.none⟩ (.string s.sec)) := ⟨_, rfl⟩
    have hM2 : BlkN w2 (w.heap.size + 1 + 1) 58 ({ SV.zero with nm := s.nm, wh := s.wh, sec := s.sec } : SV).arr := by rw [hw2]; exact (HM1.out.set 2 (.string s.sec))
    have hS2 : BlkN w2 w.heap.size 58 s.arr := by rw [hw2]; exact (HS1.out.setOther (by simp; omega) _)
    have hR2 : BlkN w2 (w.heap.size + 1) 58 SV.zero.arr := by rw [hw2]; exact (HR1.out.setOther (by simp) _)
    have hB2 : Below w.heap.size w w2 := by rw [hw2]; exact (hB1.setCell (by simp; omega) _)
    try rw [← hw2]
    clear hw2 c4 c2 m2 f2
    have hRl : w.heap.size + 1 < w2.heap.size := hR2.lt
    have c1 := fun p : RegQ.Reb 17 => RegQ.cell_reb (U := 58) hRl (hS2.cell 1 s.at1) (Nat.ne_of_lt (Nat.lt_succ_self _)) p
    have c2 := fun p : RegQ.Reb 17 => RegQ.cell_reb (U := 58) hRl (hS2.cell 2 s.at2) (Nat.ne_of_lt (Nat.lt_succ_self _)) p
    clear hm0
    refine RegQ.region2 (fun w' => ∃ p : RegQ.Reb 17, w' = RegQ.rebW w2 (w.heap.size + 1) 58 p) (fun j => j != 15) [1, 2, 3, 4, 5, 6, 7, 8, 9, 10, 11, 12, 13, 0] [1, 2, 3, 4, 5, 6, 7, 0] [14, 15] [_, _, _, _, _, _, _, _, _, _, _, _, _, _] rfl rfl (by kernel_rfl) (by kernel_rfl) (by kernel_rfl) (by kernel_rfl) (by kernel_rfl) (by kernel_rfl) ((RegQ.inReb'_iff hRl).2 (RegQ.InReb.drew hR2 rfl)) ?_
    simp only [List.getElem_toArray, List.getElem_cons_zero, List.getElem_cons_succ]
    have HM2 := Lib.hid hM2
    clear hM2
    iterate 13 (quiet_step (fail))
    refine wpQuiet_load rfl 58 _ rfl ⟨w.heap.size + 1 + 1, 0, Option.none⟩ rfl (.agg ({ SV.zero with nm := s.nm, wh := s.wh, sec := s.sec } : SV).arr) (by rintro w' ⟨p, rfl⟩; exact run_loadVar_blk Try.underlying58 hi (blk_reb hRl HM2.out (by omega) p) (by rw [hz1]; rfl)) ?_
    refine wpQuiet_nil ?_
    rintro w3 ⟨pr, rfl⟩
    have hI := RegQ.rebW_in (U := 58) hRl pr
    obtain ⟨cur, hcn, hcur⟩ := hI.blk
    refine RegT.seqT_held rfl ?_
    refine wpList_store_blk rfl 58 (.tmp 2) (.tmp 89) rfl i0 hi (w.heap.size + 1) ({ SV.zero with nm := s.nm, wh := s.wh, sec := s.sec } : SV).arr rfl rfl 58 cur hcur (by rw [hz1]; rfl) (hcn.trans rfl) (SV.one _) ?_
    intro w4 hB4 hbut
    simp only [wpList, Exit.then]
    refine ⟨RegQ.reb_of hRl (hI.but hbut hB4 rfl), ?_⟩
    refine RegT.seqT_tail [15] [_] rfl rfl _ _ ?_
    go_wp2_with fail
    simp only [RegT.NP, Exit.then]
    go_wp2_with fail
    refine bodyPost_ret (results_cell2 (s := 2) (t := 3) (b := w.heap.size + 1) rfl Try.underlying58 hi rfl hB4 (by rw [hz1]; rfl) rfl) rfl ⟨?_, ?_⟩
    · rw [HM0.out]; rfl
    · exact hbut.below (Nat.le_succ _) (hB2.trans ((hI.to hRl).mono (Nat.le_succ _)))
  · have HM0 := Lib.hid hm0
    go_wp2_with fail
    obtain ⟨w2, hw2⟩ : ∃ w2, w2 = (w1.setCell ⟨w.heap.size + 1 + 1, 2, Option.none⟩ (.string s.sec)) := ⟨_, rfl⟩
    have hM2 : BlkN w2 (w.heap.size + 1 + 1) 58 ({ SV.zero with nm := s.nm, wh := s.wh, sec := s.sec } : SV).arr := by rw [hw2]; exact (HM1.out.set 2 (.string s.sec))
    have hS2 : BlkN w2 w.heap.size 58 s.arr := by rw [hw2]; exact (HS1.out.setOther (by simp; omega) _)
    have hR2 : BlkN w2 (w.heap.size + 1) 58 SV.zero.arr := by rw [hw2]; exact (HR1.out.setOther (by simp) _)
    have hB2 : Below w.heap.size w w2 := by rw [hw2]; exact (hB1.setCell (by simp; omega) _)
    try rw [← hw2]
    clear hw2 c4 c2 m2 f2
    have hRl : w.heap.size + 1 < w2.heap.size := hR2.lt
    have c1 := fun p : RegQ.Reb 17 => RegQ.cell_reb (U := 58) hRl (hS2.cell 1 s.at1) (Nat.ne_of_lt (Nat.lt_succ_self _)) p
    have c2 := fun p : RegQ.Reb 17 => RegQ.cell_reb (U := 58) hRl (hS2.cell 2 s.at2) (Nat.ne_of_lt (Nat.lt_succ_self _)) p
    have cQ0 := fun p : RegQ.Reb 17 => RegQ.calls_reb (U := 58) hRl (mayName_any s.sec (RegQ.rebW w2 (w.heap.size + 1) 58 p))
    clear hm0
    cases hm1 : mayN s.sec
    · have HM1 := Lib.hid hm1
      rw [hm1] at cQ0
      clear hm1
      refine RegQ.region2 (fun w' => ∃ p : RegQ.Reb 17, w' = RegQ.rebW w2 (w.heap.size + 1) 58 p) (fun j => j != 15) [1, 2, 3, 4, 5, 6, 7, 8, 9, 10, 11, 12, 13, 0] [1, 2, 3, 4, 5, 6, 7, 0] [14, 15] [_, _, _, _, _, _, _, _, _, _, _, _, _, _] rfl rfl (by kernel_rfl) (by kernel_rfl) (by kernel_rfl) (by kernel_rfl) (by kernel_rfl) (by kernel_rfl) ((RegQ.inReb'_iff hRl).2 (RegQ.InReb.drew hR2 rfl)) ?_
      simp only [List.getElem_toArray, List.getElem_cons_zero, List.getElem_cons_succ]
      have HM2 := Lib.hid hM2
      clear hM2
      iterate 13 (quiet_step (first | exact cQ0 _))
      refine wpQuiet_load rfl 58 _ rfl ⟨w.heap.size + 1 + 1, 0, Option.none⟩ rfl (.agg ({ SV.zero with nm := s.nm, wh := s.wh, sec := s.sec } : SV).arr) (by rintro w' ⟨p, rfl⟩; exact run_loadVar_blk Try.underlying58 hi (blk_reb hRl HM2.out (by omega) p) (by rw [hz1]; rfl)) ?_
      refine wpQuiet_nil ?_
      rintro w3 ⟨pr, rfl⟩
      have hI := RegQ.rebW_in (U := 58) hRl pr
      obtain ⟨cur, hcn, hcur⟩ := hI.blk
      refine RegT.seqT_held rfl ?_
      refine wpList_store_blk rfl 58 (.tmp 2) (.tmp 89) rfl i0 hi (w.heap.size + 1) ({ SV.zero with nm := s.nm, wh := s.wh, sec := s.sec } : SV).arr rfl rfl 58 cur hcur (by rw [hz1]; rfl) (hcn.trans rfl) (SV.one _) ?_
      intro w4 hB4 hbut
      simp only [wpList, Exit.then]
      refine ⟨RegQ.reb_of hRl (hI.but hbut hB4 rfl), ?_⟩
      refine RegT.seqT_tail [15] [_] rfl rfl _ _ ?_
      go_wp2_with fail
      simp only [RegT.NP, Exit.then]
      go_wp2_with fail
      refine bodyPost_ret (results_cell2 (s := 2) (t := 3) (b := w.heap.size + 1) rfl Try.underlying58 hi rfl hB4 (by rw [hz1]; rfl) rfl) rfl ⟨?_, ?_⟩
      · rw [HM0.out, HM1.out]; rfl
      · exact hbut.below (Nat.le_succ _) (hB2.trans ((hI.to hRl).mono (Nat.le_succ _)))
    · have HM1 := Lib.hid hm1
      rw [hm1] at cQ0
      clear hm1
      refine RegQ.region2 (fun w' => ∃ p : RegQ.Reb 17, w' = RegQ.rebW w2 (w.heap.size + 1) 58 p) (fun j => j != 15) [1, 2, 3, 4, 5, 6, 7, 8, 9, 10, 11, 12, 13, 0] [1, 2, 3, 4, 5, 6, 7, 0] [14, 15] [_, _, _, _, _, _, _, _, _, _, _, _, _, _] rfl rfl (by kernel_rfl) (by kernel_rfl) (by kernel_rfl) (by kernel_rfl) (by kernel_rfl) (by kernel_rfl) ((RegQ.inReb'_iff hRl).2 (RegQ.InReb.drew hR2 rfl)) ?_
      simp only [List.getElem_toArray, List.getElem_cons_zero, List.getElem_cons_succ]
      have HM2 := Lib.hid hM2
      clear hM2
      iterate 13 (quiet_step (first | exact cQ0 _))
      refine wpQuiet_load rfl 58 _ rfl ⟨w.heap.size + 1 + 1, 0, Option.none⟩ rfl (.agg ({ SV.zero with nm := s.nm, wh := s.wh, sec := s.sec } : SV).arr) (by rintro w' ⟨p, rfl⟩; exact run_loadVar_blk Try.underlying58 hi (blk_reb hRl HM2.out (by omega) p) (by rw [hz1]; rfl)) ?_
      refine wpQuiet_nil ?_
      rintro w3 ⟨pr, rfl⟩
      have hI := RegQ.rebW_in (U := 58) hRl pr
      obtain ⟨cur, hcn, hcur⟩ := hI.blk
      refine RegT.seqT_held rfl ?_
      refine wpList_store_blk rfl 58 (.tmp 2) (.tmp 89) rfl i0 hi (w.heap.size + 1) ({ SV.zero with nm := s.nm, wh := s.wh, sec := s.sec } : SV).arr rfl rfl 58 cur hcur (by rw [hz1]; rfl) (hcn.trans rfl) (SV.one _) ?_
      intro w4 hB4 hbut
      simp only [wpList, Exit.then]
      refine ⟨RegQ.reb_of hRl (hI.but hbut hB4 rfl), ?_⟩
      refine RegT.seqT_tail [15] [_] rfl rfl _ _ ?_
      go_wp2_with fail
      simp only [RegT.NP, Exit.then]
      go_wp2_with fail
      refine bodyPost_ret (results_cell2 (s := 2) (t := 3) (b := w.heap.size + 1) rfl Try.underlying58 hi rfl hB4 (by rw [hz1]; rfl) rfl) rfl ⟨?_, ?_⟩
      · rw [HM0.out, HM1.out]; rfl
      · exact hbut.below (Nat.le_succ _) (hB2.trans ((hI.to hRl).mono (Nat.le_succ _)))
set_option maxRecDepth 100000 in
set_option maxHeartbeats 4000000 in
theorem makesW10_any (s : SV) (w : World) (B : Nat) (_hB : B ≤ w.heap.size) (hk : s.wh = 10) : Calls Try.prog 141 #[.agg s.arr] w fun e w' =>
    e = .returned (.tuple #[.agg ({ SV.zero with nm := s.nm, wh := s.wh, sec := s.sec } : SV).arr, .bool (((mayN s.nm && mayN s.sec) && !(s.sec.toList == s.nm.toList)))]) ∧ Below w.heap.size w w' := by
  have h17 := s.size
  have t1 : (s.wh == 1) = false := by rw [hk]; rfl
  have t2 : (s.wh == 2) = false := by rw [hk]; rfl
  have t3 : (s.wh == 3) = false := by rw [hk]; rfl
  have t4 : (s.wh == 4) = false := by rw [hk]; rfl
  have t8 : (s.wh == 8) = false := by rw [hk]; rfl
  have t14 : (s.wh == 14) = false := by rw [hk]; rfl
  have t15 : (s.wh == 15) = false := by rw [hk]; rfl
  have t16 : (s.wh == 16) = false := by rw [hk]; rfl
  have t5 : (s.wh == 5) = false := by rw [hk]; rfl
  have t10 : (s.wh == 10) = true := by rw [hk]; rfl
  clear hk
  have q0 := fun w' => mayName_any s.nm w'
  obtain ⟨i0, hi, hz0, hz1, hz2⟩ := info_parts info58
  go_enter Try.func141, Try.ntmps141
  go_wp2_with fail
  obtain ⟨w0, hw0⟩ : ∃ w0, w0 = ((w.alloc (.cells s.arr 58)).alloc (.cells SV.zero.arr 58)).alloc (.cells ({ SV.zero with nm := s.nm, wh := s.wh } : SV).arr 58) := ⟨_, rfl⟩
  have hw0' : ((w.alloc (.cells s.arr 58)).alloc (.cells #[.int .u8 0, .string ⟨#[]⟩, .string ⟨#[]⟩, .int .u8 0, .int .u8 0, .int .u8 0, .int .i64 0, .string ⟨#[]⟩, .slice Option.none 0 0, .int .u8 0, .int .i64 0, .string ⟨#[]⟩, .slice Option.none 0 0, .slice Option.none 0 0, .slice Option.none 0 0, .slice Option.none 0 0, .slice Option.none 0 0] 58)).alloc (.cells #[.int .u8 0, .string s.nm, .string ⟨#[]⟩, .int .u8 0, .int .u8 s.wh, .int .u8 0, .int .i64 0, .string ⟨#[]⟩, .slice Option.none 0 0, .int .u8 0, .int .i64 0, .string ⟨#[]⟩, .slice Option.none 0 0, .slice Option.none 0 0, .slice Option.none 0 0, .slice Option.none 0 0, .slice Option.none 0 0] 58) = w0 := hw0.symm
  rw [hw0']
  have hS : BlkN w0 w.heap.size 58 s.arr := by rw [hw0]; exact ((BlkN.at_ rfl _ _).alloc _).alloc _
  have hR0 : BlkN w0 (w.heap.size + 1) 58 SV.zero.arr := by rw [hw0]; exact (BlkN.at_ (by simp) _ _).alloc _
  have hM0 : BlkN w0 (w.heap.size + 1 + 1) 58 ({ SV.zero with nm := s.nm, wh := s.wh } : SV).arr := by rw [hw0]; exact BlkN.at_ (by simp) _ _
  have hB0 : Below w.heap.size w w0 := by rw [hw0]; exact (((Below.refl _ _).alloc (Nat.le_refl _) _).alloc (by simp) _).alloc (by simp; omega) _
  clear hw0 hw0'
  refine (q0 _).mono ?_
  rintro e w1 ⟨rfl, hb1⟩
  have hS1 := hS.below hb1
  have hR1 := hR0.below hb1
  have hM1 := hM0.below hb1
  have hB1 := hB0.trans (hb1.mono hB0.size)
  have c4 := hS1.cell 4 s.at4
  have c2 := hS1.cell 2 s.at2
  have m2 := hM1.cell 2 (SV.at2 _)
  have f2 := hM1.free 2
  have hlt := hM1.lt
  have HS1 := Lib.hid hS1
  have HR1 := Lib.hid hR1
  have HM1 := Lib.hid hM1
  clear hS hR0 hM0 hS1 hR1 hM1 hb1 q0
  cases hm0 : mayN s.nm
  · have HM0 := Lib.hid hm0
    go_wp2_with fail
    obtain ⟨w2, hw2⟩ : ∃ w2, w2 = (w1.setCell ⟨w.heap.size + 1 + 1, 2, Option.none⟩ (.string s.sec)) := ⟨_, rfl⟩
    have hM2 : BlkN w2 (w.heap.size + 1 + 1) 58 ({ SV.zero with nm := s.nm, wh := s.wh, sec := s.sec } : SV).arr := by rw [hw2]; exact (HM1.out.set 2 (.string s.sec))
    have hS2 : BlkN w2 w.heap.size 58 s.arr := by rw [hw2]; exact (HS1.out.setOther (by simp; omega) _)
    have hR2 : BlkN w2 (w.heap.size + 1) 58 SV.zero.arr := by rw [hw2]; exact (HR1.out.setOther (by simp) _)
    have hB2 : Below w.heap.size w w2 := by rw [hw2]; exact (hB1.setCell (by simp; omega) _)
    try rw [← hw2]
    clear hw2 c4 c2 m2 f2
    have hRl : w.heap.size + 1 < w2.heap.size := hR2.lt
    have c1 := fun p : RegQ.Reb 17 => RegQ.cell_reb (U := 58) hRl (hS2.cell 1 s.at1) (Nat.ne_of_lt (Nat.lt_succ_self _)) p
    have c2 := fun p : RegQ.Reb 17 => RegQ.cell_reb (U := 58) hRl (hS2.cell 2 s.at2) (Nat.ne_of_lt (Nat.lt_succ_self _)) p
    clear hm0
    refine RegQ.region2 (fun w' => ∃ p : RegQ.Reb 17, w' = RegQ.rebW w2 (w.heap.size + 1) 58 p) (fun j => j != 15) [1, 2, 3, 4, 5, 6, 7, 8, 9, 10, 11, 12, 13, 0] [1, 2, 3, 4, 5, 6, 7, 0] [14, 15] [_, _, _, _, _, _, _, _, _, _, _, _, _, _] rfl rfl (by kernel_rfl) (by kernel_rfl) (by kernel_rfl) (by kernel_rfl) (by kernel_rfl) (by kernel_rfl) ((RegQ.inReb'_iff hRl).2 (RegQ.InReb.drew hR2 rfl)) ?_
    simp only [List.getElem_toArray, List.getElem_cons_zero, List.getElem_cons_succ]
    have HM2 := Lib.hid hM2
    clear hM2
    iterate 13 (quiet_step (fail))
    refine wpQuiet_load rfl 58 _ rfl ⟨w.heap.size + 1 + 1, 0, Option.none⟩ rfl (.agg ({ SV.zero with nm := s.nm, wh := s.wh, sec := s.sec } : SV).arr) (by rintro w' ⟨p, rfl⟩; exact run_loadVar_blk Try.underlying58 hi (blk_reb hRl HM2.out (by omega) p) (by rw [hz1]; rfl)) ?_
    refine wpQuiet_nil ?_
    rintro w3 ⟨pr, rfl⟩
    have hI := RegQ.rebW_in (U := 58) hRl pr
    obtain ⟨cur, hcn, hcur⟩ := hI.blk
    refine RegT.seqT_held rfl ?_
    refine wpList_store_blk rfl 58 (.tmp 2) (.tmp 89) rfl i0 hi (w.heap.size + 1) ({ SV.zero with nm := s.nm, wh := s.wh, sec := s.sec } : SV).arr rfl rfl 58 cur hcur (by rw [hz1]; rfl) (hcn.trans rfl) (SV.one _) ?_
    intro w4 hB4 hbut
    simp only [wpList, Exit.then]
    refine ⟨RegQ.reb_of hRl (hI.but hbut hB4 rfl), ?_⟩
    refine RegT.seqT_tail [15] [_] rfl rfl _ _ ?_
    go_wp2_with fail
    simp only [RegT.NP, Exit.then]
    go_wp2_with fail
    refine bodyPost_ret (results_cell2 (s := 2) (t := 3) (b := w.heap.size + 1) rfl Try.underlying58 hi rfl hB4 (by rw [hz1]; rfl) rfl) rfl ⟨?_, ?_⟩
    · rw [HM0.out]; rfl
    · exact hbut.below (Nat.le_succ _) (hB2.trans ((hI.to hRl).mono (Nat.le_succ _)))
  · have HM0 := Lib.hid hm0
    go_wp2_with fail
    obtain ⟨w2, hw2⟩ : ∃ w2, w2 = (w1.setCell ⟨w.heap.size + 1 + 1, 2, Option.none⟩ (.string s.sec)) := ⟨_, rfl⟩
    have hM2 : BlkN w2 (w.heap.size + 1 + 1) 58 ({ SV.zero with nm := s.nm, wh := s.wh, sec := s.sec } : SV).arr := by rw [hw2]; exact (HM1.out.set 2 (.string s.sec))
    have hS2 : BlkN w2 w.heap.size 58 s.arr := by rw [hw2]; exact (HS1.out.setOther (by simp; omega) _)
    have hR2 : BlkN w2 (w.heap.size + 1) 58 SV.zero.arr := by rw [hw2]; exact (HR1.out.setOther (by simp) _)
    have hB2 : Below w.heap.size w w2 := by rw [hw2]; exact (hB1.setCell (by simp; omega) _)
    try rw [← hw2]
    clear hw2 c4 c2 m2 f2
    have hRl : w.heap.size + 1 < w2.heap.size := hR2.lt
    have c1 := fun p : RegQ.Reb 17 => RegQ.cell_reb (U := 58) hRl (hS2.cell 1 s.at1) (Nat.ne_of_lt (Nat.lt_succ_self _)) p
    have c2 := fun p : RegQ.Reb 17 => RegQ.cell_reb (U := 58) hRl (hS2.cell 2 s.at2) (Nat.ne_of_lt (Nat.lt_succ_self _)) p
    have cQ0 := fun p : RegQ.Reb 17 => RegQ.calls_reb (U := 58) hRl (mayName_any s.sec (RegQ.rebW w2 (w.heap.size + 1) 58 p))
    clear hm0
    cases hm1 : mayN s.sec
    · have HM1 := Lib.hid hm1
      rw [hm1] at cQ0
      clear hm1
      refine RegQ.region2 (fun w' => ∃ p : RegQ.Reb 17, w' = RegQ.rebW w2 (w.heap.size + 1) 58 p) (fun j => j != 15) [1, 2, 3, 4, 5, 6, 7, 8, 9, 10, 11, 12, 13, 0] [1, 2, 3, 4, 5, 6, 7, 0] [14, 15] [_, _, _, _, _, _, _, _, _, _, _, _, _, _] rfl rfl (by kernel_rfl) (by kernel_rfl) (by kernel_rfl) (by kernel_rfl) (by kernel_rfl) (by kernel_rfl) ((RegQ.inReb'_iff hRl).2 (RegQ.InReb.drew hR2 rfl)) ?_
      simp only [List.getElem_toArray, List.getElem_cons_zero, List.getElem_cons_succ]
      have HM2 := Lib.hid hM2
      clear hM2
      iterate 13 (quiet_step (first | exact cQ0 _))
      refine wpQuiet_load rfl 58 _ rfl ⟨w.heap.size + 1 + 1, 0, Option.none⟩ rfl (.agg ({ SV.zero with nm := s.nm, wh := s.wh, sec := s.sec } : SV).arr) (by rintro w' ⟨p, rfl⟩; exact run_loadVar_blk Try.underlying58 hi (blk_reb hRl HM2.out (by omega) p) (by rw [hz1]; rfl)) ?_
      refine wpQuiet_nil ?_
      rintro w3 ⟨pr, rfl⟩
      have hI := RegQ.rebW_in (U := 58) hRl pr
      obtain ⟨cur, hcn, hcur⟩ := hI.blk
      refine RegT.seqT_held rfl ?_
      refine wpList_store_blk rfl 58 (.tmp 2) (.tmp 89) rfl i0 hi (w.heap.size + 1) ({ SV.zero with nm := s.nm, wh := s.wh, sec := s.sec } : SV).arr rfl rfl 58 cur hcur (by rw [hz1]; rfl) (hcn.trans rfl) (SV.one _) ?_
      intro w4 hB4 hbut
      simp only [wpList, Exit.then]
      refine ⟨RegQ.reb_of hRl (hI.but hbut hB4 rfl), ?_⟩
      refine RegT.seqT_tail [15] [_] rfl rfl _ _ ?_
      go_wp2_with fail
      simp only [RegT.NP, Exit.then]
      go_wp2_with fail
      refine bodyPost_ret (results_cell2 (s := 2) (t := 3) (b := w.heap.size + 1) rfl Try.underlying58 hi rfl hB4 (by rw [hz1]; rfl) rfl) rfl ⟨?_, ?_⟩
      · rw [HM0.out, HM1.out]; rfl
      · exact hbut.below (Nat.le_succ _) (hB2.trans ((hI.to hRl).mono (Nat.le_succ _)))
    · have HM1 := Lib.hid hm1
      rw [hm1] at cQ0
      clear hm1
      refine RegQ.region2 (fun w' => ∃ p : RegQ.Reb 17, w' = RegQ.rebW w2 (w.heap.size + 1) 58 p) (fun j => j != 15) [1, 2, 3, 4, 5, 6, 7, 8, 9, 10, 11, 12, 13, 0] [1, 2, 3, 4, 5, 6, 7, 0] [14, 15] [_, _, _, _, _, _, _, _, _, _, _, _, _, _] rfl rfl (by kernel_rfl) (by kernel_rfl) (by kernel_rfl) (by kernel_rfl) (by kernel_rfl) (by kernel_rfl) ((RegQ.inReb'_iff hRl).2 (RegQ.InReb.drew hR2 rfl)) ?_
      simp only [List.getElem_toArray, List.getElem_cons_zero, List.getElem_cons_succ]
      have HM2 := Lib.hid hM2
      clear hM2
      iterate 13 (quiet_step (first | exact cQ0 _))
      refine wpQuiet_load rfl 58 _ rfl ⟨w.heap.size + 1 + 1, 0, Option.none⟩ rfl (.agg ({ SV.zero with nm := s.nm, wh := s.wh, sec := s.sec } : SV).arr) (by rintro w' ⟨p, rfl⟩; exact run_loadVar_blk Try.underlying58 hi (blk_reb hRl HM2.out (by omega) p) (by rw [hz1]; rfl)) ?_
      refine wpQuiet_nil ?_
      rintro w3 ⟨pr, rfl⟩
      have hI := RegQ.rebW_in (U := 58) hRl pr
      obtain ⟨cur, hcn, hcur⟩ := hI.blk
      refine RegT.seqT_held rfl ?_
      refine wpList_store_blk rfl 58 (.tmp 2) (.tmp 89) rfl i0 hi (w.heap.size + 1) ({ SV.zero with nm := s.nm, wh := s.wh, sec := s.sec } : SV).arr rfl rfl 58 cur hcur (by rw [hz1]; rfl) (hcn.trans rfl) (SV.one _) ?_
      intro w4 hB4 hbut
      simp only [wpList, Exit.then]
      refine ⟨RegQ.reb_of hRl (hI.but hbut hB4 rfl), ?_⟩
      refine RegT.seqT_tail [15] [_] rfl rfl _ _ ?_
      go_wp2_with fail
      simp only [RegT.NP, Exit.then]
      go_wp2_with fail
      refine bodyPost_ret (results_cell2 (s := 2) (t := 3) (b := w.heap.size + 1) rfl Try.underlying58 hi rfl hB4 (by rw [hz1]; rfl) rfl) rfl ⟨?_, ?_⟩
      · rw [HM0.out, HM1.out]; rfl
      · exact hbut.below (Nat.le_succ _) (hB2.trans ((hI.to hRl).mono (Nat.le_succ _)))
end Go.Proofs.Ytnknefdpglnbnaa
