/- makes: What [2, 3, 4, 8]. -/
import Derived.Test.YtnknefdpglnbnaaY
import Derived.Deep.Cut
namespace Go.Proofs.Ytnknefdpglnbnaa
open Go.RowKit

attribute [local go_sem] SV.g0 SV.g1 SV.g2 SV.g3 SV.g4 SV.g5 SV.g6 SV.g7 SV.g8 SV.g9 SV.g10 SV.g11 SV.g12 SV.g13 SV.g14 SV.g15 SV.g16
attribute [local irreducible] wpQuiet RegT.seqT wpList
set_option maxRecDepth 100000 in
set_option maxHeartbeats 4000000 in
theorem makesW2_any (s : SV) (w : World) (hk : s.wh = 2) : Calls Try.prog 141 #[.agg s.arr] w fun e w' =>
    e = .returned (.tuple #[.agg ({ SV.zero with nm := s.nm, wh := s.wh } : SV).arr, .bool (mayN s.nm)]) ∧ Below w.heap.size w w' := by
  have h17 := s.size
  have t1 : (s.wh == 1) = false := by rw [hk]; rfl
  have t2 : (s.wh == 2) = true := by rw [hk]; rfl
  clear hk
  have q0 := fun w' => mayName_any s.nm w'
  obtain ⟨i0, hi, hz0, hz1, hz2⟩ := info_parts info58
  go_enter Try.func141, Try.ntmps141
  go_wp2_with fail
  obtain ⟨w0, hw0⟩ : ∃ w0, w0 = ((w.alloc (.cells s.arr 58)).alloc (.cells SV.zero.arr 58)).alloc (.cells ({ SV.zero with nm := s.nm, wh := s.wh } : SV).arr 58) := ⟨_, rfl⟩
  have hw0' : ((w.alloc (.cells s.arr 58)).alloc (.cells #[.int .u8 0, .string ⟨#[]⟩, .string ⟨#[]⟩, .int .u8 0, .int .u8 0, .int .u8 0, .int .i64 0, .string ⟨#[]⟩, .slice Option.none 0 0, .int .u8 0, .int .i64 0, .string ⟨#[]⟩, .slice Option.none 0 0, .slice Option.none 0 0, .slice Option.none 0 0, .slice Option.none 0 0, .slice Option.none 0 0] 58)).alloc (.cells #[.int .u8 0, .string s.nm, .string ⟨#[]⟩, .int .u8 0, .int .u8 s.wh, .int .u8 0, .int .i64 0, .string ⟨#[]⟩, .slice Option.none 0 0, .int .u8 0, .int .i64 0, .string ⟨#[]⟩, .slice Option.none 0 0, .slice Option.none 0 0, .slice Option.none 0 0, .slice Option.none 0 0, .slice Option.none 0 0] 58) = w0 := hw0.symm
  rw [hw0']
  have hS : BlkN w0 w.heap.size 58 s.arr := by rw [hw0]; exact ((BlkN.at_ rfl _ _).alloc _).alloc _
  have hR0 : BlkN w0 (w.heap.size + 1) 58 SV.zero.arr := by rw [hw0]; exact (BlkN.at_ (by simp) _ _).alloc _
  have hM0 : BlkN w0 (w.heap.size + 1 + 1) 58 ({ SV.zero with nm := s.nm, wh := s.wh } : SV).arr := by rw [hw0]; exact BlkN.at_ (by simp) _ _
  have hB0 : Below w.heap.size w w0 := by rw [hw0]; exact (((Below.refl _ _).alloc (Nat.le_refl _) _).alloc (by simp) _).alloc (by simp; omega) _
  clear hw0 hw0'
  refine (q0 _).mono ?_
  rintro e w1 ⟨rfl, hb1⟩
  have hS1 := hS.below hb1
  have hR1 := hR0.below hb1
  have hM1 := hM0.below hb1
  have hB1 := hB0.trans (hb1.mono hB0.size)
  have c4 := hS1.cell 4 s.at4
  have hlt := hM1.lt
  have HR1 := Lib.hid hR1
  have HM1 := Lib.hid hM1
  clear hS hR0 hM0 hS1 hR1 hM1 hb1 q0
  go_upto_region 11 with (fail)
  refine wp_region_lit ?_
  refine wpList_load_blk rfl 58 (.tmp 4) rfl ⟨w.heap.size + 1 + 1, 0, Option.none⟩ rfl (.agg ({ SV.zero with nm := s.nm, wh := s.wh } : SV).arr) (run_loadVar_blk Try.underlying58 hi HM1.out (by rw [hz1]; rfl)) ?_
  refine wpList_move rfl (.tmp 5) rfl ?_
  refine wpList_store_blk rfl 58 (.tmp 2) (.tmp 33) rfl i0 hi (w.heap.size + 1) ({ SV.zero with nm := s.nm, wh := s.wh } : SV).arr rfl rfl 58 _ HR1.out (by rw [hz1]; rfl) rfl (SV.one _) ?_
  intro w4 hB4 hbut
  go_wp2_with fail
  exact bodyPost_ret (results_cell2 (s := 2) (t := 3) (b := w.heap.size + 1) rfl Try.underlying58 hi rfl hB4 (by rw [hz1]; rfl) rfl) rfl ⟨rfl, hbut.below (Nat.le_succ _) hB1⟩
set_option maxRecDepth 100000 in
set_option maxHeartbeats 4000000 in
theorem makesW3_any (s : SV) (w : World) (hk : s.wh = 3) : Calls Try.prog 141 #[.agg s.arr] w fun e w' =>
    e = .returned (.tuple #[.agg ({ SV.zero with nm := s.nm, wh := s.wh } : SV).arr, .bool (mayN s.nm)]) ∧ Below w.heap.size w w' := by
  have h17 := s.size
  have t1 : (s.wh == 1) = false := by rw [hk]; rfl
  have t2 : (s.wh == 2) = false := by rw [hk]; rfl
  have t3 : (s.wh == 3) = true := by rw [hk]; rfl
  clear hk
  have q0 := fun w' => mayName_any s.nm w'
  obtain ⟨i0, hi, hz0, hz1, hz2⟩ := info_parts info58
  go_enter Try.func141, Try.ntmps141
  go_wp2_with fail
  obtain ⟨w0, hw0⟩ : ∃ w0, w0 = ((w.alloc (.cells s.arr 58)).alloc (.cells SV.zero.arr 58)).alloc (.cells ({ SV.zero with nm := s.nm, wh := s.wh } : SV).arr 58) := ⟨_, rfl⟩
  have hw0' : ((w.alloc (.cells s.arr 58)).alloc (.cells #[.int .u8 0, .string ⟨#[]⟩, .string ⟨#[]⟩, .int .u8 0, .int .u8 0, .int .u8 0, .int .i64 0, .string ⟨#[]⟩, .slice Option.none 0 0, .int .u8 0, .int .i64 0, .string ⟨#[]⟩, .slice Option.none 0 0, .slice Option.none 0 0, .slice Option.none 0 0, .slice Option.none 0 0, .slice Option.none 0 0] 58)).alloc (.cells #[.int .u8 0, .string s.nm, .string ⟨#[]⟩, .int .u8 0, .int .u8 s.wh, .int .u8 0, .int .i64 0, .string ⟨#[]⟩, .slice Option.none 0 0, .int .u8 0, .int .i64 0, .string ⟨#[]⟩, .slice Option.none 0 0, .slice Option.none 0 0, .slice Option.none 0 0, .slice Option.none 0 0, .slice Option.none 0 0] 58) = w0 := hw0.symm
  rw [hw0']
  have hS : BlkN w0 w.heap.size 58 s.arr := by rw [hw0]; exact ((BlkN.at_ rfl _ _).alloc _).alloc _
  have hR0 : BlkN w0 (w.heap.size + 1) 58 SV.zero.arr := by rw [hw0]; exact (BlkN.at_ (by simp) _ _).alloc _
  have hM0 : BlkN w0 (w.heap.size + 1 + 1) 58 ({ SV.zero with nm := s.nm, wh := s.wh } : SV).arr := by rw [hw0]; exact BlkN.at_ (by simp) _ _
  have hB0 : Below w.heap.size w w0 := by rw [hw0]; exact (((Below.refl _ _).alloc (Nat.le_refl _) _).alloc (by simp) _).alloc (by simp; omega) _
  clear hw0 hw0'
  refine (q0 _).mono ?_
  rintro e w1 ⟨rfl, hb1⟩
  have hS1 := hS.below hb1
  have hR1 := hR0.below hb1
  have hM1 := hM0.below hb1
  have hB1 := hB0.trans (hb1.mono hB0.size)
  have c4 := hS1.cell 4 s.at4
  have hlt := hM1.lt
  have HR1 := Lib.hid hR1
  have HM1 := Lib.hid hM1
  clear hS hR0 hM0 hS1 hR1 hM1 hb1 q0
  go_upto_region 11 with (fail)
  refine wp_region_lit ?_
  refine wpList_load_blk rfl 58 (.tmp 4) rfl ⟨w.heap.size + 1 + 1, 0, Option.none⟩ rfl (.agg ({ SV.zero with nm := s.nm, wh := s.wh } : SV).arr) (run_loadVar_blk Try.underlying58 hi HM1.out (by rw [hz1]; rfl)) ?_
  refine wpList_move rfl (.tmp 5) rfl ?_
  refine wpList_store_blk rfl 58 (.tmp 2) (.tmp 33) rfl i0 hi (w.heap.size + 1) ({ SV.zero with nm := s.nm, wh := s.wh } : SV).arr rfl rfl 58 _ HR1.out (by rw [hz1]; rfl) rfl (SV.one _) ?_
  intro w4 hB4 hbut
  go_wp2_with fail
  exact bodyPost_ret (results_cell2 (s := 2) (t := 3) (b := w.heap.size + 1) rfl Try.underlying58 hi rfl hB4 (by rw [hz1]; rfl) rfl) rfl ⟨rfl, hbut.below (Nat.le_succ _) hB1⟩
set_option maxRecDepth 100000 in
set_option maxHeartbeats 4000000 in
theorem makesW4_any (s : SV) (w : World) (hk : s.wh = 4) : Calls Try.prog 141 #[.agg s.arr] w fun e w' =>
    e = .returned (.tuple #[.agg ({ SV.zero with nm := s.nm, wh := s.wh } : SV).arr, .bool (mayN s.nm)]) ∧ Below w.heap.size w w' := by
  have h17 := s.size
  have t1 : (s.wh == 1) = false := by rw [hk]; rfl
  have t2 : (s.wh == 2) = false := by rw [hk]; rfl
  have t3 : (s.wh == 3) = false := by rw [hk]; rfl
  have t4 : (s.wh == 4) = true := by rw [hk]; rfl
  clear hk
  have q0 := fun w' => mayName_any s.nm w'
  obtain ⟨i0, hi, hz0, hz1, hz2⟩ := info_parts info58
  go_enter Try.func141, Try.ntmps141
  go_wp2_with fail
  obtain ⟨w0, hw0⟩ : ∃ w0, w0 = ((w.alloc (.cells s.arr 58)).alloc (.cells SV.zero.arr 58)).alloc (.cells ({ SV.zero with nm := s.nm, wh := s.wh } : SV).arr 58) := ⟨_, rfl⟩
  have hw0' : ((w.alloc (.cells s.arr 58)).alloc (.cells #[.int .u8 0, .string ⟨#[]⟩, .string ⟨#[]⟩, .int .u8 0, .int .u8 0, .int .u8 0, .int .i64 0, .string ⟨#[]⟩, .slice Option.none 0 0, .int .u8 0, .int .i64 0, .string ⟨#[]⟩, .slice Option.none 0 0, .slice Option.none 0 0, .slice Option.none 0 0, .slice Option.none 0 0, .slice Option.none 0 0] 58)).alloc (.cells #[.int .u8 0, .string s.nm, .string ⟨#[]⟩, .int .u8 0, .int .u8 s.wh, .int .u8 0, .int .i64 0, .string ⟨#[]⟩, .slice Option.none 0 0, .int .u8 0, .int .i64 0, .string ⟨#[]⟩, .slice Option.none 0 0, .slice Option.none 0 0, .slice Option.none 0 0, .slice Option.none 0 0, .slice Option.none 0 0] 58) = w0 := hw0.symm
  rw [hw0']
  have hS : BlkN w0 w.heap.size 58 s.arr := by rw [hw0]; exact ((BlkN.at_ rfl _ _).alloc _).alloc _
  have hR0 : BlkN w0 (w.heap.size + 1) 58 SV.zero.arr := by rw [hw0]; exact (BlkN.at_ (by simp) _ _).alloc _
  have hM0 : BlkN w0 (w.heap.size + 1 + 1) 58 ({ SV.zero with nm := s.nm, wh := s.wh } : SV).arr := by rw [hw0]; exact BlkN.at_ (by simp) _ _
  have hB0 : Below w.heap.size w w0 := by rw [hw0]; exact (((Below.refl _ _).alloc (Nat.le_refl _) _).alloc (by simp) _).alloc (by simp; omega) _
  clear hw0 hw0'
  refine (q0 _).mono ?_
  rintro e w1 ⟨rfl, hb1⟩
  have hS1 := hS.below hb1
  have hR1 := hR0.below hb1
  have hM1 := hM0.below hb1
  have hB1 := hB0.trans (hb1.mono hB0.size)
  have c4 := hS1.cell 4 s.at4
  have hlt := hM1.lt
  have HR1 := Lib.hid hR1
  have HM1 := Lib.hid hM1
  clear hS hR0 hM0 hS1 hR1 hM1 hb1 q0
  go_upto_region 11 with (fail)
  refine wp_region_lit ?_
  refine wpList_load_blk rfl 58 (.tmp 4) rfl ⟨w.heap.size + 1 + 1, 0, Option.none⟩ rfl (.agg ({ SV.zero with nm := s.nm, wh := s.wh } : SV).arr) (run_loadVar_blk Try.underlying58 hi HM1.out (by rw [hz1]; rfl)) ?_
  refine wpList_move rfl (.tmp 5) rfl ?_
  refine wpList_store_blk rfl 58 (.tmp 2) (.tmp 33) rfl i0 hi (w.heap.size + 1) ({ SV.zero with nm := s.nm, wh := s.wh } : SV).arr rfl rfl 58 _ HR1.out (by rw [hz1]; rfl) rfl (SV.one _) ?_
  intro w4 hB4 hbut
  go_wp2_with fail
  exact bodyPost_ret (results_cell2 (s := 2) (t := 3) (b := w.heap.size + 1) rfl Try.underlying58 hi rfl hB4 (by rw [hz1]; rfl) rfl) rfl ⟨rfl, hbut.below (Nat.le_succ _) hB1⟩
set_option maxRecDepth 100000 in
set_option maxHeartbeats 4000000 in
theorem makesW8_any (s : SV) (w : World) (hk : s.wh = 8) : Calls Try.prog 141 #[.agg s.arr] w fun e w' =>
    e = .returned (.tuple #[.agg ({ SV.zero with nm := s.nm, wh := s.wh } : SV).arr, .bool (mayN s.nm)]) ∧ Below w.heap.size w w' := by
  have h17 := s.size
  have t1 : (s.wh == 1) = false := by rw [hk]; rfl
  have t2 : (s.wh == 2) = false := by rw [hk]; rfl
  have t3 : (s.wh == 3) = false := by rw [hk]; rfl
  have t4 : (s.wh == 4) = false := by rw [hk]; rfl
  have t8 : (s.wh == 8) = true := by rw [hk]; rfl
  clear hk
  have q0 := fun w' => mayName_any s.nm w'
  obtain ⟨i0, hi, hz0, hz1, hz2⟩ := info_parts info58
  go_enter Try.func141, Try.ntmps141
  go_wp2_with fail
  obtain ⟨w0, hw0⟩ : ∃ w0, w0 = ((w.alloc (.cells s.arr 58)).alloc (.cells SV.zero.arr 58)).alloc (.cells ({ SV.zero with nm := s.nm, wh := s.wh } : SV).arr 58) := ⟨_, rfl⟩
  have hw0' : ((w.alloc (.cells s.arr 58)).alloc (.cells #[.int .u8 0, .string ⟨#[]⟩, .string ⟨#[]⟩, .int .u8 0, .int .u8 0, .int .u8 0, .int .i64 0, .string ⟨#[]⟩, .slice Option.none 0 0, .int .u8 0, .int .i64 0, .string ⟨#[]⟩, .slice Option.none 0 0, .slice Option.none 0 0, .slice Option.none 0 0, .slice Option.none 0 0, .slice Option.none 0 0] 58)).alloc (.cells #[.int .u8 0, .string s.nm, .string ⟨#[]⟩, .int .u8 0, .int .u8 s.wh, .int .u8 0, .int .i64 0, .string ⟨#[]⟩, .slice Option.none 0 0, .int .u8 0, .int .i64 0, .string ⟨#[]⟩, .slice Option.none 0 0, .slice Option.none 0 0, .slice Option.none 0 0, .slice Option.none 0 0, .slice Option.none 0 0] 58) = w0 := hw0.symm
  rw [hw0']
  have hS : BlkN w0 w.heap.size 58 s.arr := by rw [hw0]; exact ((BlkN.at_ rfl _ _).alloc _).alloc _
  have hR0 : BlkN w0 (w.heap.size + 1) 58 SV.zero.arr := by rw [hw0]; exact (BlkN.at_ (by simp) _ _).alloc _
  have hM0 : BlkN w0 (w.heap.size + 1 + 1) 58 ({ SV.zero with nm := s.nm, wh := s.wh } : SV).arr := by rw [hw0]; exact BlkN.at_ (by simp) _ _
  have hB0 : Below w.heap.size w w0 := by rw [hw0]; exact (((Below.refl _ _).alloc (Nat.le_refl _) _).alloc (by simp) _).alloc (by simp; omega) _
  clear hw0 hw0'
  refine (q0 _).mono ?_
  rintro e w1 ⟨rfl, hb1⟩
  have hS1 := hS.below hb1
  have hR1 := hR0.below hb1
  have hM1 := hM0.below hb1
  have hB1 := hB0.trans (hb1.mono hB0.size)
  have c4 := hS1.cell 4 s.at4
  have hlt := hM1.lt
  have HR1 := Lib.hid hR1
  have HM1 := Lib.hid hM1
  clear hS hR0 hM0 hS1 hR1 hM1 hb1 q0
  go_upto_region 11 with (fail)
  refine wp_region_lit ?_
  refine wpList_load_blk rfl 58 (.tmp 4) rfl ⟨w.heap.size + 1 + 1, 0, Option.none⟩ rfl (.agg ({ SV.zero with nm := s.nm, wh := s.wh } : SV).arr) (run_loadVar_blk Try.underlying58 hi HM1.out (by rw [hz1]; rfl)) ?_
  refine wpList_move rfl (.tmp 5) rfl ?_
  refine wpList_store_blk rfl 58 (.tmp 2) (.tmp 33) rfl i0 hi (w.heap.size + 1) ({ SV.zero with nm := s.nm, wh := s.wh } : SV).arr rfl rfl 58 _ HR1.out (by rw [hz1]; rfl) rfl (SV.one _) ?_
  intro w4 hB4 hbut
  go_wp2_with fail
  exact bodyPost_ret (results_cell2 (s := 2) (t := 3) (b := w.heap.size + 1) rfl Try.underlying58 hi rfl hB4 (by rw [hz1]; rfl) rfl) rfl ⟨rfl, hbut.below (Nat.le_succ _) hB1⟩
end Go.Proofs.Ytnknefdpglnbnaa
