/- bare: the kinds 15, 16, 14, left. -/
import Derived.Test.YthafojadcodkoaaTv
namespace Go.Proofs.Ythafojadcodkoaa
open Go.RowKit
section
attribute [local irreducible] RegT.seqT RegT.seqM wpList
set_option maxRecDepth 100000 in
set_option maxHeartbeats 4000000 in
theorem bare_k15 (w : World) (s : WV) (q1 : ((s.k : Int) == 1) = false) (q2 : ((s.k : Int) == 2) = false) (q4 : ((s.k : Int) == 4) = false) (q3 : ((s.k : Int) == 3) = false) (q6 : ((s.k : Int) == 6) = false) (q11 : ((s.k : Int) == 11) = false) (q7 : ((s.k : Int) == 7) = false) (q8 : ((s.k : Int) == 8) = false) (q9 : ((s.k : Int) == 9) = false) (q10 : ((s.k : Int) == 10) = false) (q12 : ((s.k : Int) == 12) = false) (q13 : ((s.k : Int) == 13) = false) (q15 : ((s.k : Int) == 15) = true) :
    Calls Try.prog 33 #[.agg #[.int .u8 s.k, .int .i64 s.home, .int .u8 s.v0, .int .i64 s.v1, .string s.v2, .slice s.vA s.vl s.vc, .int .i64 s.v4, .slice s.sA s.sl s.sc, .int .i64 s.n, .int .i64 s.lost, .int .i64 s.of_, .int .i64 s.by_, .int .u8 s.set, .bool s.full, .slice s.cA s.cl s.cc, .slice s.nA s.nl s.nc]] w fun e w' => Below w.heap.size w w' ∧ ∃ v, e = .returned v ∧ IsCells v := by
  obtain ⟨i53, hi53, hz530, hz53, hz532⟩ := info_parts info53
  obtain ⟨i1, hi1, hz10, hz1, hz12⟩ := info_parts infoB25
  obtain ⟨i2, hi2, hz20, hz2, hz22⟩ := info_parts infoB25
  have HI53 := Lib.hid hi53
  have HI1 := Lib.hid hi1
  have HI2 := Lib.hid hi2
  obtain ⟨W, hW⟩ : ∃ W, W = ((w.alloc (.cells #[.int .u8 s.k, .int .i64 s.home, .int .u8 s.v0, .int .i64 s.v1, .string s.v2, .slice s.vA s.vl s.vc, .int .i64 s.v4, .slice s.sA s.sl s.sc, .int .i64 s.n, .int .i64 s.lost, .int .i64 s.of_, .int .i64 s.by_, .int .u8 s.set, .bool s.full, .slice s.cA s.cl s.cc, .slice s.nA s.nl s.nc] 53)).alloc (.cells #[.int .u8 0, .int .i64 0, .int .u8 0, .int .i64 0, .string ⟨#[]⟩, .slice Option.none 0 0, .int .i64 0, .slice Option.none 0 0, .int .i64 0, .int .i64 0, .int .i64 0, .int .i64 0, .int .u8 0, .bool false, .slice Option.none 0 0, .slice Option.none 0 0] 53)).alloc (.cells #[.int .u8 s.k, .int .i64 s.home, .int .u8 0, .int .i64 0, .string ⟨#[]⟩, .slice Option.none 0 0, .int .i64 0, .slice Option.none 0 0, .int .i64 0, .int .i64 0, .int .i64 0, .int .i64 0, .int .u8 0, .bool false, .slice Option.none 0 0, .slice Option.none 0 0] 53) := ⟨_, rfl⟩
  have HB : Hid (Below w.heap.size w W) := Lib.hid (by rw [hW]; repeat (first | exact Below.refl _ _ | assumption | apply Below.al | apply Below.dr))
  have HQ : Hid (BlkN W w.heap.size 53 s.arr) := Lib.hid (by rw [hW]; exact ((BlkN.at_ rfl _ _).alloc _).alloc _)
  have HR : Hid (BlkN W (w.heap.size + 1) 53 #[.int .u8 0, .int .i64 0, .int .u8 0, .int .i64 0, .string ⟨#[]⟩, .slice Option.none 0 0, .int .i64 0, .slice Option.none 0 0, .int .i64 0, .int .i64 0, .int .i64 0, .int .i64 0, .int .u8 0, .bool false, .slice Option.none 0 0, .slice Option.none 0 0]) := Lib.hid (by rw [hW]; exact (BlkN.at_ (by simp) _ _).alloc _)
  have HT : Hid (BlkN W (w.heap.size + 1 + 1) 53 #[.int .u8 s.k, .int .i64 s.home, .int .u8 0, .int .i64 0, .string ⟨#[]⟩, .slice Option.none 0 0, .int .i64 0, .slice Option.none 0 0, .int .i64 0, .int .i64 0, .int .i64 0, .int .i64 0, .int .u8 0, .bool false, .slice Option.none 0 0, .slice Option.none 0 0]) := Lib.hid (by rw [hW]; exact BlkN.at_ (by simp) _ _)
  clear hi53 hi1 hi2
  go_enter Try.func33, Try.ntmps33
  go_upto_region 27 with fail
  rw [← hW]
  clear hW
  refine RegT.region_mix (fun i => Nat.ble i 5) (fun W => BlkN W w.heap.size 53 s.arr) [(true, 0), (true, 1), (true, 2), (true, 3), (true, 4), (false, 5), (false, 6), (false, 7)] rfl (by kernel_rfl) (by kernel_rfl) (by decide) ?_
  have hS0 : BlkN W.drew w.heap.size 53 s.arr := HQ.out
  refine RegT.seqM_quiet hS0 rfl (fun _ _ _ h => h) (by kernel_rfl) (v := .pointer (some ⟨w.heap.size, 10, Option.none⟩)) (fun w' hS => ?_) ?_
  · go_simp
  refine RegT.seqM_quiet hS0 rfl (fun _ _ _ h => h) (by kernel_rfl) (v := .int .i64 s.of_) (fun w' hS => ?_) ?_
  · have hS : BlkN w' w.heap.size 53 s.arr := hS; have g10 := hS.cell 10 s.at10; go_simp
  refine RegT.seqM_quiet hS0 rfl (fun _ _ _ h => h) (by kernel_rfl) (v := .pointer (some ⟨w.heap.size, 11, Option.none⟩)) (fun w' hS => ?_) ?_
  · go_simp
  refine RegT.seqM_quiet hS0 rfl (fun _ _ _ h => h) (by kernel_rfl) (v := .int .i64 s.by_) (fun w' hS => ?_) ?_
  · have hS : BlkN w' w.heap.size 53 s.arr := hS; have g11 := hS.cell 11 s.at11; go_simp
  refine RegT.seqM_quiet hS0 rfl (fun _ _ _ h => h) (by kernel_rfl) (v := .pointer (some ⟨w.heap.size + 1 + 1, 10, Option.none⟩)) (fun w' hS => ?_) ?_
  · go_simp
  refine RegT.seqM_held rfl ?_
  refine wpList_store_part rfl 25 (.tmp 88) (.tmp 85) rfl i1 HI1.out (w.heap.size + 1 + 1) 10 (.int .i64 s.of_) [.int .i64 s.of_] rfl rfl rfl 53 #[.int .u8 s.k, .int .i64 s.home, .int .u8 0, .int .i64 0, .string ⟨#[]⟩, .slice Option.none 0 0, .int .i64 0, .slice Option.none 0 0, .int .i64 0, .int .i64 0, .int .i64 0, .int .i64 0, .int .u8 0, .bool false, .slice Option.none 0 0, .slice Option.none 0 0] #[.int .u8 s.k, .int .i64 s.home, .int .u8 0, .int .i64 0, .string ⟨#[]⟩, .slice Option.none 0 0, .int .i64 0, .slice Option.none 0 0, .int .i64 0, .int .i64 0, .int .i64 s.of_, .int .i64 0, .int .u8 0, .bool false, .slice Option.none 0 0, .slice Option.none 0 0] HT.out (by rw [hz1]; rfl) (show _ ≤ 16 by simp) (by intro u hu; simp only [List.mem_cons, List.not_mem_nil, or_false] at hu; rcases hu with rfl <;> rfl) rfl ?_
  intro w1 hB1 hbut1
  refine RegT.wpList_end ⟨(hbut1.other _ (by omega)).trans hS0, RegT.seqM_free rfl rfl ?_⟩
  go_wp2_with fail
  refine RegT.seqM_free rfl rfl ?_
  refine wpList_store_part rfl 25 (.tmp 89) (.tmp 87) rfl i2 HI2.out (w.heap.size + 1 + 1) 11 (.int .i64 s.by_) [.int .i64 s.by_] rfl rfl rfl 53 _ #[.int .u8 s.k, .int .i64 s.home, .int .u8 0, .int .i64 0, .string ⟨#[]⟩, .slice Option.none 0 0, .int .i64 0, .slice Option.none 0 0, .int .i64 0, .int .i64 0, .int .i64 s.of_, .int .i64 s.by_, .int .u8 0, .bool false, .slice Option.none 0 0, .slice Option.none 0 0] hB1 (by rw [hz2]; rfl) (show _ ≤ 16 by simp) (by intro u hu; simp only [List.mem_cons, List.not_mem_nil, or_false] at hu; rcases hu with rfl <;> rfl) rfl ?_
  intro w2 hB2 hbut2
  refine RegT.wpList_end (RegT.seqM_end ?_)
  simp only [RegT.NP]
  have HB2 := Lib.hid hB2
  have HR2 : Hid (BlkN w2 (w.heap.size + 1) 53 #[.int .u8 0, .int .i64 0, .int .u8 0, .int .i64 0, .string ⟨#[]⟩, .slice Option.none 0 0, .int .i64 0, .slice Option.none 0 0, .int .i64 0, .int .i64 0, .int .i64 0, .int .i64 0, .int .u8 0, .bool false, .slice Option.none 0 0, .slice Option.none 0 0]) := Lib.hid ((hbut2.other _ (by omega)).trans ((hbut1.other _ (by omega)).trans HR.out))
  have HU2 : Hid (Below w.heap.size w w2) := Lib.hid (hbut2.below (by omega) (hbut1.below (by omega) HB.out.drew))
  clear hB1 hB2 hbut1 hbut2 hS0
  go_upto_region 30 with fail
  refine wp_region_lit ?_
  refine wpList_load_blk rfl 53 (.tmp 3) rfl ⟨w.heap.size + 1 + 1, 0, Option.none⟩ rfl (.agg #[.int .u8 s.k, .int .i64 s.home, .int .u8 0, .int .i64 0, .string ⟨#[]⟩, .slice Option.none 0 0, .int .i64 0, .slice Option.none 0 0, .int .i64 0, .int .i64 0, .int .i64 s.of_, .int .i64 s.by_, .int .u8 0, .bool false, .slice Option.none 0 0, .slice Option.none 0 0]) (run_loadVar_blk Try.underlying53 HI53.out HB2.out (by rw [hz53]; rfl)) ?_
  refine wpList_store_blk rfl 53 (.tmp 2) (.tmp 99) rfl i53 HI53.out (w.heap.size + 1) #[.int .u8 s.k, .int .i64 s.home, .int .u8 0, .int .i64 0, .string ⟨#[]⟩, .slice Option.none 0 0, .int .i64 0, .slice Option.none 0 0, .int .i64 0, .int .i64 0, .int .i64 s.of_, .int .i64 s.by_, .int .u8 0, .bool false, .slice Option.none 0 0, .slice Option.none 0 0] rfl rfl 53 _ HR2.out (by rw [hz53]; rfl) rfl (by intro u hu; simp only [List.mem_cons, List.not_mem_nil, or_false] at hu; rcases hu with rfl | rfl | rfl | rfl | rfl | rfl | rfl | rfl | rfl | rfl | rfl | rfl | rfl | rfl | rfl | rfl <;> rfl) ?_
  intro w3 hB3 hbut3
  go_wp2_with fail
  exact bodyPost_ret (results_cell1 (s := 2) (b := w.heap.size + 1) rfl Try.underlying53 HI53.out rfl hB3 (by rw [hz53]; rfl)) rfl ⟨hbut3.below (by omega) HU2.out, _, rfl, _, _, _, _, _, _, _, _, _, _, _, _, _, _, _, _, _, _, _, _, _, _, _, _, rfl⟩
set_option maxRecDepth 100000 in
set_option maxHeartbeats 4000000 in
theorem bare_k16 (w : World) (s : WV) (q1 : ((s.k : Int) == 1) = false) (q2 : ((s.k : Int) == 2) = false) (q4 : ((s.k : Int) == 4) = false) (q3 : ((s.k : Int) == 3) = false) (q6 : ((s.k : Int) == 6) = false) (q11 : ((s.k : Int) == 11) = false) (q7 : ((s.k : Int) == 7) = false) (q8 : ((s.k : Int) == 8) = false) (q9 : ((s.k : Int) == 9) = false) (q10 : ((s.k : Int) == 10) = false) (q12 : ((s.k : Int) == 12) = false) (q13 : ((s.k : Int) == 13) = false) (q15 : ((s.k : Int) == 15) = false) (q16 : ((s.k : Int) == 16) = true) :
    Calls Try.prog 33 #[.agg #[.int .u8 s.k, .int .i64 s.home, .int .u8 s.v0, .int .i64 s.v1, .string s.v2, .slice s.vA s.vl s.vc, .int .i64 s.v4, .slice s.sA s.sl s.sc, .int .i64 s.n, .int .i64 s.lost, .int .i64 s.of_, .int .i64 s.by_, .int .u8 s.set, .bool s.full, .slice s.cA s.cl s.cc, .slice s.nA s.nl s.nc]] w fun e w' => Below w.heap.size w w' ∧ ∃ v, e = .returned v ∧ IsCells v := by
  obtain ⟨i53, hi53, hz530, hz53, hz532⟩ := info_parts info53
  obtain ⟨i1, hi1, hz10, hz1, hz12⟩ := info_parts infoB25
  obtain ⟨i2, hi2, hz20, hz2, hz22⟩ := info_parts infoB25
  have HI53 := Lib.hid hi53
  have HI1 := Lib.hid hi1
  have HI2 := Lib.hid hi2
  obtain ⟨W, hW⟩ : ∃ W, W = ((w.alloc (.cells #[.int .u8 s.k, .int .i64 s.home, .int .u8 s.v0, .int .i64 s.v1, .string s.v2, .slice s.vA s.vl s.vc, .int .i64 s.v4, .slice s.sA s.sl s.sc, .int .i64 s.n, .int .i64 s.lost, .int .i64 s.of_, .int .i64 s.by_, .int .u8 s.set, .bool s.full, .slice s.cA s.cl s.cc, .slice s.nA s.nl s.nc] 53)).alloc (.cells #[.int .u8 0, .int .i64 0, .int .u8 0, .int .i64 0, .string ⟨#[]⟩, .slice Option.none 0 0, .int .i64 0, .slice Option.none 0 0, .int .i64 0, .int .i64 0, .int .i64 0, .int .i64 0, .int .u8 0, .bool false, .slice Option.none 0 0, .slice Option.none 0 0] 53)).alloc (.cells #[.int .u8 s.k, .int .i64 s.home, .int .u8 0, .int .i64 0, .string ⟨#[]⟩, .slice Option.none 0 0, .int .i64 0, .slice Option.none 0 0, .int .i64 0, .int .i64 0, .int .i64 0, .int .i64 0, .int .u8 0, .bool false, .slice Option.none 0 0, .slice Option.none 0 0] 53) := ⟨_, rfl⟩
  have HB : Hid (Below w.heap.size w W) := Lib.hid (by rw [hW]; repeat (first | exact Below.refl _ _ | assumption | apply Below.al | apply Below.dr))
  have HQ : Hid (BlkN W w.heap.size 53 s.arr) := Lib.hid (by rw [hW]; exact ((BlkN.at_ rfl _ _).alloc _).alloc _)
  have HR : Hid (BlkN W (w.heap.size + 1) 53 #[.int .u8 0, .int .i64 0, .int .u8 0, .int .i64 0, .string ⟨#[]⟩, .slice Option.none 0 0, .int .i64 0, .slice Option.none 0 0, .int .i64 0, .int .i64 0, .int .i64 0, .int .i64 0, .int .u8 0, .bool false, .slice Option.none 0 0, .slice Option.none 0 0]) := Lib.hid (by rw [hW]; exact (BlkN.at_ (by simp) _ _).alloc _)
  have HT : Hid (BlkN W (w.heap.size + 1 + 1) 53 #[.int .u8 s.k, .int .i64 s.home, .int .u8 0, .int .i64 0, .string ⟨#[]⟩, .slice Option.none 0 0, .int .i64 0, .slice Option.none 0 0, .int .i64 0, .int .i64 0, .int .i64 0, .int .i64 0, .int .u8 0, .bool false, .slice Option.none 0 0, .slice Option.none 0 0]) := Lib.hid (by rw [hW]; exact BlkN.at_ (by simp) _ _)
  clear hi53 hi1 hi2
  go_enter Try.func33, Try.ntmps33
  go_upto_region 27 with fail
  rw [← hW]
  clear hW
  refine RegT.region_mix (fun i => Nat.ble i 5) (fun W => BlkN W w.heap.size 53 s.arr) [(true, 0), (true, 1), (true, 2), (true, 3), (true, 4), (false, 5), (false, 6), (false, 7)] rfl (by kernel_rfl) (by kernel_rfl) (by decide) ?_
  have hS0 : BlkN W.drew w.heap.size 53 s.arr := HQ.out
  refine RegT.seqM_quiet hS0 rfl (fun _ _ _ h => h) (by kernel_rfl) (v := .pointer (some ⟨w.heap.size, 10, Option.none⟩)) (fun w' hS => ?_) ?_
  · go_simp
  refine RegT.seqM_quiet hS0 rfl (fun _ _ _ h => h) (by kernel_rfl) (v := .int .i64 s.of_) (fun w' hS => ?_) ?_
  · have hS : BlkN w' w.heap.size 53 s.arr := hS; have g10 := hS.cell 10 s.at10; go_simp
  refine RegT.seqM_quiet hS0 rfl (fun _ _ _ h => h) (by kernel_rfl) (v := .pointer (some ⟨w.heap.size, 11, Option.none⟩)) (fun w' hS => ?_) ?_
  · go_simp
  refine RegT.seqM_quiet hS0 rfl (fun _ _ _ h => h) (by kernel_rfl) (v := .int .i64 s.by_) (fun w' hS => ?_) ?_
  · have hS : BlkN w' w.heap.size 53 s.arr := hS; have g11 := hS.cell 11 s.at11; go_simp
  refine RegT.seqM_quiet hS0 rfl (fun _ _ _ h => h) (by kernel_rfl) (v := .pointer (some ⟨w.heap.size + 1 + 1, 10, Option.none⟩)) (fun w' hS => ?_) ?_
  · go_simp
  refine RegT.seqM_held rfl ?_
  refine wpList_store_part rfl 25 (.tmp 88) (.tmp 85) rfl i1 HI1.out (w.heap.size + 1 + 1) 10 (.int .i64 s.of_) [.int .i64 s.of_] rfl rfl rfl 53 #[.int .u8 s.k, .int .i64 s.home, .int .u8 0, .int .i64 0, .string ⟨#[]⟩, .slice Option.none 0 0, .int .i64 0, .slice Option.none 0 0, .int .i64 0, .int .i64 0, .int .i64 0, .int .i64 0, .int .u8 0, .bool false, .slice Option.none 0 0, .slice Option.none 0 0] #[.int .u8 s.k, .int .i64 s.home, .int .u8 0, .int .i64 0, .string ⟨#[]⟩, .slice Option.none 0 0, .int .i64 0, .slice Option.none 0 0, .int .i64 0, .int .i64 0, .int .i64 s.of_, .int .i64 0, .int .u8 0, .bool false, .slice Option.none 0 0, .slice Option.none 0 0] HT.out (by rw [hz1]; rfl) (show _ ≤ 16 by simp) (by intro u hu; simp only [List.mem_cons, List.not_mem_nil, or_false] at hu; rcases hu with rfl <;> rfl) rfl ?_
  intro w1 hB1 hbut1
  refine RegT.wpList_end ⟨(hbut1.other _ (by omega)).trans hS0, RegT.seqM_free rfl rfl ?_⟩
  go_wp2_with fail
  refine RegT.seqM_free rfl rfl ?_
  refine wpList_store_part rfl 25 (.tmp 89) (.tmp 87) rfl i2 HI2.out (w.heap.size + 1 + 1) 11 (.int .i64 s.by_) [.int .i64 s.by_] rfl rfl rfl 53 _ #[.int .u8 s.k, .int .i64 s.home, .int .u8 0, .int .i64 0, .string ⟨#[]⟩, .slice Option.none 0 0, .int .i64 0, .slice Option.none 0 0, .int .i64 0, .int .i64 0, .int .i64 s.of_, .int .i64 s.by_, .int .u8 0, .bool false, .slice Option.none 0 0, .slice Option.none 0 0] hB1 (by rw [hz2]; rfl) (show _ ≤ 16 by simp) (by intro u hu; simp only [List.mem_cons, List.not_mem_nil, or_false] at hu; rcases hu with rfl <;> rfl) rfl ?_
  intro w2 hB2 hbut2
  refine RegT.wpList_end (RegT.seqM_end ?_)
  simp only [RegT.NP]
  have HB2 := Lib.hid hB2
  have HR2 : Hid (BlkN w2 (w.heap.size + 1) 53 #[.int .u8 0, .int .i64 0, .int .u8 0, .int .i64 0, .string ⟨#[]⟩, .slice Option.none 0 0, .int .i64 0, .slice Option.none 0 0, .int .i64 0, .int .i64 0, .int .i64 0, .int .i64 0, .int .u8 0, .bool false, .slice Option.none 0 0, .slice Option.none 0 0]) := Lib.hid ((hbut2.other _ (by omega)).trans ((hbut1.other _ (by omega)).trans HR.out))
  have HU2 : Hid (Below w.heap.size w w2) := Lib.hid (hbut2.below (by omega) (hbut1.below (by omega) HB.out.drew))
  clear hB1 hB2 hbut1 hbut2 hS0
  go_upto_region 30 with fail
  refine wp_region_lit ?_
  refine wpList_load_blk rfl 53 (.tmp 3) rfl ⟨w.heap.size + 1 + 1, 0, Option.none⟩ rfl (.agg #[.int .u8 s.k, .int .i64 s.home, .int .u8 0, .int .i64 0, .string ⟨#[]⟩, .slice Option.none 0 0, .int .i64 0, .slice Option.none 0 0, .int .i64 0, .int .i64 0, .int .i64 s.of_, .int .i64 s.by_, .int .u8 0, .bool false, .slice Option.none 0 0, .slice Option.none 0 0]) (run_loadVar_blk Try.underlying53 HI53.out HB2.out (by rw [hz53]; rfl)) ?_
  refine wpList_store_blk rfl 53 (.tmp 2) (.tmp 99) rfl i53 HI53.out (w.heap.size + 1) #[.int .u8 s.k, .int .i64 s.home, .int .u8 0, .int .i64 0, .string ⟨#[]⟩, .slice Option.none 0 0, .int .i64 0, .slice Option.none 0 0, .int .i64 0, .int .i64 0, .int .i64 s.of_, .int .i64 s.by_, .int .u8 0, .bool false, .slice Option.none 0 0, .slice Option.none 0 0] rfl rfl 53 _ HR2.out (by rw [hz53]; rfl) rfl (by intro u hu; simp only [List.mem_cons, List.not_mem_nil, or_false] at hu; rcases hu with rfl | rfl | rfl | rfl | rfl | rfl | rfl | rfl | rfl | rfl | rfl | rfl | rfl | rfl | rfl | rfl <;> rfl) ?_
  intro w3 hB3 hbut3
  go_wp2_with fail
  exact bodyPost_ret (results_cell1 (s := 2) (b := w.heap.size + 1) rfl Try.underlying53 HI53.out rfl hB3 (by rw [hz53]; rfl)) rfl ⟨hbut3.below (by omega) HU2.out, _, rfl, _, _, _, _, _, _, _, _, _, _, _, _, _, _, _, _, _, _, _, _, _, _, _, _, rfl⟩
set_option maxRecDepth 100000 in
set_option maxHeartbeats 4000000 in
theorem bare_k14 (w : World) (s : WV) (q1 : ((s.k : Int) == 1) = false) (q2 : ((s.k : Int) == 2) = false) (q4 : ((s.k : Int) == 4) = false) (q3 : ((s.k : Int) == 3) = false) (q6 : ((s.k : Int) == 6) = false) (q11 : ((s.k : Int) == 11) = false) (q7 : ((s.k : Int) == 7) = false) (q8 : ((s.k : Int) == 8) = false) (q9 : ((s.k : Int) == 9) = false) (q10 : ((s.k : Int) == 10) = false) (q12 : ((s.k : Int) == 12) = false) (q13 : ((s.k : Int) == 13) = false) (q15 : ((s.k : Int) == 15) = false) (q16 : ((s.k : Int) == 16) = false) (q14 : ((s.k : Int) == 14) = true) :
    Calls Try.prog 33 #[.agg #[.int .u8 s.k, .int .i64 s.home, .int .u8 s.v0, .int .i64 s.v1, .string s.v2, .slice s.vA s.vl s.vc, .int .i64 s.v4, .slice s.sA s.sl s.sc, .int .i64 s.n, .int .i64 s.lost, .int .i64 s.of_, .int .i64 s.by_, .int .u8 s.set, .bool s.full, .slice s.cA s.cl s.cc, .slice s.nA s.nl s.nc]] w fun e w' => Below w.heap.size w w' ∧ ∃ v, e = .returned v ∧ IsCells v := by
  go_enter Try.func33, Try.ntmps33
  go_wp2_with fail
  refine bodyPost_ret (by simp [results, Try.f33]; go_simp; rfl) rfl ?_
  refine ⟨?_, _, rfl, _, _, _, _, _, _, _, _, _, _, _, _, _, _, _, _, _, _, _, _, _, _, _, _, rfl⟩; repeat (first | exact Below.refl _ _ | assumption | apply Below.al | apply Below.dr)
set_option maxRecDepth 100000 in
set_option maxHeartbeats 4000000 in
theorem bare_k0 (w : World) (s : WV) (q1 : ((s.k : Int) == 1) = false) (q2 : ((s.k : Int) == 2) = false) (q4 : ((s.k : Int) == 4) = false) (q3 : ((s.k : Int) == 3) = false) (q6 : ((s.k : Int) == 6) = false) (q11 : ((s.k : Int) == 11) = false) (q7 : ((s.k : Int) == 7) = false) (q8 : ((s.k : Int) == 8) = false) (q9 : ((s.k : Int) == 9) = false) (q10 : ((s.k : Int) == 10) = false) (q12 : ((s.k : Int) == 12) = false) (q13 : ((s.k : Int) == 13) = false) (q15 : ((s.k : Int) == 15) = false) (q16 : ((s.k : Int) == 16) = false) (q14 : ((s.k : Int) == 14) = false) :
    Calls Try.prog 33 #[.agg #[.int .u8 s.k, .int .i64 s.home, .int .u8 s.v0, .int .i64 s.v1, .string s.v2, .slice s.vA s.vl s.vc, .int .i64 s.v4, .slice s.sA s.sl s.sc, .int .i64 s.n, .int .i64 s.lost, .int .i64 s.of_, .int .i64 s.by_, .int .u8 s.set, .bool s.full, .slice s.cA s.cl s.cc, .slice s.nA s.nl s.nc]] w fun e w' => Below w.heap.size w w' ∧ ∃ v, e = .returned v ∧ IsCells v := by
  go_enter Try.func33, Try.ntmps33
  go_wp2_with fail
  refine bodyPost_ret (by simp [results, Try.f33]; go_simp; rfl) rfl ?_
  refine ⟨?_, _, rfl, _, _, _, _, _, _, _, _, _, _, _, _, _, _, _, _, _, _, _, _, _, _, _, _, rfl⟩; repeat (first | exact Below.refl _ _ | assumption | apply Below.al | apply Below.dr)
end
end Go.Proofs.Ythafojadcodkoaa
