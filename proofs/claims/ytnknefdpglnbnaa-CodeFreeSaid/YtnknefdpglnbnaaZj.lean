/- lives: it answers true. -/
import Derived.Test.YtnknefdpglnbnaaZi
namespace Go.Proofs.Ytnknefdpglnbnaa
open Go.RowKit

attribute [local go_sem] SV.g0 SV.g1 SV.g2 SV.g3 SV.g4 SV.g5 SV.g6 SV.g7 SV.g8 SV.g9 SV.g10 SV.g11 SV.g12 SV.g13 SV.g14 SV.g15 SV.g16
theorem let_lit (s : ByteArray) (k n : Int) (t : ByteArray) (A : Option Addr) (len cap : Nat) (w : World) : Calls Try.prog 49 #[.string s, .agg #[.int .u8 k, .int .i64 n, .string t, .slice A len cap]] w fun e w' => e = .returned (.agg #[.int .u8 1, .string s, .string ⟨#[]⟩, .int .u8 0, .int .u8 0, .int .u8 k, .int .i64 n, .string t, .slice A len cap, .int .u8 0, .int .i64 0, .string ⟨#[]⟩, .slice Option.none 0 0, .slice Option.none 0 0, .slice Option.none 0 0, .slice Option.none 0 0, .slice Option.none 0 0]) ∧ Below w.heap.size w w' := let_any s k n t A len cap w
theorem mayN_a1 (w : World) : Calls Try.prog 38 #[.string ⟨#[97, 49]⟩] w fun e w' => e = .returned (.bool true) ∧ Below w.heap.size w w' := by
  have h := mayName_any ⟨#[97, 49]⟩ w
  rw [ev8] at h
  exact h
theorem mayN_1a (w : World) : Calls Try.prog 38 #[.string ⟨#[49, 97]⟩] w fun e w' => e = .returned (.bool false) ∧ Below w.heap.size w w' := by
  have h := mayName_any ⟨#[49, 97]⟩ w
  rw [ev9] at h
  exact h
set_option maxRecDepth 100000 in
set_option maxHeartbeats 20000000 in
theorem lives_any (w : World) : Calls Try.prog 17 #[] w fun e w' => e = .returned (.bool true) ∧ Below w.heap.size w w' := by
  obtain ⟨i0, hi, hz0, hz1, hz2⟩ := info_parts info58
  go_enter Try.func17, Try.ntmps17
  go_upto_region 2 with (go_at_call 47; (with_reducible refine (name_any _ _).mono ?_); rintro e w1 ⟨rfl, hb1⟩)
  obtain ⟨W1, hW1⟩ : ∃ W1, W1 = w1.alloc (.cells #[.int .u8 2, .string ⟨#[120]⟩, .string ⟨#[]⟩, .int .u8 1, .int .u8 0, .int .u8 4, .int .i64 0, .string ⟨#[121]⟩, .slice Option.none 0 0, .int .u8 0, .int .i64 0, .string ⟨#[]⟩, .slice Option.none 0 0, .slice Option.none 0 0, .slice Option.none 0 0, .slice Option.none 0 0, .slice Option.none 0 0] 58) := ⟨_, rfl⟩
  have hG1 : BlkN W1 w1.heap.size 58 svGet.arr := by rw [hW1]; exact BlkN.at_ rfl 58 svGet.arr
  have hB1 : Below w.heap.size w W1 := by rw [hW1]; exact hb1.alloc hb1.size _
  obtain ⟨g, hg⟩ : ∃ g, g = w1.heap.size := ⟨_, rfl⟩
  rw [← hW1, ← hg]
  rw [← hg] at hG1
  clear hW1 hg hb1
  go_upto_region 3 with (first | (go_at_call 47; (with_reducible refine (name_any _ _).mono ?_); rintro e w2 ⟨rfl, hb2⟩) | (go_at_call 50; (with_reducible refine (number_any _ _).mono ?_); rintro e w3 ⟨rfl, hb3⟩))
  have hb23 := hb2.trans (hb3.mono hb2.size)
  obtain ⟨W2, hW2⟩ : ∃ W2, W2 = w3.alloc (.cells #[.int .u8 2, .string ⟨#[120]⟩, .string ⟨#[]⟩, .int .u8 3, .int .u8 0, .int .u8 4, .int .i64 0, .string ⟨#[121]⟩, .slice Option.none 0 0, .int .u8 1, .int .i64 1, .string ⟨#[]⟩, .slice Option.none 0 0, .slice Option.none 0 0, .slice Option.none 0 0, .slice Option.none 0 0, .slice Option.none 0 0] 58) := ⟨_, rfl⟩
  have hT2 : BlkN W2 w3.heap.size 58 svTwo.arr := by rw [hW2]; exact BlkN.at_ rfl 58 svTwo.arr
  have hG2 : BlkN W2 g 58 svGet.arr := by rw [hW2]; exact (hG1.below hb23).alloc _
  have hB2 : Below w.heap.size w W2 := by rw [hW2]; exact (hB1.trans (hb23.mono hB1.size)).alloc (Nat.le_trans hB1.size hb23.size) _
  obtain ⟨t, ht⟩ : ∃ t, t = w3.heap.size := ⟨_, rfl⟩
  rw [← hW2, ← ht]
  rw [← ht] at hT2
  clear hW2 ht hb2 hb3 hb23 hB1 hG1
  go_upto_region 4 with (go_at_call 47; (with_reducible refine (name_any _ _).mono ?_); rintro e w4 ⟨rfl, hb4⟩)
  obtain ⟨c, hc⟩ : ∃ c, c = w4.heap.size := ⟨_, rfl⟩
  obtain ⟨W3, hW3⟩ : ∃ W3, W3 = (w4.alloc (.cells #[.int .u8 7, .string ⟨#[]⟩, .string ⟨#[]⟩, .int .u8 0, .int .u8 0, .int .u8 4, .int .i64 0, .string ⟨#[105, 116]⟩, .slice Option.none 0 0, .int .u8 0, .int .i64 0, .string ⟨#[]⟩, .slice Option.none 0 0, .slice Option.none 0 0, .slice Option.none 0 0, .slice Option.none 0 0, .slice Option.none 0 0] 58)).alloc (.cells #[.int .u8 3, .string ⟨#[122]⟩, .string ⟨#[]⟩, .int .u8 0, .int .u8 12, .int .u8 0, .int .i64 0, .string ⟨#[]⟩, .slice Option.none 0 0, .int .u8 0, .int .i64 0, .string ⟨#[]⟩, .slice Option.none 0 0, .slice Option.none 0 0, .slice Option.none 0 0, .slice (some ⟨w4.heap.size, 0, Option.none⟩) 1 1, .slice Option.none 0 0] 58) := ⟨_, rfl⟩
  have hk : (w4.alloc (.cells svRep.arr 58)).heap.size = w4.heap.size + 1 := by simp
  have hR3 : BlkN W3 w4.heap.size 58 svRep.arr := by rw [hW3]; exact (BlkN.at_ rfl 58 svRep.arr).alloc _
  have hC3 : BlkN W3 (w4.heap.size + 1) 58 (svClk w4.heap.size).arr := by rw [hW3]; exact BlkN.at_ hk.symm 58 (svClk w4.heap.size).arr
  have hT3 : BlkN W3 t 58 svTwo.arr := by rw [hW3]; exact ((hT2.below hb4).alloc _).alloc _
  have hG3 : BlkN W3 g 58 svGet.arr := by rw [hW3]; exact ((hG2.below hb4).alloc _).alloc _
  have hB3 : Below w.heap.size w W3 := by rw [hW3]; have h4 := hB2.trans (hb4.mono hB2.size); exact (h4.alloc h4.size _).alloc (by have := h4.size; simp; omega) _
  rw [← hW3, ← hc]
  rw [← hc] at hR3 hC3
  clear hW3 hc hk hb4 hB2 hT2 hG2
  go_upto_region 5 with (first | (refine wpList_load_blk rfl 58 (.tmp 1) rfl ⟨g, 0, Option.none⟩ rfl (.agg #[.int .u8 2, .string ⟨#[120]⟩, .string ⟨#[]⟩, .int .u8 1, .int .u8 0, .int .u8 4, .int .i64 0, .string ⟨#[121]⟩, .slice Option.none 0 0, .int .u8 0, .int .i64 0, .string ⟨#[]⟩, .slice Option.none 0 0, .slice Option.none 0 0, .slice Option.none 0 0, .slice Option.none 0 0, .slice Option.none 0 0]) (run_loadVar_blk Try.underlying58 hi hG3 (by rw [hz1]; rfl)) ?_) | (go_at_call 28; refine (check_get _ _ (BlkN.at_ rfl 58 svGet.arr)).mono ?_; rintro e w5 ⟨rfl, hb5⟩))
  have hR5 := (hR3.alloc _).below hb5
  have hC5 := (hC3.alloc _).below hb5
  have hT5 := (hT3.alloc _).below hb5
  have hG5 := (hG3.alloc _).below hb5
  have hB5 : Below w.heap.size w w5 := (hB3.alloc hB3.size _).trans (hb5.mono (by have := hB3.size; simp; omega))
  clear hb5 hR3 hC3 hT3 hG3 hB3
  go_upto_region 6 with (first | (refine wpList_load_blk rfl 58 (.tmp 1) rfl ⟨g, 0, Option.none⟩ rfl (.agg #[.int .u8 2, .string ⟨#[120]⟩, .string ⟨#[]⟩, .int .u8 1, .int .u8 0, .int .u8 4, .int .i64 0, .string ⟨#[121]⟩, .slice Option.none 0 0, .int .u8 0, .int .i64 0, .string ⟨#[]⟩, .slice Option.none 0 0, .slice Option.none 0 0, .slice Option.none 0 0, .slice Option.none 0 0, .slice Option.none 0 0]) (run_loadVar_blk Try.underlying58 hi hG5 (by rw [hz1]; rfl)) ?_) | (refine wpList_load_blk rfl 58 (.tmp 2) rfl ⟨t, 0, Option.none⟩ rfl (.agg #[.int .u8 2, .string ⟨#[120]⟩, .string ⟨#[]⟩, .int .u8 3, .int .u8 0, .int .u8 4, .int .i64 0, .string ⟨#[121]⟩, .slice Option.none 0 0, .int .u8 1, .int .i64 1, .string ⟨#[]⟩, .slice Option.none 0 0, .slice Option.none 0 0, .slice Option.none 0 0, .slice Option.none 0 0, .slice Option.none 0 0]) (run_loadVar_blk Try.underlying58 hi hT5 (by rw [hz1]; rfl)) ?_) | (go_at_call 28; refine (check_two _ _ (BlkN.at_ rfl 58 (svGet.arr ++ svTwo.arr))).mono ?_; rintro e w6 ⟨rfl, hb6⟩))
  have hR6 := (hR5.alloc _).below hb6
  have hC6 := (hC5.alloc _).below hb6
  have hG6 := (hG5.alloc _).below hb6
  have hB6 : Below w.heap.size w w6 := (hB5.alloc hB5.size _).trans (hb6.mono (by have := hB5.size; simp; omega))
  clear hb6 hR5 hC5 hT5 hG5 hB5
  go_upto_region 7 with (first | (go_at_call 47; (with_reducible refine (name_any ⟨#[120]⟩ _).mono ?_); rintro e w7 ⟨rfl, hb7⟩) | (go_at_call 47; (with_reducible refine (name_any ⟨#[121]⟩ _).mono ?_); rintro e w8 ⟨rfl, hb8⟩) | (go_at_call 50; (fail_if_success (have := hb9)); (with_reducible refine (number_any _ _).mono ?_); rintro e w9 ⟨rfl, hb9⟩) | (go_at_call 49; (with_reducible refine (let_lit ⟨#[97]⟩ _ _ _ _ _ _ _).mono ?_); rintro e w10 ⟨rfl, hb10⟩) | (go_at_call 50; (with_reducible refine (number_any _ _).mono ?_); rintro e w11 ⟨rfl, hb11⟩) | (go_at_call 49; (with_reducible refine (let_lit ⟨#[66]⟩ _ _ _ _ _ _ _).mono ?_); rintro e w12 ⟨rfl, hb12⟩; have hTa : BlkN w12 w10.heap.size 58 (svLet ⟨#[97]⟩).arr := ((BlkN.at_ rfl 58 (svLet ⟨#[97]⟩).arr).below hb11).below hb12; have hBx : Below w.heap.size w w10 := hB6.trans ((hb7.trans ((hb8.trans ((hb9.trans (hb10.mono hb9.size)).mono hb8.size)).mono hb7.size)).mono hB6.size); have hBy : Below w.heap.size w w12 := (hBx.alloc hBx.size _).trans ((hb11.trans (hb12.mono hb11.size)).mono (by have := hBx.size; simp; omega)); have hU : Below w6.heap.size w6 w12 := ((hb7.trans ((hb8.trans ((hb9.trans (hb10.mono hb9.size)).mono hb8.size)).mono hb7.size)).alloc ((hb7.trans ((hb8.trans ((hb9.trans (hb10.mono hb9.size)).mono hb8.size)).mono hb7.size)).size) _).trans ((hb11.trans (hb12.mono hb11.size)).mono (by have := (hb7.trans ((hb8.trans ((hb9.trans (hb10.mono hb9.size)).mono hb8.size)).mono hb7.size)).size; simp; omega)); have hR12 := hR6.below hU; have hC12 := hC6.below hU; have hG12 := hG6.below hU; clear hb7 hb8 hb9 hb10 hb11 hb12 hBx hU) | (go_at_call 28; refine (check_same _ _ w10.heap.size w12.heap.size (BlkN.at_ (by simp) 58 (svSame w10.heap.size w12.heap.size).arr) ((hTa.alloc _).alloc _) ((BlkN.at_ rfl 58 (svLet ⟨#[66]⟩).arr).alloc _)).mono ?_; rintro e w13 ⟨rfl, hb13⟩))
  have hR13 := ((hR12.alloc _).alloc _).below hb13
  have hC13 := ((hC12.alloc _).alloc _).below hb13
  have hG13 := ((hG12.alloc _).alloc _).below hb13
  have hB13 : Below w.heap.size w w13 := ((hBy.alloc hBy.size _).alloc (by have := hBy.size; simp; omega) _).trans (hb13.mono (by have := hBy.size; simp; omega))
  clear hb13 hTa hBy hR12 hC12 hG12 hR6 hC6 hG6 hB6
  go_upto_region 8 with (first | (refine wpList_load_blk rfl 58 (.tmp 1) rfl ⟨g, 0, Option.none⟩ rfl (.agg #[.int .u8 2, .string ⟨#[120]⟩, .string ⟨#[]⟩, .int .u8 1, .int .u8 0, .int .u8 4, .int .i64 0, .string ⟨#[121]⟩, .slice Option.none 0 0, .int .u8 0, .int .i64 0, .string ⟨#[]⟩, .slice Option.none 0 0, .slice Option.none 0 0, .slice Option.none 0 0, .slice Option.none 0 0, .slice Option.none 0 0]) (run_loadVar_blk Try.underlying58 hi hG13 (by rw [hz1]; rfl)) ?_) | (refine wpList_load_blk rfl 58 (.tmp 3) rfl ⟨c + 1, 0, Option.none⟩ rfl (.agg #[.int .u8 3, .string ⟨#[122]⟩, .string ⟨#[]⟩, .int .u8 0, .int .u8 12, .int .u8 0, .int .i64 0, .string ⟨#[]⟩, .slice Option.none 0 0, .int .u8 0, .int .i64 0, .string ⟨#[]⟩, .slice Option.none 0 0, .slice Option.none 0 0, .slice Option.none 0 0, .slice (some ⟨c, 0, Option.none⟩) 1 1, .slice Option.none 0 0]) (run_loadVar_blk Try.underlying58 hi hC13 (by rw [hz1]; rfl)) ?_) | (go_at_call 35; refine (uses_clk _ _ c (BlkN.at_ rfl 58 (svGet.arr ++ (svClk c).arr)) (hR13.alloc _)).mono ?_; rintro e w14 ⟨rfl, hb14⟩))
  obtain ⟨W14, hW14⟩ : ∃ W14, W14 = w14.alloc (.cells #[.int .u8 1, .bool true, .bool true] 51) := ⟨_, rfl⟩
  have hU14 : BlkN W14 w14.heap.size 51 #[.int .u8 1, .bool true, .bool true] := by rw [hW14]; exact BlkN.at_ rfl _ _
  have hB14 : Below w.heap.size w W14 := by rw [hW14]; have h4 : Below w.heap.size w w14 := (hB13.alloc hB13.size _).trans (hb14.mono (by have := hB13.size; simp; omega)); exact h4.alloc h4.size _
  rw [← hW14]
  obtain ⟨u, hu⟩ : ∃ u, u = w14.heap.size := ⟨_, rfl⟩
  rw [← hu]
  rw [← hu] at hU14
  clear hW14 hu hb14 hR13 hC13 hG13 hB13
  go_upto_region 9 with (first | (go_at_call 47; (with_reducible refine (name_any _ _).mono ?_); rintro e w15 ⟨rfl, hb15⟩) | (go_at_call 50; (with_reducible refine (number_any _ _).mono ?_); rintro e w16 ⟨rfl, hb16⟩; have hNm := ((BlkN.at_ (w := W14) rfl 73 #[.string ⟨#[120]⟩, .int .u8 1, .int .i64 7, .string ⟨#[]⟩, .slice Option.none 0 0, .int .i64 0]).below hb15).below hb16; have hU16 := ((hU14.alloc _).below hb15).below hb16; have hB16 : Below w.heap.size w w16 := (hB14.alloc hB14.size _).trans ((hb15.trans (hb16.mono hb15.size)).mono (by have := hB14.size; simp; omega)); clear hb15 hb16) | (go_at_call 19; refine (work_lives _ _ _ (hNm.alloc _) (BlkN.at_ rfl _ _)).mono ?_; rintro e w17 ⟨d, o, cap, hcap, rfl, hd7, hb17⟩))
  have hU17 := (hU16.alloc _).below hb17
  have hB17 : Below w.heap.size w w17 := (hB16.alloc hB16.size _).trans (hb17.mono (by have := hB16.size; simp; omega))
  obtain ⟨W18, hW18⟩ : ∃ W18, W18 = w17.alloc (.cells #[.int .u8 3, .int .i64 0, .string ⟨#[]⟩, .slice (some ⟨d, o, Option.none⟩) 2 cap, .int .i64 0] 34) := ⟨_, rfl⟩
  have hV18 : BlkN W18 w17.heap.size 34 #[.int .u8 3, .int .i64 0, .string ⟨#[]⟩, .slice (some ⟨d, o, Option.none⟩) 2 cap, .int .i64 0] := by rw [hW18]; exact BlkN.at_ rfl _ _
  have hU18 : BlkN W18 u 51 #[.int .u8 1, .bool true, .bool true] := by rw [hW18]; exact hU17.alloc _
  have hB18 : Below w.heap.size w W18 := by rw [hW18]; exact hB17.alloc hB17.size _
  have hd18 : W18.cell? ⟨d, o + 1, Option.none⟩ = some (.int .i64 7) := by
    rw [hW18]
    have hdl := block_lt_of_cell hd7
    exact (World.cell?_of_block (w := w17) (Below.heap_alloc _ _ _ hdl)).trans hd7
  rw [← hW18]
  obtain ⟨vb, hvb⟩ : ∃ vb, vb = w17.heap.size := ⟨_, rfl⟩
  rw [← hvb]
  rw [← hvb] at hV18
  have u0 : W18.cell? ⟨u, 0, Option.none⟩ = some (.int .u8 1) := hU18.cell 0 rfl
  have u1 : W18.cell? ⟨u, 1, Option.none⟩ = some (.bool true) := hU18.cell 1 rfl
  have u2 : W18.cell? ⟨u, 2, Option.none⟩ = some (.bool true) := hU18.cell 2 rfl
  have v3 : W18.cell? ⟨vb, 3, Option.none⟩ = some (.slice (some ⟨d, o, Option.none⟩) 2 cap) := hV18.cell 3 rfl
  clear hW18 hvb hb17 hU17 hB17 hU16 hB16 hNm hU14 hB14 hV18 hU18 hd7
  go_wp2_with (first | (go_at_call 38; (with_reducible refine (mayN_a1 _).mono ?_); rintro e w19 ⟨rfl, hb19⟩) | (go_at_call 38; (with_reducible refine (mayN_1a _).mono ?_); rintro e w20 ⟨rfl, hb20⟩))
  go_ret
  exact ⟨rfl, hB18.trans ((hb19.trans (hb20.mono hb19.size)).mono hB18.size)⟩
end Go.Proofs.Ytnknefdpglnbnaa
