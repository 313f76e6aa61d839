/- may: a statement whose form is found, its fields held against those of the form's answer. -/
import Derived.Test.YtnknefdpglnbnaaY
import Derived.Test.YtnknefdpglnbnaaZa
import Derived.Deep.Cut
namespace Go.Proofs.Ytnknefdpglnbnaa
open Go.RowKit

attribute [local go_sem] SV.g0 SV.g1 SV.g2 SV.g3 SV.g4 SV.g5 SV.g6 SV.g7 SV.g8 SV.g9 SV.g10 SV.g11 SV.g12 SV.g13 SV.g14 SV.g15 SV.g16
attribute [local irreducible] wpQuiet RegT.seqT RegT.seqM wpList
/-- What is held against what, behind the form's answer. -/
def sameF (s b : SV) (xa xb ya yb : Ex) : Bool :=
  s.nm.toList == b.nm.toList && (s.sec.toList == b.sec.toList && (s.ab == b.ab && (s.wh == b.wh && ((noneX ya == noneX xa) && ((noneX yb == noneX xb) && (decide (b.tl = s.tl) && (decide (b.el = s.el) && (decide (b.cl = s.cl) && decide (b.wl = s.wl)))))))))
set_option maxRecDepth 100000 in
set_option maxHeartbeats 2000000 in
theorem may_hit (s b : SV) (xa xb ya yb : Ex) (ok : Bool) (i g : Nat) (w : World) (B : Nat) (hB : B ≤ w.heap.size) (ha : IsEx w B s.a xa) (hb : IsEx w B s.b xb) (hya : IsEx w B b.a ya) (hyb : IsEx w B b.b yb)
    (hf : Instr.findNow (.int .u8) (.int .u8 s.op) tbl.toList 0 = some (some (i, FN g)))
    (hcf : ∀ w', (callFunc g #[.agg s.arr]).run Try.prog w' = .ok (.enter g #[.agg s.arr]) w')
    (hg : ∀ w', Below w.heap.size w w' → Calls Try.prog g #[.agg s.arr] w' fun e w'' => e = .returned (.tuple #[.agg b.arr, .bool ok]) ∧ Below w'.heap.size w' w'') :
    Calls Try.prog 76 #[.agg s.arr] w fun e w' => e = .returned (.bool (ok && sameF s b xa xb ya yb)) ∧ Below w.heap.size w w' := by
  have h17 := s.size
  have hb17 := b.size
  have Ha := Lib.hid ha
  have Hb := Lib.hid hb
  have Hya := Lib.hid hya
  have Hyb := Lib.hid hyb
  have HG := Lib.hid hg
  have HF := Lib.hid hf
  clear ha hb hya hyb hg hf
  obtain ⟨i0, hi, hz0, hz1, hz2⟩ := info_parts info58
  go_enter Try.func76, Try.ntmps76
  go_wp2_with fail
  obtain ⟨w0, hw0⟩ : ∃ w0, w0 = w.alloc (.cells s.arr 58) := ⟨_, rfl⟩
  rw [← hw0]
  have hS : BlkN w0 w.heap.size 58 s.arr := by rw [hw0]; exact BlkN.at_ rfl _ _
  have hB0 : Below w.heap.size w w0 := by rw [hw0]; exact (Below.refl _ _).alloc (Nat.le_refl _) _
  clear hw0
  have c0 := hS.cell 0 s.at0
  have HS := Lib.hid hS
  have hlt := hS.lt
  clear hS
  refine RegT.region_mix (fun _ => true) (fun W => W.cell? ⟨w.heap.size, 0, Option.none⟩ = some (.int .u8 s.op)) [(true, 1), (true, 2), (false, 0), (false, 3), (false, 4), (true, 5), (true, 6), (false, 7), (false, 8)] rfl (by kernel_rfl) (by kernel_rfl) (by decide) ?_
  refine RegT.seqM_quiet c0 rfl (fun _ _ _ h => h) (by rfl) (v := .pointer (some ⟨w.heap.size, 0, Option.none⟩)) (fun w' hS => ?_) ?_
  · go_simp
  refine RegT.seqM_quiet c0 rfl (fun _ _ _ h => h) (by rfl) (v := .int .u8 s.op) (fun w' hS => ?_) ?_
  · go_simp
  refine RegT.seqM_held rfl ?_
  go_wp2_with (go_at_call 117; refine (formsT_any _).mono ?_; rintro e w' ⟨rfl, rfl⟩)
  have hb2 : Below w0.heap.size w0 (w0.alloc (.map tbl 9)).drew := ((Below.refl _ _).alloc (Nat.le_refl _) _).drew
  have hS2 := HS.out.below hb2
  have c02 := hS2.cell 0 s.at0
  have hlk := run_lookup_hit (P := Try.prog) (t := 134) (k := .int .u8 s.op) (v := .func (.func g) #[] #[]) (es := tbl) (n := 9) (i := i) (r := w0.heap.size) (w := (w0.alloc (.map tbl 9)).drew) Try.underlying134 Try.underlying54 (by simp [Go.MapKept.IsKey]) (Array.getElem?_push_size) HF.out
  obtain ⟨w2, hw2⟩ : ∃ w2, w2 = (w0.alloc (.map tbl 9)).drew := ⟨_, rfl⟩
  rw [← hw2] at hb2 hS2 hlk c02 ⊢
  have hB2 := hB0.trans (hb2.mono hB0.size)
  have HS2 := Lib.hid hS2
  have hlt2 := hS2.lt
  clear hw2 hS2 hb2 c0 HS hlt
  refine ⟨c02, RegT.seqM_held rfl ?_⟩
  go_wp2_with fail
  refine ⟨c02, RegT.seqM_held rfl ?_⟩
  go_wp2_with fail
  refine ⟨c02, RegT.seqM_quiet c02 rfl (fun _ _ _ h => h) (by rfl) (v := .func (.func g) #[] #[]) (fun w' hS => ?_) ?_⟩
  · go_simp
  refine RegT.seqM_quiet c02 rfl (fun _ _ _ h => h) (by rfl) (v := .bool true) (fun w' hS => ?_) ?_
  · go_simp
  refine RegT.seqM_held rfl ?_
  go_wp2_with fail
  refine ⟨c02, RegT.seqM_held rfl ?_⟩
  go_wp2_with fail
  refine ⟨c02, RegT.seqM_end ?_⟩
  simp only [RegT.NP, Exit.then]
  go_upto_region 4 with (fail)
  refine wp_region_lit ?_
  refine wpList_move rfl (.tmp 3) rfl ?_
  refine wpList_load_blk rfl 58 (.tmp 1) rfl ⟨w.heap.size, 0, Option.none⟩ rfl (.agg s.arr) (run_loadVar_blk Try.underlying58 hi HS2.out (by rw [hz1]; rfl)) ?_
  go_upto_region 5 with (first | (refine (HG.out _ hB2).mono ?_; rintro e w3 ⟨rfl, hb3⟩; have hS3 := HS2.out.below hb3; have hB3 := hB2.trans (hb3.mono hB2.size); have hlt3 := hS3.lt) | (refine wpList_store_blk rfl 58 (.tmp 5) (.tmp 19) rfl i0 hi w3.heap.size b.arr rfl rfl 58 SV.zero.arr (BlkN.at_ rfl 58 SV.zero.arr) (by rw [hz1]; rfl) rfl (SV.one _) ?_; intro w4 hB4 hbut))
  have hS4 : BlkN w4 w.heap.size 58 s.arr := (hbut.other _ (Nat.ne_of_lt hlt3)).trans (hS3.alloc _)
  have hB4' : Below w.heap.size w w4 := hbut.below (Nat.le_of_lt hlt3) (hB3.alloc hB3.size _)
  have HS4 := Lib.hid hS4
  have HB4 := Lib.hid hB4
  have c1 := hS4.cell 1 s.at1
  have c2 := hS4.cell 2 s.at2
  have c3 := hS4.cell 3 s.at3
  have c4 := hS4.cell 4 s.at4
  have d1 := hB4.cell 1 b.at1
  have d2 := hB4.cell 2 b.at2
  have d3 := hB4.cell 3 b.at3
  have d4 := hB4.cell 4 b.at4
  have hlt4 := hB4.lt
  clear hS3 hb3 hbut hS4 hB4 hlk c02
  cases hok : ok
  · have HO := Lib.hid hok
    clear hok
    go_wp2_with fail
    go_ret
    exact ⟨ret_bool (by rw [HO.out]; rfl), hB4'⟩
  have HO := Lib.hid hok
  clear hok
  cases e1 : (s.nm.toList == b.nm.toList)
  · have E1 := Lib.hid e1
    go_wp2_with fail
    go_ret
    exact ⟨ret_bool (by simp only [sameF, E1.out, Bool.false_and, Bool.and_false]), hB4'⟩
  have E1 := Lib.hid e1
  cases e2 : (s.sec.toList == b.sec.toList)
  · have E2 := Lib.hid e2
    go_wp2_with fail
    go_ret
    exact ⟨ret_bool (by simp only [sameF, E1.out, E2.out, Bool.false_and, Bool.and_false]), hB4'⟩
  have E2 := Lib.hid e2
  cases e3 : (s.ab == b.ab)
  · have E3 := Lib.hid e3
    have e3' : (s.ab != b.ab) = true := by rw [bne, e3]; rfl
    go_wp2_with fail
    go_ret
    exact ⟨ret_bool (by simp only [sameF, E1.out, E2.out, E3.out, Bool.false_and, Bool.and_false]), hB4'⟩
  have E3 := Lib.hid e3
  have e3' : (s.ab != b.ab) = false := by rw [bne, e3]; rfl
  cases e4 : (s.wh == b.wh)
  · have E4 := Lib.hid e4
    have e4' : (s.wh != b.wh) = true := by rw [bne, e4]; rfl
    go_wp2_with fail
    go_ret
    exact ⟨ret_bool (by simp only [sameF, E1.out, E2.out, E3.out, E4.out, Bool.false_and, Bool.and_false]), hB4'⟩
  have E4 := Lib.hid e4
  have e4' : (s.wh != b.wh) = false := by rw [bne, e4]; rfl
  go_upto_region 7 with (fail)
  clear e1 e2 e3 e3' e4 e4' c1 c2 c3 c4 d1 d2 d3 d4
  have cQ0 := fun d os => Calls.regrown_of (none_any (Sort.grow (redrawn w4 d) os) ((Hya.out.keep (fun b hb => hB4'.block b (Nat.lt_of_lt_of_le hb hB))).keep (fun b hb => (below_regrown w4 d os).block b (Nat.lt_of_lt_of_le hb (Nat.le_trans hB hB4'.size)))))
  have cQ1 := fun d os => Calls.regrown_of (none_any (Sort.grow (redrawn w4 d) os) ((Ha.out.keep (fun b hb => hB4'.block b (Nat.lt_of_lt_of_le hb hB))).keep (fun b hb => (below_regrown w4 d os).block b (Nat.lt_of_lt_of_le hb (Nat.le_trans hB hB4'.size)))))
  have cQ2 := fun d os => Calls.regrown_of (none_any (Sort.grow (redrawn w4 d) os) ((Hyb.out.keep (fun b hb => hB4'.block b (Nat.lt_of_lt_of_le hb hB))).keep (fun b hb => (below_regrown w4 d os).block b (Nat.lt_of_lt_of_le hb (Nat.le_trans hB hB4'.size)))))
  have cQ3 := fun d os => Calls.regrown_of (none_any (Sort.grow (redrawn w4 d) os) ((Hb.out.keep (fun b hb => hB4'.block b (Nat.lt_of_lt_of_le hb hB))).keep (fun b hb => (below_regrown w4 d os).block b (Nat.lt_of_lt_of_le hb (Nat.le_trans hB hB4'.size)))))
  have c5 := fun d os => cell_regrown (HS4.out.cell 5 s.at5) d os
  have d5 := fun d os => cell_regrown (HB4.out.cell 5 b.at5) d os
  have c6 := fun d os => cell_regrown (HS4.out.cell 6 s.at6) d os
  have d6 := fun d os => cell_regrown (HB4.out.cell 6 b.at6) d os
  have c7 := fun d os => cell_regrown (HS4.out.cell 7 s.at7) d os
  have d7 := fun d os => cell_regrown (HB4.out.cell 7 b.at7) d os
  have c8 := fun d os => cell_regrown (HS4.out.cell 8 s.at8) d os
  have d8 := fun d os => cell_regrown (HB4.out.cell 8 b.at8) d os
  have c9 := fun d os => cell_regrown (HS4.out.cell 9 s.at9) d os
  have d9 := fun d os => cell_regrown (HB4.out.cell 9 b.at9) d os
  have c10 := fun d os => cell_regrown (HS4.out.cell 10 s.at10) d os
  have d10 := fun d os => cell_regrown (HB4.out.cell 10 b.at10) d os
  have c11 := fun d os => cell_regrown (HS4.out.cell 11 s.at11) d os
  have d11 := fun d os => cell_regrown (HB4.out.cell 11 b.at11) d os
  have c12 := fun d os => cell_regrown (HS4.out.cell 12 s.at12) d os
  have d12 := fun d os => cell_regrown (HB4.out.cell 12 b.at12) d os
  cases n1 : (noneX ya == noneX xa)
  · have N1 := Lib.hid n1
    have n1' : (noneX ya != noneX xa) = true := by rw [bne, n1]; rfl
    refine RegQ.region [0, 1, 2, 3, 4, 5, 6, 7, 8, 9, 10, 11, 12, 13, 14, 15] [0, 1, 2, 3, 4, 5, 6, 7, 8, 9, 10, 11, 12, 13, 14, 15] [] [_, _, _, _, _, _, _, _, _, _, _, _, _, _, _, _] [] rfl rfl (by kernel_rfl) (by kernel_rfl) (by kernel_rfl) (by kernel_rfl) (by kernel_rfl) (by kernel_rfl) ?_
    simp only [List.getElem_toArray, List.getElem_cons_zero, List.getElem_cons_succ]
    iterate 2 (quiet_step (fail))
    quiet_step (exact cQ0 _ _)
    iterate 2 (quiet_step (fail))
    quiet_step (exact cQ1 _ _)
    iterate 10 (quiet_step (fail))
    refine wpQuiet_nil ?_
    rintro w5 ⟨pr, rfl⟩
    have hB5 := hB4'.trans ((below_regrown w4 pr.d pr.os).mono hB4'.size)
    simp only [wpList, RegT.NP, Exit.then]
    go_wp2_with fail
    go_ret
    exact ⟨ret_bool (by simp only [sameF, N1.out, Bool.false_and, Bool.and_false]), hB5⟩
  have N1 := Lib.hid n1
  have n1' : (noneX ya != noneX xa) = false := by rw [bne, n1]; rfl
  cases n2 : (noneX yb == noneX xb)
  · have N2 := Lib.hid n2
    have n2' : (noneX yb != noneX xb) = true := by rw [bne, n2]; rfl
    refine RegQ.region [0, 1, 2, 3, 4, 5, 6, 7, 8, 9, 10, 11, 12, 13, 14, 15] [0, 1, 2, 3, 4, 5, 6, 7, 8, 9, 10, 11, 12, 13, 14, 15] [] [_, _, _, _, _, _, _, _, _, _, _, _, _, _, _, _] [] rfl rfl (by kernel_rfl) (by kernel_rfl) (by kernel_rfl) (by kernel_rfl) (by kernel_rfl) (by kernel_rfl) ?_
    simp only [List.getElem_toArray, List.getElem_cons_zero, List.getElem_cons_succ]
    iterate 2 (quiet_step (fail))
    quiet_step (exact cQ0 _ _)
    iterate 2 (quiet_step (fail))
    quiet_step (exact cQ1 _ _)
    iterate 4 (quiet_step (fail))
    quiet_step (exact cQ2 _ _)
    iterate 2 (quiet_step (fail))
    quiet_step (exact cQ3 _ _)
    iterate 2 (quiet_step (fail))
    refine wpQuiet_nil ?_
    rintro w5 ⟨pr, rfl⟩
    have hB5 := hB4'.trans ((below_regrown w4 pr.d pr.os).mono hB4'.size)
    simp only [wpList, RegT.NP, Exit.then]
    go_wp2_with fail
    go_ret
    exact ⟨ret_bool (by simp only [sameF, N2.out, Bool.false_and, Bool.and_false]), hB5⟩
  have N2 := Lib.hid n2
  have n2' : (noneX yb != noneX xb) = false := by rw [bne, n2]; rfl
  refine RegQ.region [0, 1, 2, 3, 4, 5, 6, 7, 8, 9, 10, 11, 12, 13, 14, 15] [0, 1, 2, 3, 4, 5, 6, 7, 8, 9, 10, 11, 12, 13, 14, 15] [] [_, _, _, _, _, _, _, _, _, _, _, _, _, _, _, _] [] rfl rfl (by kernel_rfl) (by kernel_rfl) (by kernel_rfl) (by kernel_rfl) (by kernel_rfl) (by kernel_rfl) ?_
  simp only [List.getElem_toArray, List.getElem_cons_zero, List.getElem_cons_succ]
  iterate 2 (quiet_step (fail))
  quiet_step (exact cQ0 _ _)
  iterate 2 (quiet_step (fail))
  quiet_step (exact cQ1 _ _)
  iterate 4 (quiet_step (fail))
  quiet_step (exact cQ2 _ _)
  iterate 2 (quiet_step (fail))
  quiet_step (exact cQ3 _ _)
  iterate 2 (quiet_step (fail))
  refine wpQuiet_nil ?_
  rintro w5 ⟨pr, rfl⟩
  have hB5 := hB4'.trans ((below_regrown w4 pr.d pr.os).mono hB4'.size)
  simp only [wpList, RegT.NP, Exit.then]
  obtain ⟨w5, hw5⟩ : ∃ w5, w5 = Sort.grow (redrawn w4 pr.d) pr.os := ⟨_, rfl⟩
  have hS5 := HS4.out.below (below_regrown w4 pr.d pr.os)
  have hD5 := HB4.out.below (below_regrown w4 pr.d pr.os)
  rw [← hw5] at hS5 hD5 hB5 ⊢
  clear hw5 n1 n1' n2 n2' cQ0 cQ1 cQ2 cQ3 c5 d5 c6 d6 c7 d7 c8 d8 c9 d9 c10 d10 c11 d11 c12 d12
  have c13 := hS5.cell 13 s.at13
  have d13 := hD5.cell 13 b.at13
  have c14 := hS5.cell 14 s.at14
  have d14 := hD5.cell 14 b.at14
  have c15 := hS5.cell 15 s.at15
  have d15 := hD5.cell 15 b.at15
  have c16 := hS5.cell 16 s.at16
  have d16 := hD5.cell 16 b.at16
  clear hS5 hD5
  by_cases l0 : b.tl = s.tl
  case neg =>
    have L0 := Lib.hid (show decide (b.tl = s.tl) = false from by simpa using l0)
    have l0a : (b.tl == s.tl) = false := by simpa using l0
    have l0b : ((b.tl : Int) == (s.tl : Int)) = false := by rw [beq_eq_false_iff_ne]; omega
    clear l0
    go_wp2_with fail
    go_ret
    exact ⟨ret_bool (by simp only [sameF, L0.out, Bool.false_and, Bool.and_false]), hB5⟩
  have L0 := Lib.hid (show decide (b.tl = s.tl) = true from by simpa using l0)
  have l0a : (b.tl == s.tl) = true := by simpa using l0
  have l0b : ((b.tl : Int) == (s.tl : Int)) = true := by rw [beq_iff_eq]; omega
  clear l0
  by_cases l1 : b.el = s.el
  case neg =>
    have L1 := Lib.hid (show decide (b.el = s.el) = false from by simpa using l1)
    have l1a : (b.el == s.el) = false := by simpa using l1
    have l1b : ((b.el : Int) == (s.el : Int)) = false := by rw [beq_eq_false_iff_ne]; omega
    clear l1
    go_wp2_with fail
    go_ret
    exact ⟨ret_bool (by simp only [sameF, L1.out, Bool.false_and, Bool.and_false]), hB5⟩
  have L1 := Lib.hid (show decide (b.el = s.el) = true from by simpa using l1)
  have l1a : (b.el == s.el) = true := by simpa using l1
  have l1b : ((b.el : Int) == (s.el : Int)) = true := by rw [beq_iff_eq]; omega
  clear l1
  by_cases l2 : b.cl = s.cl
  case neg =>
    have L2 := Lib.hid (show decide (b.cl = s.cl) = false from by simpa using l2)
    have l2a : (b.cl == s.cl) = false := by simpa using l2
    have l2b : ((b.cl : Int) == (s.cl : Int)) = false := by rw [beq_eq_false_iff_ne]; omega
    clear l2
    go_wp2_with fail
    go_ret
    exact ⟨ret_bool (by simp only [sameF, L2.out, Bool.false_and, Bool.and_false]), hB5⟩
  have L2 := Lib.hid (show decide (b.cl = s.cl) = true from by simpa using l2)
  have l2a : (b.cl == s.cl) = true := by simpa using l2
  have l2b : ((b.cl : Int) == (s.cl : Int)) = true := by rw [beq_iff_eq]; omega
  clear l2
  by_cases l3 : b.wl = s.wl
  case neg =>
    have L3 := Lib.hid (show decide (b.wl = s.wl) = false from by simpa using l3)
    have l3a : (b.wl == s.wl) = false := by simpa using l3
    have l3b : ((b.wl : Int) == (s.wl : Int)) = false := by rw [beq_eq_false_iff_ne]; omega
    clear l3
    go_wp2_with fail
    go_ret
    exact ⟨ret_bool (by simp only [sameF, L3.out, Bool.and_false]), hB5⟩
  have L3 := Lib.hid (show decide (b.wl = s.wl) = true from by simpa using l3)
  have l3a : (b.wl == s.wl) = true := by simpa using l3
  have l3b : ((b.wl : Int) == (s.wl : Int)) = true := by rw [beq_iff_eq]; omega
  clear l3
  go_wp2_with fail
  go_ret
  exact ⟨ret_bool (by simp only [sameF, HO.out, E1.out, E2.out, E3.out, E4.out, N1.out, N2.out, L0.out, L1.out, L2.out, L3.out, Bool.and_true]), hB5⟩
end Go.Proofs.Ytnknefdpglnbnaa
