/- Forms of statements: forms$2. -/
import Derived.Test.YtnknefdpglnbnaaU
import Derived.Test.YtnknefdpglnbnaaR
namespace Go.Proofs.Ytnknefdpglnbnaa
open Go.RowKit

attribute [local irreducible] wpQuiet RegT.seqT wpList
set_option maxRecDepth 100000 in
set_option maxHeartbeats 4000000 in
theorem forms2_any (s : SV) (a : Ex) (b : Ex) (w : World) (B : Nat) (hB : B ≤ w.heap.size) (ha : IsEx w B s.a a) (hb : IsEx w B s.b b) (h0 : 0 ≤ s.ab) (h1 : s.ab < 256) : Calls Try.prog 139 #[.agg s.arr] w fun e w' =>
    e = .returned (.tuple #[.agg ({ SV.zero with nm := s.nm, ab := s.ab, a0 := s.a0, a1 := s.a1, a2 := s.a2, aA := s.aA, al := s.al, ac := s.ac, b0 := s.b0, b1 := s.b1, b2 := s.b2, bA := s.bA, bl := s.bl, bc := s.bc } : SV).arr, .bool (mayN s.nm && oneI s.ab && mayE a && orNoneE b && (noneX b || (s.ab != 1 && s.ab != 32)))]) ∧ Below w.heap.size w w' := by
  have h17 := s.size
  have Ha := Lib.hid ha
  have Hb := Lib.hid hb
  clear ha hb
  go_enter Try.func139, Try.ntmps139
  go_wp2_with fail
  obtain ⟨w0, hw0⟩ : ∃ w0, w0 = (w.alloc (.cells s.arr 58)).alloc (.cells SV.zero.arr 58) := ⟨_, rfl⟩
  have hw0' : (w.alloc (.cells s.arr 58)).alloc (.cells #[.int .u8 0, .string ⟨#[]⟩, .string ⟨#[]⟩, .int .u8 0, .int .u8 0, .int .u8 0, .int .i64 0, .string ⟨#[]⟩, .slice Option.none 0 0, .int .u8 0, .int .i64 0, .string ⟨#[]⟩, .slice Option.none 0 0, .slice Option.none 0 0, .slice Option.none 0 0, .slice Option.none 0 0, .slice Option.none 0 0] 58) = w0 := hw0.symm
  rw [hw0']
  have hS : BlkN w0 w.heap.size 58 s.arr := by rw [hw0]; exact (BlkN.at_ rfl _ _).alloc _
  have hR0 : BlkN w0 (w.heap.size + 1) 58 SV.zero.arr := by rw [hw0]; exact BlkN.at_ (by simp) _ _
  have hB0 : Below w.heap.size w w0 := by rw [hw0]; exact ((Below.refl _ _).alloc (Nat.le_refl _) _).alloc (by simp) _
  obtain ⟨i0, hi, hz0, hz1, hz2⟩ := info_parts info58
  clear hw0 hw0'
  simp only [show s.arr[1] = Value.string s.nm from rfl]
  have q0 := fun w' => mayName_any s.nm w'
  have q1 := fun w' => oneI_any s.ab h0 h1 w'
  have q2 := fun w' (h : Below w0.heap.size w0 w') => MayExpr_any w' ((Ha.out.keep (fun b hb => hB0.block b (Nat.lt_of_lt_of_le hb hB))).keep (fun b hb => h.block b (Nat.lt_of_lt_of_le hb (Nat.le_trans hB hB0.size)))) (Nat.le_trans hB (Nat.le_trans hB0.size h.size))
  have q3 := fun w' (h : Below w0.heap.size w0 w') => orNone_any w' ((Hb.out.keep (fun b hb => hB0.block b (Nat.lt_of_lt_of_le hb hB))).keep (fun b hb => h.block b (Nat.lt_of_lt_of_le hb (Nat.le_trans hB hB0.size)))) (Nat.le_trans hB (Nat.le_trans hB0.size h.size))
  have q4 := fun w' (h : Below w0.heap.size w0 w') => none_any w' ((Hb.out.keep (fun b hb => hB0.block b (Nat.lt_of_lt_of_le hb hB))).keep (fun b hb => h.block b (Nat.lt_of_lt_of_le hb (Nat.le_trans hB hB0.size))))
  cases hm0 : mayN s.nm
  · have HM0 := Lib.hid hm0
    rw [hm0] at q0
    clear hm0
    go_wp2_with (first | (go_at_call 38; refine (q0 _).mono ?_; rintro e w1 ⟨rfl, hb1⟩; have hS1 := hS.below hb1; have k3 := hS1.cell 3 s.at3))
    have hR1 := hR0.below hb1
    have hRl : w.heap.size + 1 < w1.heap.size := hR1.lt
    have c1 := fun p : RegQ.Reb 17 => RegQ.cell_reb (U := 58) hRl (hS1.cell 1 s.at1) (Nat.ne_of_lt (Nat.lt_succ_self _)) p
    have c3 := fun p : RegQ.Reb 17 => RegQ.cell_reb (U := 58) hRl (hS1.cell 3 s.at3) (Nat.ne_of_lt (Nat.lt_succ_self _)) p
    have c5 := fun p : RegQ.Reb 17 => RegQ.cell_reb (U := 58) hRl (hS1.cell 5 s.at5) (Nat.ne_of_lt (Nat.lt_succ_self _)) p
    have c6 := fun p : RegQ.Reb 17 => RegQ.cell_reb (U := 58) hRl (hS1.cell 6 s.at6) (Nat.ne_of_lt (Nat.lt_succ_self _)) p
    have c7 := fun p : RegQ.Reb 17 => RegQ.cell_reb (U := 58) hRl (hS1.cell 7 s.at7) (Nat.ne_of_lt (Nat.lt_succ_self _)) p
    have c8 := fun p : RegQ.Reb 17 => RegQ.cell_reb (U := 58) hRl (hS1.cell 8 s.at8) (Nat.ne_of_lt (Nat.lt_succ_self _)) p
    have c9 := fun p : RegQ.Reb 17 => RegQ.cell_reb (U := 58) hRl (hS1.cell 9 s.at9) (Nat.ne_of_lt (Nat.lt_succ_self _)) p
    have c10 := fun p : RegQ.Reb 17 => RegQ.cell_reb (U := 58) hRl (hS1.cell 10 s.at10) (Nat.ne_of_lt (Nat.lt_succ_self _)) p
    have c11 := fun p : RegQ.Reb 17 => RegQ.cell_reb (U := 58) hRl (hS1.cell 11 s.at11) (Nat.ne_of_lt (Nat.lt_succ_self _)) p
    have c12 := fun p : RegQ.Reb 17 => RegQ.cell_reb (U := 58) hRl (hS1.cell 12 s.at12) (Nat.ne_of_lt (Nat.lt_succ_self _)) p
    clear hS q0 q1 q2 q3 q4
    refine RegQ.region2 (fun w' => ∃ p : RegQ.Reb 17, w' = RegQ.rebW w1 (w.heap.size + 1) 58 p) (fun j => j != 26) [9, 10, 11, 12, 13, 14, 15, 16, 17, 18, 19, 20, 21, 22, 23, 24, 0, 1, 2, 3, 4, 5, 6, 7, 8] [9, 10, 11, 12, 13, 0, 1, 2, 3, 4, 5, 6, 7, 8] [25, 26] [_, _, _, _, _, _, _, _, _, _, _, _, _, _, _, _, _, _, _, _, _, _, _, _, _] rfl rfl (by kernel_rfl) (by kernel_rfl) (by kernel_rfl) (by kernel_rfl) (by kernel_rfl) (by kernel_rfl) ((RegQ.inReb'_iff hRl).2 (RegQ.InReb.drew hR1 rfl)) ?_
    simp only [List.getElem_toArray, List.getElem_cons_zero, List.getElem_cons_succ]
    repeat (quiet_step (fail))
    refine wpQuiet_nil ?_
    rintro w5 ⟨pr, rfl⟩
    have hI := RegQ.rebW_in (U := 58) hRl pr
    obtain ⟨cur, hcn, hcur⟩ := hI.blk
    refine RegT.seqT_held rfl ?_
    refine wpList_store_blk rfl 58 (.tmp 2) (.tmp 31) rfl i0 hi (w.heap.size + 1) ({ SV.zero with nm := s.nm, ab := s.ab, a0 := s.a0, a1 := s.a1, a2 := s.a2, aA := s.aA, al := s.al, ac := s.ac, b0 := s.b0, b1 := s.b1, b2 := s.b2, bA := s.bA, bl := s.bl, bc := s.bc } : SV).arr rfl rfl 58 cur hcur (by rw [hz1]; rfl) (hcn.trans rfl) (SV.one _) ?_
    intro w6 hB6 hbut
    simp only [wpList, Exit.then]
    refine ⟨RegQ.reb_of hRl (hI.but hbut hB6 rfl), ?_⟩
    refine RegT.seqT_tail [26] [_] rfl rfl _ _ ?_
    go_wp2_with fail
    simp only [RegT.NP, Exit.then]
    go_wp2_with fail
    refine bodyPost_ret (results_cell2 (s := 2) (t := 3) (b := w.heap.size + 1) rfl Try.underlying58 hi rfl hB6 (by rw [hz1]; rfl) rfl) rfl ⟨?_, ?_⟩
    · rw [HM0.out]; rfl
    · exact hbut.below (Nat.le_succ _) (hB0.trans ((hb1.mono hB0.size).trans ((hI.to hRl).mono (Nat.le_succ _))))
  · have HM0 := Lib.hid hm0
    rw [hm0] at q0
    clear hm0
    cases hm1 : oneI s.ab
    · have HM1 := Lib.hid hm1
      rw [hm1] at q1
      clear hm1
      go_wp2_with (first | (go_at_call 38; refine (q0 _).mono ?_; rintro e w1 ⟨rfl, hb1⟩; have hS1 := hS.below hb1; have k3 := hS1.cell 3 s.at3) | (go_at_call 140; refine (q1 _).mono ?_; rintro e w2 ⟨rfl, hb2p⟩; have hb2 := hb1.trans (hb2p.mono hb1.size); have hS2 := hS.below hb2; have k5 := hS2.cell 5 s.at5; have k6 := hS2.cell 6 s.at6; have k7 := hS2.cell 7 s.at7; have k8 := hS2.cell 8 s.at8))
      have hR1 := hR0.below hb2
      have hRl : w.heap.size + 1 < w2.heap.size := hR1.lt
      have c1 := fun p : RegQ.Reb 17 => RegQ.cell_reb (U := 58) hRl (hS2.cell 1 s.at1) (Nat.ne_of_lt (Nat.lt_succ_self _)) p
      have c3 := fun p : RegQ.Reb 17 => RegQ.cell_reb (U := 58) hRl (hS2.cell 3 s.at3) (Nat.ne_of_lt (Nat.lt_succ_self _)) p
      have c5 := fun p : RegQ.Reb 17 => RegQ.cell_reb (U := 58) hRl (hS2.cell 5 s.at5) (Nat.ne_of_lt (Nat.lt_succ_self _)) p
      have c6 := fun p : RegQ.Reb 17 => RegQ.cell_reb (U := 58) hRl (hS2.cell 6 s.at6) (Nat.ne_of_lt (Nat.lt_succ_self _)) p
      have c7 := fun p : RegQ.Reb 17 => RegQ.cell_reb (U := 58) hRl (hS2.cell 7 s.at7) (Nat.ne_of_lt (Nat.lt_succ_self _)) p
      have c8 := fun p : RegQ.Reb 17 => RegQ.cell_reb (U := 58) hRl (hS2.cell 8 s.at8) (Nat.ne_of_lt (Nat.lt_succ_self _)) p
      have c9 := fun p : RegQ.Reb 17 => RegQ.cell_reb (U := 58) hRl (hS2.cell 9 s.at9) (Nat.ne_of_lt (Nat.lt_succ_self _)) p
      have c10 := fun p : RegQ.Reb 17 => RegQ.cell_reb (U := 58) hRl (hS2.cell 10 s.at10) (Nat.ne_of_lt (Nat.lt_succ_self _)) p
      have c11 := fun p : RegQ.Reb 17 => RegQ.cell_reb (U := 58) hRl (hS2.cell 11 s.at11) (Nat.ne_of_lt (Nat.lt_succ_self _)) p
      have c12 := fun p : RegQ.Reb 17 => RegQ.cell_reb (U := 58) hRl (hS2.cell 12 s.at12) (Nat.ne_of_lt (Nat.lt_succ_self _)) p
      clear hS q0 q1 q2 q3 q4
      refine RegQ.region2 (fun w' => ∃ p : RegQ.Reb 17, w' = RegQ.rebW w2 (w.heap.size + 1) 58 p) (fun j => j != 26) [9, 10, 11, 12, 13, 14, 15, 16, 17, 18, 19, 20, 21, 22, 23, 24, 0, 1, 2, 3, 4, 5, 6, 7, 8] [9, 10, 11, 12, 13, 0, 1, 2, 3, 4, 5, 6, 7, 8] [25, 26] [_, _, _, _, _, _, _, _, _, _, _, _, _, _, _, _, _, _, _, _, _, _, _, _, _] rfl rfl (by kernel_rfl) (by kernel_rfl) (by kernel_rfl) (by kernel_rfl) (by kernel_rfl) (by kernel_rfl) ((RegQ.inReb'_iff hRl).2 (RegQ.InReb.drew hR1 rfl)) ?_
      simp only [List.getElem_toArray, List.getElem_cons_zero, List.getElem_cons_succ]
      repeat (quiet_step (fail))
      refine wpQuiet_nil ?_
      rintro w5 ⟨pr, rfl⟩
      have hI := RegQ.rebW_in (U := 58) hRl pr
      obtain ⟨cur, hcn, hcur⟩ := hI.blk
      refine RegT.seqT_held rfl ?_
      refine wpList_store_blk rfl 58 (.tmp 2) (.tmp 31) rfl i0 hi (w.heap.size + 1) ({ SV.zero with nm := s.nm, ab := s.ab, a0 := s.a0, a1 := s.a1, a2 := s.a2, aA := s.aA, al := s.al, ac := s.ac, b0 := s.b0, b1 := s.b1, b2 := s.b2, bA := s.bA, bl := s.bl, bc := s.bc } : SV).arr rfl rfl 58 cur hcur (by rw [hz1]; rfl) (hcn.trans rfl) (SV.one _) ?_
      intro w6 hB6 hbut
      simp only [wpList, Exit.then]
      refine ⟨RegQ.reb_of hRl (hI.but hbut hB6 rfl), ?_⟩
      refine RegT.seqT_tail [26] [_] rfl rfl _ _ ?_
      go_wp2_with fail
      simp only [RegT.NP, Exit.then]
      go_wp2_with fail
      refine bodyPost_ret (results_cell2 (s := 2) (t := 3) (b := w.heap.size + 1) rfl Try.underlying58 hi rfl hB6 (by rw [hz1]; rfl) rfl) rfl ⟨?_, ?_⟩
      · rw [HM0.out, HM1.out]; rfl
      · exact hbut.below (Nat.le_succ _) (hB0.trans ((hb2.mono hB0.size).trans ((hI.to hRl).mono (Nat.le_succ _))))
    · have HM1 := Lib.hid hm1
      rw [hm1] at q1
      clear hm1
      cases hm2 : mayE a
      · have HM2 := Lib.hid hm2
        rw [hm2] at q2
        clear hm2
        go_wp2_with (first | (go_at_call 38; refine (q0 _).mono ?_; rintro e w1 ⟨rfl, hb1⟩; have hS1 := hS.below hb1; have k3 := hS1.cell 3 s.at3) | (go_at_call 140; refine (q1 _).mono ?_; rintro e w2 ⟨rfl, hb2p⟩; have hb2 := hb1.trans (hb2p.mono hb1.size); have hS2 := hS.below hb2; have k5 := hS2.cell 5 s.at5; have k6 := hS2.cell 6 s.at6; have k7 := hS2.cell 7 s.at7; have k8 := hS2.cell 8 s.at8) | (go_at_call 21; refine (q2 _ hb2).mono ?_; rintro e w3 ⟨rfl, hb3p⟩; have hb3 := hb2.trans (hb3p.mono hb2.size); have hS3 := hS.below hb3; have k9 := hS3.cell 9 s.at9; have k10 := hS3.cell 10 s.at10; have k11 := hS3.cell 11 s.at11; have k12 := hS3.cell 12 s.at12))
        have hR1 := hR0.below hb3
        have hRl : w.heap.size + 1 < w3.heap.size := hR1.lt
        have c1 := fun p : RegQ.Reb 17 => RegQ.cell_reb (U := 58) hRl (hS3.cell 1 s.at1) (Nat.ne_of_lt (Nat.lt_succ_self _)) p
        have c3 := fun p : RegQ.Reb 17 => RegQ.cell_reb (U := 58) hRl (hS3.cell 3 s.at3) (Nat.ne_of_lt (Nat.lt_succ_self _)) p
        have c5 := fun p : RegQ.Reb 17 => RegQ.cell_reb (U := 58) hRl (hS3.cell 5 s.at5) (Nat.ne_of_lt (Nat.lt_succ_self _)) p
        have c6 := fun p : RegQ.Reb 17 => RegQ.cell_reb (U := 58) hRl (hS3.cell 6 s.at6) (Nat.ne_of_lt (Nat.lt_succ_self _)) p
        have c7 := fun p : RegQ.Reb 17 => RegQ.cell_reb (U := 58) hRl (hS3.cell 7 s.at7) (Nat.ne_of_lt (Nat.lt_succ_self _)) p
        have c8 := fun p : RegQ.Reb 17 => RegQ.cell_reb (U := 58) hRl (hS3.cell 8 s.at8) (Nat.ne_of_lt (Nat.lt_succ_self _)) p
        have c9 := fun p : RegQ.Reb 17 => RegQ.cell_reb (U := 58) hRl (hS3.cell 9 s.at9) (Nat.ne_of_lt (Nat.lt_succ_self _)) p
        have c10 := fun p : RegQ.Reb 17 => RegQ.cell_reb (U := 58) hRl (hS3.cell 10 s.at10) (Nat.ne_of_lt (Nat.lt_succ_self _)) p
        have c11 := fun p : RegQ.Reb 17 => RegQ.cell_reb (U := 58) hRl (hS3.cell 11 s.at11) (Nat.ne_of_lt (Nat.lt_succ_self _)) p
        have c12 := fun p : RegQ.Reb 17 => RegQ.cell_reb (U := 58) hRl (hS3.cell 12 s.at12) (Nat.ne_of_lt (Nat.lt_succ_self _)) p
        clear hS q0 q1 q2 q3 q4
        refine RegQ.region2 (fun w' => ∃ p : RegQ.Reb 17, w' = RegQ.rebW w3 (w.heap.size + 1) 58 p) (fun j => j != 26) [9, 10, 11, 12, 13, 14, 15, 16, 17, 18, 19, 20, 21, 22, 23, 24, 0, 1, 2, 3, 4, 5, 6, 7, 8] [9, 10, 11, 12, 13, 0, 1, 2, 3, 4, 5, 6, 7, 8] [25, 26] [_, _, _, _, _, _, _, _, _, _, _, _, _, _, _, _, _, _, _, _, _, _, _, _, _] rfl rfl (by kernel_rfl) (by kernel_rfl) (by kernel_rfl) (by kernel_rfl) (by kernel_rfl) (by kernel_rfl) ((RegQ.inReb'_iff hRl).2 (RegQ.InReb.drew hR1 rfl)) ?_
        simp only [List.getElem_toArray, List.getElem_cons_zero, List.getElem_cons_succ]
        repeat (quiet_step (fail))
        refine wpQuiet_nil ?_
        rintro w5 ⟨pr, rfl⟩
        have hI := RegQ.rebW_in (U := 58) hRl pr
        obtain ⟨cur, hcn, hcur⟩ := hI.blk
        refine RegT.seqT_held rfl ?_
        refine wpList_store_blk rfl 58 (.tmp 2) (.tmp 31) rfl i0 hi (w.heap.size + 1) ({ SV.zero with nm := s.nm, ab := s.ab, a0 := s.a0, a1 := s.a1, a2 := s.a2, aA := s.aA, al := s.al, ac := s.ac, b0 := s.b0, b1 := s.b1, b2 := s.b2, bA := s.bA, bl := s.bl, bc := s.bc } : SV).arr rfl rfl 58 cur hcur (by rw [hz1]; rfl) (hcn.trans rfl) (SV.one _) ?_
        intro w6 hB6 hbut
        simp only [wpList, Exit.then]
        refine ⟨RegQ.reb_of hRl (hI.but hbut hB6 rfl), ?_⟩
        refine RegT.seqT_tail [26] [_] rfl rfl _ _ ?_
        go_wp2_with fail
        simp only [RegT.NP, Exit.then]
        go_wp2_with fail
        refine bodyPost_ret (results_cell2 (s := 2) (t := 3) (b := w.heap.size + 1) rfl Try.underlying58 hi rfl hB6 (by rw [hz1]; rfl) rfl) rfl ⟨?_, ?_⟩
        · rw [HM0.out, HM1.out, HM2.out]; rfl
        · exact hbut.below (Nat.le_succ _) (hB0.trans ((hb3.mono hB0.size).trans ((hI.to hRl).mono (Nat.le_succ _))))
      · have HM2 := Lib.hid hm2
        rw [hm2] at q2
        clear hm2
        cases hm3 : orNoneE b
        · have HM3 := Lib.hid hm3
          rw [hm3] at q3
          clear hm3
          go_wp2_with (first | (go_at_call 38; refine (q0 _).mono ?_; rintro e w1 ⟨rfl, hb1⟩; have hS1 := hS.below hb1; have k3 := hS1.cell 3 s.at3) | (go_at_call 140; refine (q1 _).mono ?_; rintro e w2 ⟨rfl, hb2p⟩; have hb2 := hb1.trans (hb2p.mono hb1.size); have hS2 := hS.below hb2; have k5 := hS2.cell 5 s.at5; have k6 := hS2.cell 6 s.at6; have k7 := hS2.cell 7 s.at7; have k8 := hS2.cell 8 s.at8) | (go_at_call 21; refine (q2 _ hb2).mono ?_; rintro e w3 ⟨rfl, hb3p⟩; have hb3 := hb2.trans (hb3p.mono hb2.size); have hS3 := hS.below hb3; have k9 := hS3.cell 9 s.at9; have k10 := hS3.cell 10 s.at10; have k11 := hS3.cell 11 s.at11; have k12 := hS3.cell 12 s.at12) | (go_at_call 62; refine (q3 _ hb3).mono ?_; rintro e w4 ⟨rfl, hb4p⟩; have hb4 := hb3.trans (hb4p.mono hb3.size); have hS4 := hS.below hb4))
          have hR1 := hR0.below hb4
          have hRl : w.heap.size + 1 < w4.heap.size := hR1.lt
          have c1 := fun p : RegQ.Reb 17 => RegQ.cell_reb (U := 58) hRl (hS4.cell 1 s.at1) (Nat.ne_of_lt (Nat.lt_succ_self _)) p
          have c3 := fun p : RegQ.Reb 17 => RegQ.cell_reb (U := 58) hRl (hS4.cell 3 s.at3) (Nat.ne_of_lt (Nat.lt_succ_self _)) p
          have c5 := fun p : RegQ.Reb 17 => RegQ.cell_reb (U := 58) hRl (hS4.cell 5 s.at5) (Nat.ne_of_lt (Nat.lt_succ_self _)) p
          have c6 := fun p : RegQ.Reb 17 => RegQ.cell_reb (U := 58) hRl (hS4.cell 6 s.at6) (Nat.ne_of_lt (Nat.lt_succ_self _)) p
          have c7 := fun p : RegQ.Reb 17 => RegQ.cell_reb (U := 58) hRl (hS4.cell 7 s.at7) (Nat.ne_of_lt (Nat.lt_succ_self _)) p
          have c8 := fun p : RegQ.Reb 17 => RegQ.cell_reb (U := 58) hRl (hS4.cell 8 s.at8) (Nat.ne_of_lt (Nat.lt_succ_self _)) p
          have c9 := fun p : RegQ.Reb 17 => RegQ.cell_reb (U := 58) hRl (hS4.cell 9 s.at9) (Nat.ne_of_lt (Nat.lt_succ_self _)) p
          have c10 := fun p : RegQ.Reb 17 => RegQ.cell_reb (U := 58) hRl (hS4.cell 10 s.at10) (Nat.ne_of_lt (Nat.lt_succ_self _)) p
          have c11 := fun p : RegQ.Reb 17 => RegQ.cell_reb (U := 58) hRl (hS4.cell 11 s.at11) (Nat.ne_of_lt (Nat.lt_succ_self _)) p
          have c12 := fun p : RegQ.Reb 17 => RegQ.cell_reb (U := 58) hRl (hS4.cell 12 s.at12) (Nat.ne_of_lt (Nat.lt_succ_self _)) p
          clear hS q0 q1 q2 q3 q4
          refine RegQ.region2 (fun w' => ∃ p : RegQ.Reb 17, w' = RegQ.rebW w4 (w.heap.size + 1) 58 p) (fun j => j != 26) [9, 10, 11, 12, 13, 14, 15, 16, 17, 18, 19, 20, 21, 22, 23, 24, 0, 1, 2, 3, 4, 5, 6, 7, 8] [9, 10, 11, 12, 13, 0, 1, 2, 3, 4, 5, 6, 7, 8] [25, 26] [_, _, _, _, _, _, _, _, _, _, _, _, _, _, _, _, _, _, _, _, _, _, _, _, _] rfl rfl (by kernel_rfl) (by kernel_rfl) (by kernel_rfl) (by kernel_rfl) (by kernel_rfl) (by kernel_rfl) ((RegQ.inReb'_iff hRl).2 (RegQ.InReb.drew hR1 rfl)) ?_
          simp only [List.getElem_toArray, List.getElem_cons_zero, List.getElem_cons_succ]
          repeat (quiet_step (fail))
          refine wpQuiet_nil ?_
          rintro w5 ⟨pr, rfl⟩
          have hI := RegQ.rebW_in (U := 58) hRl pr
          obtain ⟨cur, hcn, hcur⟩ := hI.blk
          refine RegT.seqT_held rfl ?_
          refine wpList_store_blk rfl 58 (.tmp 2) (.tmp 31) rfl i0 hi (w.heap.size + 1) ({ SV.zero with nm := s.nm, ab := s.ab, a0 := s.a0, a1 := s.a1, a2 := s.a2, aA := s.aA, al := s.al, ac := s.ac, b0 := s.b0, b1 := s.b1, b2 := s.b2, bA := s.bA, bl := s.bl, bc := s.bc } : SV).arr rfl rfl 58 cur hcur (by rw [hz1]; rfl) (hcn.trans rfl) (SV.one _) ?_
          intro w6 hB6 hbut
          simp only [wpList, Exit.then]
          refine ⟨RegQ.reb_of hRl (hI.but hbut hB6 rfl), ?_⟩
          refine RegT.seqT_tail [26] [_] rfl rfl _ _ ?_
          go_wp2_with fail
          simp only [RegT.NP, Exit.then]
          go_wp2_with fail
          refine bodyPost_ret (results_cell2 (s := 2) (t := 3) (b := w.heap.size + 1) rfl Try.underlying58 hi rfl hB6 (by rw [hz1]; rfl) rfl) rfl ⟨?_, ?_⟩
          · rw [HM0.out, HM1.out, HM2.out, HM3.out]; rfl
          · exact hbut.below (Nat.le_succ _) (hB0.trans ((hb4.mono hB0.size).trans ((hI.to hRl).mono (Nat.le_succ _))))
        · have HM3 := Lib.hid hm3
          rw [hm3] at q3
          clear hm3
          cases hm4 : noneX b
          · have HM4 := Lib.hid hm4
            rw [hm4] at q4
            clear hm4
            by_cases he : s.ab = 1
            · have HE := Lib.hid he
              clear he
              go_wp2_with (first | (go_at_call 38; refine (q0 _).mono ?_; rintro e w1 ⟨rfl, hb1⟩; have hS1 := hS.below hb1; have k3 := hS1.cell 3 s.at3) | (go_at_call 140; refine (q1 _).mono ?_; rintro e w2 ⟨rfl, hb2p⟩; have hb2 := hb1.trans (hb2p.mono hb1.size); have hS2 := hS.below hb2; have k5 := hS2.cell 5 s.at5; have k6 := hS2.cell 6 s.at6; have k7 := hS2.cell 7 s.at7; have k8 := hS2.cell 8 s.at8) | (go_at_call 21; refine (q2 _ hb2).mono ?_; rintro e w3 ⟨rfl, hb3p⟩; have hb3 := hb2.trans (hb3p.mono hb2.size); have hS3 := hS.below hb3; have k9 := hS3.cell 9 s.at9; have k10 := hS3.cell 10 s.at10; have k11 := hS3.cell 11 s.at11; have k12 := hS3.cell 12 s.at12) | (go_at_call 62; refine (q3 _ hb3).mono ?_; rintro e w4 ⟨rfl, hb4p⟩; have hb4 := hb3.trans (hb4p.mono hb3.size); have hS4 := hS.below hb4))
              have hR1 := hR0.below hb4
              have hRl : w.heap.size + 1 < w4.heap.size := hR1.lt
              have c1 := fun p : RegQ.Reb 17 => RegQ.cell_reb (U := 58) hRl (hS4.cell 1 s.at1) (Nat.ne_of_lt (Nat.lt_succ_self _)) p
              have c3 := fun p : RegQ.Reb 17 => RegQ.cell_reb (U := 58) hRl (hS4.cell 3 s.at3) (Nat.ne_of_lt (Nat.lt_succ_self _)) p
              have c5 := fun p : RegQ.Reb 17 => RegQ.cell_reb (U := 58) hRl (hS4.cell 5 s.at5) (Nat.ne_of_lt (Nat.lt_succ_self _)) p
              have c6 := fun p : RegQ.Reb 17 => RegQ.cell_reb (U := 58) hRl (hS4.cell 6 s.at6) (Nat.ne_of_lt (Nat.lt_succ_self _)) p
              have c7 := fun p : RegQ.Reb 17 => RegQ.cell_reb (U := 58) hRl (hS4.cell 7 s.at7) (Nat.ne_of_lt (Nat.lt_succ_self _)) p
              have c8 := fun p : RegQ.Reb 17 => RegQ.cell_reb (U := 58) hRl (hS4.cell 8 s.at8) (Nat.ne_of_lt (Nat.lt_succ_self _)) p
              have c9 := fun p : RegQ.Reb 17 => RegQ.cell_reb (U := 58) hRl (hS4.cell 9 s.at9) (Nat.ne_of_lt (Nat.lt_succ_self _)) p
              have c10 := fun p : RegQ.Reb 17 => RegQ.cell_reb (U := 58) hRl (hS4.cell 10 s.at10) (Nat.ne_of_lt (Nat.lt_succ_self _)) p
              have c11 := fun p : RegQ.Reb 17 => RegQ.cell_reb (U := 58) hRl (hS4.cell 11 s.at11) (Nat.ne_of_lt (Nat.lt_succ_self _)) p
              have c12 := fun p : RegQ.Reb 17 => RegQ.cell_reb (U := 58) hRl (hS4.cell 12 s.at12) (Nat.ne_of_lt (Nat.lt_succ_self _)) p
              have cQ := fun p : RegQ.Reb 17 => RegQ.calls_reb (U := 58) hRl (none_any (RegQ.rebW w4 (w.heap.size + 1) 58 p) ((Hb.out.keep (fun b hb => (hB0.trans (hb4.mono hB0.size)).block b (Nat.lt_of_lt_of_le hb hB))).keep (fun b hb => ((RegQ.rebW_in (U := 58) hRl p).to hRl).block b (Nat.lt_of_lt_of_le hb (Nat.le_succ_of_le hB)))))
              rw [HM4.out] at cQ
              have he := HE.out
              have hq : (s.ab == 1) = true := by simpa using he
              have hq2 : (s.ab != 1) = false := by simpa using he
              clear he
              clear hS q0 q1 q2 q3 q4
              refine RegQ.region2 (fun w' => ∃ p : RegQ.Reb 17, w' = RegQ.rebW w4 (w.heap.size + 1) 58 p) (fun j => j != 26) [9, 10, 11, 12, 13, 14, 15, 16, 17, 18, 19, 20, 21, 22, 23, 24, 0, 1, 2, 3, 4, 5, 6, 7, 8] [9, 10, 11, 12, 13, 0, 1, 2, 3, 4, 5, 6, 7, 8] [25, 26] [_, _, _, _, _, _, _, _, _, _, _, _, _, _, _, _, _, _, _, _, _, _, _, _, _] rfl rfl (by kernel_rfl) (by kernel_rfl) (by kernel_rfl) (by kernel_rfl) (by kernel_rfl) (by kernel_rfl) ((RegQ.inReb'_iff hRl).2 (RegQ.InReb.drew hR1 rfl)) ?_
              simp only [List.getElem_toArray, List.getElem_cons_zero, List.getElem_cons_succ]
              repeat (quiet_step (exact cQ _))
              refine wpQuiet_nil ?_
              rintro w5 ⟨pr, rfl⟩
              have hI := RegQ.rebW_in (U := 58) hRl pr
              obtain ⟨cur, hcn, hcur⟩ := hI.blk
              refine RegT.seqT_held rfl ?_
              refine wpList_store_blk rfl 58 (.tmp 2) (.tmp 31) rfl i0 hi (w.heap.size + 1) ({ SV.zero with nm := s.nm, ab := s.ab, a0 := s.a0, a1 := s.a1, a2 := s.a2, aA := s.aA, al := s.al, ac := s.ac, b0 := s.b0, b1 := s.b1, b2 := s.b2, bA := s.bA, bl := s.bl, bc := s.bc } : SV).arr rfl rfl 58 cur hcur (by rw [hz1]; rfl) (hcn.trans rfl) (SV.one _) ?_
              intro w6 hB6 hbut
              simp only [wpList, Exit.then]
              refine ⟨RegQ.reb_of hRl (hI.but hbut hB6 rfl), ?_⟩
              refine RegT.seqT_tail [26] [_] rfl rfl _ _ ?_
              go_wp2_with fail
              simp only [RegT.NP, Exit.then]
              go_wp2_with fail
              refine bodyPost_ret (results_cell2 (s := 2) (t := 3) (b := w.heap.size + 1) rfl Try.underlying58 hi rfl hB6 (by rw [hz1]; rfl) rfl) rfl ⟨?_, ?_⟩
              · rw [HM0.out, HM1.out, HM2.out, HM3.out, HM4.out]; rw [HE.out]; rfl
              · exact hbut.below (Nat.le_succ _) (hB0.trans ((hb4.mono hB0.size).trans ((hI.to hRl).mono (Nat.le_succ _))))
            · have hne : (s.ab != 1) = true := by simpa using he
              have HE := Lib.hid hne
              clear he hne
              go_wp2_with (first | (go_at_call 38; refine (q0 _).mono ?_; rintro e w1 ⟨rfl, hb1⟩; have hS1 := hS.below hb1; have k3 := hS1.cell 3 s.at3) | (go_at_call 140; refine (q1 _).mono ?_; rintro e w2 ⟨rfl, hb2p⟩; have hb2 := hb1.trans (hb2p.mono hb1.size); have hS2 := hS.below hb2; have k5 := hS2.cell 5 s.at5; have k6 := hS2.cell 6 s.at6; have k7 := hS2.cell 7 s.at7; have k8 := hS2.cell 8 s.at8) | (go_at_call 21; refine (q2 _ hb2).mono ?_; rintro e w3 ⟨rfl, hb3p⟩; have hb3 := hb2.trans (hb3p.mono hb2.size); have hS3 := hS.below hb3; have k9 := hS3.cell 9 s.at9; have k10 := hS3.cell 10 s.at10; have k11 := hS3.cell 11 s.at11; have k12 := hS3.cell 12 s.at12) | (go_at_call 62; refine (q3 _ hb3).mono ?_; rintro e w4 ⟨rfl, hb4p⟩; have hb4 := hb3.trans (hb4p.mono hb3.size); have hS4 := hS.below hb4))
              have hR1 := hR0.below hb4
              have hRl : w.heap.size + 1 < w4.heap.size := hR1.lt
              have c1 := fun p : RegQ.Reb 17 => RegQ.cell_reb (U := 58) hRl (hS4.cell 1 s.at1) (Nat.ne_of_lt (Nat.lt_succ_self _)) p
              have c3 := fun p : RegQ.Reb 17 => RegQ.cell_reb (U := 58) hRl (hS4.cell 3 s.at3) (Nat.ne_of_lt (Nat.lt_succ_self _)) p
              have c5 := fun p : RegQ.Reb 17 => RegQ.cell_reb (U := 58) hRl (hS4.cell 5 s.at5) (Nat.ne_of_lt (Nat.lt_succ_self _)) p
              have c6 := fun p : RegQ.Reb 17 => RegQ.cell_reb (U := 58) hRl (hS4.cell 6 s.at6) (Nat.ne_of_lt (Nat.lt_succ_self _)) p
              have c7 := fun p : RegQ.Reb 17 => RegQ.cell_reb (U := 58) hRl (hS4.cell 7 s.at7) (Nat.ne_of_lt (Nat.lt_succ_self _)) p
              have c8 := fun p : RegQ.Reb 17 => RegQ.cell_reb (U := 58) hRl (hS4.cell 8 s.at8) (Nat.ne_of_lt (Nat.lt_succ_self _)) p
              have c9 := fun p : RegQ.Reb 17 => RegQ.cell_reb (U := 58) hRl (hS4.cell 9 s.at9) (Nat.ne_of_lt (Nat.lt_succ_self _)) p
              have c10 := fun p : RegQ.Reb 17 => RegQ.cell_reb (U := 58) hRl (hS4.cell 10 s.at10) (Nat.ne_of_lt (Nat.lt_succ_self _)) p
              have c11 := fun p : RegQ.Reb 17 => RegQ.cell_reb (U := 58) hRl (hS4.cell 11 s.at11) (Nat.ne_of_lt (Nat.lt_succ_self _)) p
              have c12 := fun p : RegQ.Reb 17 => RegQ.cell_reb (U := 58) hRl (hS4.cell 12 s.at12) (Nat.ne_of_lt (Nat.lt_succ_self _)) p
              have cQ := fun p : RegQ.Reb 17 => RegQ.calls_reb (U := 58) hRl (none_any (RegQ.rebW w4 (w.heap.size + 1) 58 p) ((Hb.out.keep (fun b hb => (hB0.trans (hb4.mono hB0.size)).block b (Nat.lt_of_lt_of_le hb hB))).keep (fun b hb => ((RegQ.rebW_in (U := 58) hRl p).to hRl).block b (Nat.lt_of_lt_of_le hb (Nat.le_succ_of_le hB)))))
              rw [HM4.out] at cQ
              have hq2 := HE.out
              have hq : (s.ab == 1) = false := by simpa using hq2
              clear hS q0 q1 q2 q3 q4
              refine RegQ.region2 (fun w' => ∃ p : RegQ.Reb 17, w' = RegQ.rebW w4 (w.heap.size + 1) 58 p) (fun j => j != 26) [9, 10, 11, 12, 13, 14, 15, 16, 17, 18, 19, 20, 21, 22, 23, 24, 0, 1, 2, 3, 4, 5, 6, 7, 8] [9, 10, 11, 12, 13, 0, 1, 2, 3, 4, 5, 6, 7, 8] [25, 26] [_, _, _, _, _, _, _, _, _, _, _, _, _, _, _, _, _, _, _, _, _, _, _, _, _] rfl rfl (by kernel_rfl) (by kernel_rfl) (by kernel_rfl) (by kernel_rfl) (by kernel_rfl) (by kernel_rfl) ((RegQ.inReb'_iff hRl).2 (RegQ.InReb.drew hR1 rfl)) ?_
              simp only [List.getElem_toArray, List.getElem_cons_zero, List.getElem_cons_succ]
              repeat (quiet_step (exact cQ _))
              refine wpQuiet_nil ?_
              rintro w5 ⟨pr, rfl⟩
              have hI := RegQ.rebW_in (U := 58) hRl pr
              obtain ⟨cur, hcn, hcur⟩ := hI.blk
              refine RegT.seqT_held rfl ?_
              refine wpList_store_blk rfl 58 (.tmp 2) (.tmp 31) rfl i0 hi (w.heap.size + 1) ({ SV.zero with nm := s.nm, ab := s.ab, a0 := s.a0, a1 := s.a1, a2 := s.a2, aA := s.aA, al := s.al, ac := s.ac, b0 := s.b0, b1 := s.b1, b2 := s.b2, bA := s.bA, bl := s.bl, bc := s.bc } : SV).arr rfl rfl 58 cur hcur (by rw [hz1]; rfl) (hcn.trans rfl) (SV.one _) ?_
              intro w6 hB6 hbut
              simp only [wpList, Exit.then]
              refine ⟨RegQ.reb_of hRl (hI.but hbut hB6 rfl), ?_⟩
              refine RegT.seqT_tail [26] [_] rfl rfl _ _ ?_
              go_wp2_with fail
              simp only [RegT.NP, Exit.then]
              go_wp2_with fail
              refine bodyPost_ret (results_cell2 (s := 2) (t := 3) (b := w.heap.size + 1) rfl Try.underlying58 hi rfl hB6 (by rw [hz1]; rfl) rfl) rfl ⟨?_, ?_⟩
              · rw [HM0.out, HM1.out, HM2.out, HM3.out, HM4.out]; rw [HE.out]; simp
              · exact hbut.below (Nat.le_succ _) (hB0.trans ((hb4.mono hB0.size).trans ((hI.to hRl).mono (Nat.le_succ _))))
          · have HM4 := Lib.hid hm4
            rw [hm4] at q4
            clear hm4
            go_wp2_with (first | (go_at_call 38; refine (q0 _).mono ?_; rintro e w1 ⟨rfl, hb1⟩; have hS1 := hS.below hb1; have k3 := hS1.cell 3 s.at3) | (go_at_call 140; refine (q1 _).mono ?_; rintro e w2 ⟨rfl, hb2p⟩; have hb2 := hb1.trans (hb2p.mono hb1.size); have hS2 := hS.below hb2; have k5 := hS2.cell 5 s.at5; have k6 := hS2.cell 6 s.at6; have k7 := hS2.cell 7 s.at7; have k8 := hS2.cell 8 s.at8) | (go_at_call 21; refine (q2 _ hb2).mono ?_; rintro e w3 ⟨rfl, hb3p⟩; have hb3 := hb2.trans (hb3p.mono hb2.size); have hS3 := hS.below hb3; have k9 := hS3.cell 9 s.at9; have k10 := hS3.cell 10 s.at10; have k11 := hS3.cell 11 s.at11; have k12 := hS3.cell 12 s.at12) | (go_at_call 62; refine (q3 _ hb3).mono ?_; rintro e w4 ⟨rfl, hb4p⟩; have hb4 := hb3.trans (hb4p.mono hb3.size); have hS4 := hS.below hb4))
            have hR1 := hR0.below hb4
            have hRl : w.heap.size + 1 < w4.heap.size := hR1.lt
            have c1 := fun p : RegQ.Reb 17 => RegQ.cell_reb (U := 58) hRl (hS4.cell 1 s.at1) (Nat.ne_of_lt (Nat.lt_succ_self _)) p
            have c3 := fun p : RegQ.Reb 17 => RegQ.cell_reb (U := 58) hRl (hS4.cell 3 s.at3) (Nat.ne_of_lt (Nat.lt_succ_self _)) p
            have c5 := fun p : RegQ.Reb 17 => RegQ.cell_reb (U := 58) hRl (hS4.cell 5 s.at5) (Nat.ne_of_lt (Nat.lt_succ_self _)) p
            have c6 := fun p : RegQ.Reb 17 => RegQ.cell_reb (U := 58) hRl (hS4.cell 6 s.at6) (Nat.ne_of_lt (Nat.lt_succ_self _)) p
            have c7 := fun p : RegQ.Reb 17 => RegQ.cell_reb (U := 58) hRl (hS4.cell 7 s.at7) (Nat.ne_of_lt (Nat.lt_succ_self _)) p
            have c8 := fun p : RegQ.Reb 17 => RegQ.cell_reb (U := 58) hRl (hS4.cell 8 s.at8) (Nat.ne_of_lt (Nat.lt_succ_self _)) p
            have c9 := fun p : RegQ.Reb 17 => RegQ.cell_reb (U := 58) hRl (hS4.cell 9 s.at9) (Nat.ne_of_lt (Nat.lt_succ_self _)) p
            have c10 := fun p : RegQ.Reb 17 => RegQ.cell_reb (U := 58) hRl (hS4.cell 10 s.at10) (Nat.ne_of_lt (Nat.lt_succ_self _)) p
            have c11 := fun p : RegQ.Reb 17 => RegQ.cell_reb (U := 58) hRl (hS4.cell 11 s.at11) (Nat.ne_of_lt (Nat.lt_succ_self _)) p
            have c12 := fun p : RegQ.Reb 17 => RegQ.cell_reb (U := 58) hRl (hS4.cell 12 s.at12) (Nat.ne_of_lt (Nat.lt_succ_self _)) p
            have cQ := fun p : RegQ.Reb 17 => RegQ.calls_reb (U := 58) hRl (none_any (RegQ.rebW w4 (w.heap.size + 1) 58 p) ((Hb.out.keep (fun b hb => (hB0.trans (hb4.mono hB0.size)).block b (Nat.lt_of_lt_of_le hb hB))).keep (fun b hb => ((RegQ.rebW_in (U := 58) hRl p).to hRl).block b (Nat.lt_of_lt_of_le hb (Nat.le_succ_of_le hB)))))
            rw [HM4.out] at cQ
            clear hS q0 q1 q2 q3 q4
            refine RegQ.region2 (fun w' => ∃ p : RegQ.Reb 17, w' = RegQ.rebW w4 (w.heap.size + 1) 58 p) (fun j => j != 26) [9, 10, 11, 12, 13, 14, 15, 16, 17, 18, 19, 20, 21, 22, 23, 24, 0, 1, 2, 3, 4, 5, 6, 7, 8] [9, 10, 11, 12, 13, 0, 1, 2, 3, 4, 5, 6, 7, 8] [25, 26] [_, _, _, _, _, _, _, _, _, _, _, _, _, _, _, _, _, _, _, _, _, _, _, _, _] rfl rfl (by kernel_rfl) (by kernel_rfl) (by kernel_rfl) (by kernel_rfl) (by kernel_rfl) (by kernel_rfl) ((RegQ.inReb'_iff hRl).2 (RegQ.InReb.drew hR1 rfl)) ?_
            simp only [List.getElem_toArray, List.getElem_cons_zero, List.getElem_cons_succ]
            repeat (quiet_step (exact cQ _))
            refine wpQuiet_nil ?_
            rintro w5 ⟨pr, rfl⟩
            have hI := RegQ.rebW_in (U := 58) hRl pr
            obtain ⟨cur, hcn, hcur⟩ := hI.blk
            refine RegT.seqT_held rfl ?_
            refine wpList_store_blk rfl 58 (.tmp 2) (.tmp 31) rfl i0 hi (w.heap.size + 1) ({ SV.zero with nm := s.nm, ab := s.ab, a0 := s.a0, a1 := s.a1, a2 := s.a2, aA := s.aA, al := s.al, ac := s.ac, b0 := s.b0, b1 := s.b1, b2 := s.b2, bA := s.bA, bl := s.bl, bc := s.bc } : SV).arr rfl rfl 58 cur hcur (by rw [hz1]; rfl) (hcn.trans rfl) (SV.one _) ?_
            intro w6 hB6 hbut
            simp only [wpList, Exit.then]
            refine ⟨RegQ.reb_of hRl (hI.but hbut hB6 rfl), ?_⟩
            refine RegT.seqT_tail [26] [_] rfl rfl _ _ ?_
            go_wp2_with fail
            simp only [RegT.NP, Exit.then]
            go_wp2_with fail
            refine bodyPost_ret (results_cell2 (s := 2) (t := 3) (b := w.heap.size + 1) rfl Try.underlying58 hi rfl hB6 (by rw [hz1]; rfl) rfl) rfl ⟨?_, ?_⟩
            · rw [HM0.out, HM1.out, HM2.out, HM3.out, HM4.out]; rfl
            · exact hbut.below (Nat.le_succ _) (hB0.trans ((hb4.mono hB0.size).trans ((hI.to hRl).mono (Nat.le_succ _))))
end Go.Proofs.Ytnknefdpglnbnaa
