/- The program's copy of a statement, and of a code, walked. -/
import Derived.Test.YtnknefdpglnbnaaDd
namespace Go.Proofs.Ytnknefdpglnbnaa
open Go.RowKit
attribute [local go_sem] SV.g0 SV.g1 SV.g2 SV.g3 SV.g4 SV.g5 SV.g6 SV.g7 SV.g8 SV.g9 SV.g10 SV.g11 SV.g12 SV.g13 SV.g14 SV.g15 SV.g16
attribute [local irreducible] RegT.seqT RegT.seqM wpList
set_option maxRecDepth 100000 in
set_option maxHeartbeats 4000000 in
theorem ownStmt93_step (op : Int) (nm sec : ByteArray) (ab wh : Int) (xa xb : Ex) (t e c : List St) (ws : List ByteArray) (it : CodeOwnC t) (ie : CodeOwnC e) (ic : CodeOwnC c) : StmtOwnC (.mk op nm sec ab wh xa xb t e c ws) := by
  intro w B s hs hB
  obtain ⟨i0, hi, hz0, hz1, hz2⟩ := info_parts info58
  obtain ⟨i26, hi26', _, hi26, _⟩ := info_parts info26
  obtain ⟨i42, hi42', _, hi42, _⟩ := info_parts info42
  obtain ⟨i56, hi56', _, hi56, _⟩ := info_parts info56
  have HIN := Lib.hid hi
  have HI26 := Lib.hid hi26'
  have HI42 := Lib.hid hi42'
  have HI56 := Lib.hid hi56'
  have HT := Lib.hid it
  have HE := Lib.hid ie
  have HC := Lib.hid ic
  have HS := Lib.hid hs
  clear hi hi26' hi42' hi56' it ie ic hs
  go_enter Try.func93, Try.ntmps93
  go_upto_region 1 with (fail)
  obtain ⟨w1, hw1⟩ : ∃ w1, w1 = (w.alloc (.cells s.arr 58)).alloc (.cells #[.int .u8 0, .string ⟨#[]⟩, .string ⟨#[]⟩, .int .u8 0, .int .u8 0, .int .u8 0, .int .i64 0, .string ⟨#[]⟩, .slice Option.none 0 0, .int .u8 0, .int .i64 0, .string ⟨#[]⟩, .slice Option.none 0 0, .slice Option.none 0 0, .slice Option.none 0 0, .slice Option.none 0 0, .slice Option.none 0 0] 58) := ⟨_, rfl⟩
  have hB1 : BlkN w1 w.heap.size 58 s.arr := by rw [hw1]; exact (BlkN.at_ rfl _ _).alloc _
  have hR1 : BlkN w1 (w.heap.size + 1) 58 SV.zero.arr := by rw [hw1]; exact BlkN.at_ (by simp) 58 SV.zero.arr
  have hb1 : Below w.heap.size w w1 := by rw [hw1]; exact ((Below.refl _ _).alloc (Nat.le_refl _) _).alloc (by simp) _
  have hsz1 : w1.heap.size = w.heap.size + 2 := by rw [hw1]; simp
  rw [← hw1]
  obtain ⟨p, hp⟩ : ∃ p, p = w.heap.size := ⟨_, rfl⟩
  rw [← hp] at hB1 hR1 ⊢
  have hpw1 : p < w1.heap.size := by omega
  have hqw1 : p + 1 < w1.heap.size := by omega
  have HP := Lib.hid hp
  have HB1 := Lib.hid hB1
  have HR1 := Lib.hid hR1
  have HBR1 := Lib.hid hb1
  clear hB1 hR1 hb1 hp hw1
  have ca : ∀ w', Below w1.heap.size w1 w' → Calls Try.prog 125 #[.agg #[.int .u8 s.a0, .int .i64 s.a1, .string s.a2, .slice s.aA s.al s.ac]] w' fun e w'' => ∃ v', e = .returned v' ∧ IsExR w'' (OwnU w'.heap.size w'') v' xa ∧ Below w'.heap.size w' w'' :=
    fun w' hb => ownExpr125_any xa w' B _ (IsEx.keep (B := B) (fun b hb' => (bnext HBR1.out hb).block b (by omega)) HS.out.form.2.2.1) (by have := hb.size; omega)
  have cb : ∀ w', Below w1.heap.size w1 w' → Calls Try.prog 125 #[.agg #[.int .u8 s.b0, .int .i64 s.b1, .string s.b2, .slice s.bA s.bl s.bc]] w' fun e w'' => ∃ v', e = .returned v' ∧ IsExR w'' (OwnU w'.heap.size w'') v' xb ∧ Below w'.heap.size w' w'' :=
    fun w' hb => ownExpr125_any xb w' B _ (IsEx.keep (B := B) (fun b hb' => (bnext HBR1.out hb).block b (by omega)) HS.out.form.2.2.2.1) (by have := hb.size; omega)
  have HCA := Lib.hid ca
  have HCB := Lib.hid cb
  clear ca cb
  refine RegT.region_mix (fun i => Nat.ble i 5) (fun W => BlkN W p 58 s.arr) [(true, 0), (true, 1), (true, 3), (true, 4), (false, 2), (true, 6), (false, 5), (false, 7), (false, 8), (false, 9)] rfl (by kernel_rfl) (by kernel_rfl) (by decide) ?_
  have hS0 : BlkN w1.drew p 58 s.arr := HB1.out
  refine RegT.seqM_quiet hS0 rfl (fun _ _ _ h => h) (by kernel_rfl) (v := .pointer (some ⟨p, 5, Option.none⟩)) (fun w' hS => ?_) ?_
  · go_simp
  refine RegT.seqM_quiet hS0 rfl (fun _ _ _ h => h) (by kernel_rfl) (v := .agg #[.int .u8 s.a0, .int .i64 s.a1, .string s.a2, .slice s.aA s.al s.ac]) (fun w' hS => ?_) ?_
  · have hS : BlkN w' p 58 s.arr := hS; have t5 := hS.cell 5 s.at5; have t6 := hS.cell 6 s.at6; have t7 := hS.cell 7 s.at7; have t8 := hS.cell 8 s.at8; go_simp
  refine RegT.seqM_quiet hS0 rfl (fun _ _ _ h => h) (by kernel_rfl) (v := .pointer (some ⟨p, 9, Option.none⟩)) (fun w' hS => ?_) ?_
  · go_simp
  refine RegT.seqM_quiet hS0 rfl (fun _ _ _ h => h) (by kernel_rfl) (v := .agg #[.int .u8 s.b0, .int .i64 s.b1, .string s.b2, .slice s.bA s.bl s.bc]) (fun w' hS => ?_) ?_
  · have hS : BlkN w' p 58 s.arr := hS; have t9 := hS.cell 9 s.at9; have t10 := hS.cell 10 s.at10; have t11 := hS.cell 11 s.at11; have t12 := hS.cell 12 s.at12; go_simp
  refine RegT.seqM_held rfl ?_
  have HD : Hid (Below w1.heap.size w1 w1.drew) := Lib.hid ((Below.refl _ _).drew)
  go_wp2_with (go_at_call 125; refine (HCA.out _ HD.out).mono ?_; rintro e2 w2 ⟨v2, rfl, hx2, hb2⟩; obtain ⟨k2, n2, z2, A2, len2, cap2, rfl⟩ := hx2.shape)
  have hb12 : Below w1.heap.size w1 w2 := bnext HD.out hb2
  have hS2 : BlkN w2 p 58 s.arr := HB1.out.below hb12
  have HX2 : Hid (IsExR w2 (OwnU w1.heap.size w2) (.agg #[.int .u8 k2, .int .i64 n2, .string z2, .slice A2 len2 cap2]) xa) := Lib.hid hx2
  have HB12 := Lib.hid hb12
  clear hb2 hx2 hb12
  refine ⟨hS2, ?_⟩
  refine RegT.seqM_quiet hS2 rfl (fun _ _ _ h => h) (by kernel_rfl) (v := .pointer (some ⟨p, 5, Option.none⟩)) (fun w' hS => ?_) ?_
  · go_simp
  refine RegT.seqM_held rfl ?_
  go_wp2_with (go_at_call 125; refine (HCB.out _ HB12.out).mono ?_; rintro e3 w3 ⟨v3, rfl, hx3, hb3⟩; obtain ⟨k3, n3, z3, A3, len3, cap3, rfl⟩ := hx3.shape)
  have hS3 : BlkN w3 p 58 s.arr := hS2.below hb3
  have hw12 : w1.heap.size ≤ w2.heap.size := HB12.out.size
  have hw23 : w2.heap.size ≤ w3.heap.size := hb3.size
  have HX3 : Hid (IsExR w3 (OwnU w1.heap.size w3) (.agg #[.int .u8 k3, .int .i64 n3, .string z3, .slice A3 len3 cap3]) xb) := Lib.hid (exU.low hx3 hw12)
  have HX2' : Hid (IsExR w3 (OwnU w1.heap.size w3) (.agg #[.int .u8 k2, .int .i64 n2, .string z2, .slice A2 len2 cap2]) xa) := Lib.hid (exU HX2.out (Upd.ofBelow hb3 p) hpw1)
  have HB13 := Lib.hid (bnext HB12.out hb3)
  clear hb3 hx3 HX2 HB12 hS0 hS2 HD HCA HCB
  refine ⟨hS3, RegT.seqM_free rfl rfl ?_⟩
  refine wpList_store_part rfl 26 (.tmp 9) (.tmp 5) rfl i26 HI26.out p 5 (.agg #[.int .u8 k2, .int .i64 n2, .string z2, .slice A2 len2 cap2]) [.int .u8 k2, .int .i64 n2, .string z2, .slice A2 len2 cap2] rfl rfl rfl 58 s.arr ({ s with a0 := k2, a1 := n2, a2 := z2, aA := A2, al := len2, ac := cap2 } : SV).arr hS3 (by rw [hi26]; rfl) (show _ ≤ 17 by simp) (by intro u hu; simp only [List.mem_cons, List.not_mem_nil, or_false] at hu; rcases hu with rfl | rfl | rfl | rfl <;> rfl) rfl ?_
  intro w4 hB4 hbut4
  refine RegT.wpList_end (RegT.seqM_free rfl rfl ?_)
  go_wp2_with fail
  refine RegT.seqM_free rfl rfl ?_
  refine wpList_store_part rfl 26 (.tmp 10) (.tmp 8) rfl i26 HI26.out p 9 (.agg #[.int .u8 k3, .int .i64 n3, .string z3, .slice A3 len3 cap3]) [.int .u8 k3, .int .i64 n3, .string z3, .slice A3 len3 cap3] rfl rfl rfl 58 _ ({ s with a0 := k2, a1 := n2, a2 := z2, aA := A2, al := len2, ac := cap2, b0 := k3, b1 := n3, b2 := z3, bA := A3, bl := len3, bc := cap3 } : SV).arr hB4 (by rw [hi26]; rfl) (show _ ≤ 17 by simp) (by intro u hu; simp only [List.mem_cons, List.not_mem_nil, or_false] at hu; rcases hu with rfl | rfl | rfl | rfl <;> rfl) rfl ?_
  intro w5 hB5 hbut5
  refine RegT.wpList_end (RegT.seqM_end ?_)
  simp only [RegT.NP, Exit.then]
  obtain ⟨s5, hs5⟩ : ∃ s5 : SV, s5 = { s with a0 := k2, a1 := n2, a2 := z2, aA := A2, al := len2, ac := cap2, b0 := k3, b1 := n3, b2 := z3, bA := A3, bl := len3, bc := cap3 } := ⟨_, rfl⟩
  rw [← hs5] at hB5
  have hS5 : s5.tA = s.tA ∧ s5.tl = s.tl ∧ s5.tc = s.tc ∧ s5.eA = s.eA ∧ s5.el = s.el ∧ s5.ec = s.ec ∧ s5.cA = s.cA ∧ s5.cl = s.cl ∧ s5.cc = s.cc ∧ s5.wA = s.wA ∧ s5.wl = s.wl ∧ s5.wc = s.wc := by rw [hs5]; exact ⟨rfl, rfl, rfl, rfl, rfl, rfl, rfl, rfl, rfl, rfl, rfl, rfl⟩
  have hF5 : (s5.op = s.op ∧ s5.nm = s.nm ∧ s5.sec = s.sec ∧ s5.ab = s.ab ∧ s5.wh = s.wh) ∧ s5.a = .agg #[.int .u8 k2, .int .i64 n2, .string z2, .slice A2 len2 cap2] ∧ s5.b = .agg #[.int .u8 k3, .int .i64 n3, .string z3, .slice A3 len3 cap3] := by rw [hs5]; exact ⟨⟨rfl, rfl, rfl, rfl, rfl⟩, rfl, rfl⟩
  have HS5 := Lib.hid hS5
  have HF5 := Lib.hid hF5
  have hu35 : Upd p w3 w5 := hbut4.toUpd.trans hbut5.toUpd
  have HXA : Hid (IsExR w5 (OwnU w1.heap.size w5) s5.a xa) := Lib.hid (by rw [hF5.2.1]; exact exU HX2'.out hu35 hpw1)
  have HXB : Hid (IsExR w5 (OwnU w1.heap.size w5) s5.b xb) := Lib.hid (by rw [hF5.2.2]; exact exU HX3.out hu35 hpw1)
  have hb15 : Below w.heap.size w w5 := hbut5.below (by rw [HP.out]; exact Nat.le_refl _) (hbut4.below (by rw [HP.out]; exact Nat.le_refl _) (bnext HBR1.out HB13.out))
  have HBR5 := Lib.hid hb15
  have hw15 : w1.heap.size ≤ w5.heap.size := Nat.le_trans HB13.out.size hu35.size
  have HB5 := Lib.hid hB5
  have hpw5 := hB5.lt
  have HR5 : Hid (BlkN w5 (p + 1) 58 SV.zero.arr) := Lib.hid ((hbut5.other _ (by omega)).trans ((hbut4.other _ (by omega)).trans (HR1.out.below HB13.out)))
  clear hs5 hS5 hF5 hbut4 hbut5 hB4 hB5 hu35 hb15 HX2' HX3 hS3 HB13 hw12 hw23 HR1
  have hk5 : ∀ w', Below w5.heap.size w5 w' → ∀ b, b < B → w'.heap[b]? = w.heap[b]? := fun w' hb b hb' => (bnext HBR5.out hb).block b (by omega)
  have ct : ∀ w', Below w5.heap.size w5 w' → Calls Try.prog 95 #[.slice s5.tA s5.tl s5.tc] w' fun r w'' => ∃ A' cap', r = .returned (.slice A' t.length cap') ∧ LR (OwnU w'.heap.size w'') 256 A' t.length cap' t (fun b o => IsStsR w'' (OwnU w'.heap.size w'') b o t) ∧ Below w'.heap.size w' w'' := fun w' hb => by
    rw [HS5.out.1, HS5.out.2.1, HS5.out.2.2.1]
    exact HT.out w' B _ _ _ ((HS.out.form.2.2.2.2.1).imp fun b o hr hp => ⟨hr, IsSts.keep (hk5 w' hb) hr hp⟩) (by have := HBR5.out.size; have := hb.size; omega)
  have HCT := Lib.hid ct
  have ce : ∀ w', Below w5.heap.size w5 w' → Calls Try.prog 95 #[.slice s5.eA s5.el s5.ec] w' fun r w'' => ∃ A' cap', r = .returned (.slice A' e.length cap') ∧ LR (OwnU w'.heap.size w'') 256 A' e.length cap' e (fun b o => IsStsR w'' (OwnU w'.heap.size w'') b o e) ∧ Below w'.heap.size w' w'' := fun w' hb => by
    rw [HS5.out.2.2.2.1, HS5.out.2.2.2.2.1, HS5.out.2.2.2.2.2.1]
    exact HE.out w' B _ _ _ ((HS.out.form.2.2.2.2.2.1).imp fun b o hr hp => ⟨hr, IsSts.keep (hk5 w' hb) hr hp⟩) (by have := HBR5.out.size; have := hb.size; omega)
  have HCE := Lib.hid ce
  have cc : ∀ w', Below w5.heap.size w5 w' → Calls Try.prog 95 #[.slice s5.cA s5.cl s5.cc] w' fun r w'' => ∃ A' cap', r = .returned (.slice A' c.length cap') ∧ LR (OwnU w'.heap.size w'') 256 A' c.length cap' c (fun b o => IsStsR w'' (OwnU w'.heap.size w'') b o c) ∧ Below w'.heap.size w' w'' := fun w' hb => by
    rw [HS5.out.2.2.2.2.2.2.1, HS5.out.2.2.2.2.2.2.2.1, HS5.out.2.2.2.2.2.2.2.2.1]
    exact HC.out w' B _ _ _ ((HS.out.form.2.2.2.2.2.2.1).imp fun b o hr hp => ⟨hr, IsSts.keep (hk5 w' hb) hr hp⟩) (by have := HBR5.out.size; have := hb.size; omega)
  have HCC := Lib.hid cc
  clear ct ce cc hk5 HT HE HC
  go_upto_region 2 with (fail)
  refine RegT.region_mix (fun i => Nat.ble i 8) (fun W => BlkN W p 58 s5.arr) [(true, 0), (true, 1), (true, 3), (true, 4), (true, 6), (true, 7), (false, 2), (true, 9), (false, 5), (false, 8), (false, 10), (false, 11), (false, 12), (false, 13), (false, 14)] rfl (by kernel_rfl) (by kernel_rfl) (by decide) ?_
  have hS0 : BlkN w5.drew p 58 s5.arr := HB5.out
  refine RegT.seqM_quiet hS0 rfl (fun _ _ _ h => h) (by kernel_rfl) (v := .pointer (some ⟨p, 13, Option.none⟩)) (fun w' hS => ?_) ?_
  · go_simp
  refine RegT.seqM_quiet hS0 rfl (fun _ _ _ h => h) (by kernel_rfl) (v := .slice s5.tA s5.tl s5.tc) (fun w' hS => ?_) ?_
  · have hS : BlkN w' p 58 s5.arr := hS; have t13 := hS.cell 13 s5.at13; go_simp
  refine RegT.seqM_quiet hS0 rfl (fun _ _ _ h => h) (by kernel_rfl) (v := .pointer (some ⟨p, 14, Option.none⟩)) (fun w' hS => ?_) ?_
  · go_simp
  refine RegT.seqM_quiet hS0 rfl (fun _ _ _ h => h) (by kernel_rfl) (v := .slice s5.eA s5.el s5.ec) (fun w' hS => ?_) ?_
  · have hS : BlkN w' p 58 s5.arr := hS; have t14 := hS.cell 14 s5.at14; go_simp
  refine RegT.seqM_quiet hS0 rfl (fun _ _ _ h => h) (by kernel_rfl) (v := .pointer (some ⟨p, 15, Option.none⟩)) (fun w' hS => ?_) ?_
  · go_simp
  refine RegT.seqM_quiet hS0 rfl (fun _ _ _ h => h) (by kernel_rfl) (v := .slice s5.cA s5.cl s5.cc) (fun w' hS => ?_) ?_
  · have hS : BlkN w' p 58 s5.arr := hS; have t15 := hS.cell 15 s5.at15; go_simp
  have HD : Hid (Below w5.heap.size w5 w5.drew) := Lib.hid ((Below.refl _ _).drew)
  refine RegT.seqM_held rfl ?_
  go_wp2_with (go_at_call 95; with_reducible refine (HCT.out _ HD.out).mono ?_; rintro r6 w6 ⟨A6, cap6, rfl, hx6, hb6⟩)
  have hb56 : Below w5.heap.size w5 w6 := bnext HD.out hb6
  have hS6 : BlkN w6 p 58 s5.arr := HB5.out.below hb56
  have HX6 : Hid (LR (OwnU w5.heap.size w6) 256 A6 t.length cap6 t (fun b o => IsStsR w6 (OwnU w5.heap.size w6) b o t)) := Lib.hid hx6
  have HB56 := Lib.hid hb56
  have h56 := hb56.size
  clear hx6 hb6 hb56 hS0
  refine ⟨hS6, ?_⟩
  refine RegT.seqM_quiet hS6 rfl (fun _ _ _ h => h) (by kernel_rfl) (v := .pointer (some ⟨p, 13, Option.none⟩)) (fun w' hS => ?_) ?_
  · go_simp
  refine RegT.seqM_held rfl ?_
  go_wp2_with (go_at_call 95; with_reducible refine (HCE.out _ HB56.out).mono ?_; rintro r7 w7 ⟨A7, cap7, rfl, hx7, hb7⟩)
  have hS7 : BlkN w7 p 58 s5.arr := hS6.below hb7
  have HX7 : Hid (LR (OwnU w5.heap.size w7) 256 A7 e.length cap7 e (fun b o => IsStsR w7 (OwnU w5.heap.size w7) b o e)) := Lib.hid (lrU.low hx7 h56)
  have HX6' : Hid (LR (OwnU w5.heap.size w7) 256 A6 t.length cap6 t (fun b o => IsStsR w7 (OwnU w5.heap.size w7) b o t)) := Lib.hid (lrU HX6.out (Upd.ofBelow hb7 p) hpw5)
  have HB57 := Lib.hid (bnext HB56.out hb7)
  have h57 := HB57.out.size
  clear hx7 hb7 HX6 HB56 hS6 HCT
  refine ⟨hS7, ?_⟩
  refine RegT.seqM_held rfl ?_
  go_wp2_with (go_at_call 95; with_reducible refine (HCC.out _ HB57.out).mono ?_; rintro r8 w8 ⟨A8, cap8, rfl, hx8, hb8⟩)
  have hS8 : BlkN w8 p 58 s5.arr := hS7.below hb8
  have HX8 : Hid (LR (OwnU w5.heap.size w8) 256 A8 c.length cap8 c (fun b o => IsStsR w8 (OwnU w5.heap.size w8) b o c)) := Lib.hid (lrU.low hx8 h57)
  have HX7' : Hid (LR (OwnU w5.heap.size w8) 256 A7 e.length cap7 e (fun b o => IsStsR w8 (OwnU w5.heap.size w8) b o e)) := Lib.hid (lrU HX7.out (Upd.ofBelow hb8 p) hpw5)
  have HX6 : Hid (LR (OwnU w5.heap.size w8) 256 A6 t.length cap6 t (fun b o => IsStsR w8 (OwnU w5.heap.size w8) b o t)) := Lib.hid (lrU HX6'.out (Upd.ofBelow hb8 p) hpw5)
  have HB58 := Lib.hid (bnext HB57.out hb8)
  clear hx8 hb8 HX6' HX7 HB57 hS7 HCE HCC HD
  refine ⟨hS8, ?_⟩
  refine RegT.seqM_free rfl rfl ?_
  refine wpList_store_part rfl 42 (.tmp 20) (.tmp 13) rfl i42 HI42.out p 13 (.slice A6 t.length cap6) [.slice A6 t.length cap6] rfl rfl rfl 58 s5.arr ({ s5 with tA := A6, tl := t.length, tc := cap6 } : SV).arr hS8 (by rw [hi42]; rfl) (show _ ≤ 17 by simp) (by intro u hu; simp only [List.mem_cons, List.not_mem_nil, or_false] at hu; rcases hu with rfl; rfl) rfl ?_
  intro w9 hB9 hbut9
  refine RegT.wpList_end (RegT.seqM_free rfl rfl ?_)
  go_wp2_with fail
  refine RegT.seqM_free rfl rfl ?_
  refine wpList_store_part rfl 42 (.tmp 21) (.tmp 16) rfl i42 HI42.out p 14 (.slice A7 e.length cap7) [.slice A7 e.length cap7] rfl rfl rfl 58 _ ({ s5 with tA := A6, tl := t.length, tc := cap6, eA := A7, el := e.length, ec := cap7 } : SV).arr hB9 (by rw [hi42]; rfl) (show _ ≤ 17 by simp) (by intro u hu; simp only [List.mem_cons, List.not_mem_nil, or_false] at hu; rcases hu with rfl; rfl) rfl ?_
  intro w10 hB10 hbut10
  refine RegT.wpList_end (RegT.seqM_free rfl rfl ?_)
  go_wp2_with fail
  refine RegT.seqM_free rfl rfl ?_
  refine wpList_store_part rfl 42 (.tmp 22) (.tmp 19) rfl i42 HI42.out p 15 (.slice A8 c.length cap8) [.slice A8 c.length cap8] rfl rfl rfl 58 _ ({ s5 with tA := A6, tl := t.length, tc := cap6, eA := A7, el := e.length, ec := cap7, cA := A8, cl := c.length, cc := cap8 } : SV).arr hB10 (by rw [hi42]; rfl) (show _ ≤ 17 by simp) (by intro u hu; simp only [List.mem_cons, List.not_mem_nil, or_false] at hu; rcases hu with rfl; rfl) rfl ?_
  intro w11 hB11 hbut11
  refine RegT.wpList_end (RegT.seqM_end ?_)
  simp only [RegT.NP, Exit.then]
  obtain ⟨s11, hs11⟩ : ∃ s11 : SV, s11 = { s5 with tA := A6, tl := t.length, tc := cap6, eA := A7, el := e.length, ec := cap7, cA := A8, cl := c.length, cc := cap8 } := ⟨_, rfl⟩
  rw [← hs11] at hB11
  have hF11 : (s11.op = s.op ∧ s11.nm = s.nm ∧ s11.sec = s.sec ∧ s11.ab = s.ab ∧ s11.wh = s.wh) ∧ s11.a = s5.a ∧ s11.b = s5.b ∧ (s11.tA = A6 ∧ s11.tl = t.length ∧ s11.tc = cap6) ∧ (s11.eA = A7 ∧ s11.el = e.length ∧ s11.ec = cap7) ∧ (s11.cA = A8 ∧ s11.cl = c.length ∧ s11.cc = cap8) ∧ (s11.wA = s.wA ∧ s11.wl = s.wl ∧ s11.wc = s.wc) := by
    rw [hs11]; exact ⟨HF5.out.1, rfl, rfl, ⟨rfl, rfl, rfl⟩, ⟨rfl, rfl, rfl⟩, ⟨rfl, rfl, rfl⟩, HS5.out.2.2.2.2.2.2.2.2.2⟩
  have HF11 := Lib.hid hF11
  have hu811 : Upd p w8 w11 := (hbut9.toUpd.trans hbut10.toUpd).trans hbut11.toUpd
  have hu511 : Upd p w5 w11 := (Upd.ofBelow HB58.out p).trans hu811
  have HXA' : Hid (IsExR w11 (OwnU w1.heap.size w11) s5.a xa) := Lib.hid (exU HXA.out hu511 hpw1)
  have HXB' : Hid (IsExR w11 (OwnU w1.heap.size w11) s5.b xb) := Lib.hid (exU HXB.out hu511 hpw1)
  have HXT : Hid (LR (OwnU w1.heap.size w11) 256 A6 t.length cap6 t (fun b o => IsStsR w11 (OwnU w1.heap.size w11) b o t)) := Lib.hid (lrU.low (lrU HX6.out hu811 hpw5) hw15)
  have HXE' : Hid (LR (OwnU w1.heap.size w11) 256 A7 e.length cap7 e (fun b o => IsStsR w11 (OwnU w1.heap.size w11) b o e)) := Lib.hid (lrU.low (lrU HX7'.out hu811 hpw5) hw15)
  have HXC : Hid (LR (OwnU w1.heap.size w11) 256 A8 c.length cap8 c (fun b o => IsStsR w11 (OwnU w1.heap.size w11) b o c)) := Lib.hid (lrU.low (lrU HX8.out hu811 hpw5) hw15)
  have hb11 : Below w.heap.size w w11 := hbut11.below (by rw [HP.out]; exact Nat.le_refl _) (hbut10.below (by rw [HP.out]; exact Nat.le_refl _) (hbut9.below (by rw [HP.out]; exact Nat.le_refl _) (bnext HBR5.out HB58.out)))
  have HBR11 := Lib.hid hb11
  have hw111 : w1.heap.size ≤ w11.heap.size := Nat.le_trans hw15 hu511.size
  have HB11 := Lib.hid hB11
  have hpw11 := hB11.lt
  have HR11 : Hid (BlkN w11 (p + 1) 58 SV.zero.arr) := Lib.hid ((hu811.block _ (by have := HB58.out.size; omega) (by omega)).trans (HR5.out.below HB58.out))
  have q16 := hB11.cell 16 s11.at16
  have cw : Calls Try.prog 126 #[.slice s11.wA s11.wl s11.wc] w11 fun r w'' => ∃ A' cap', r = .returned (.slice A' ws.length cap') ∧ IsSsR w'' (OwnU w11.heap.size w'') (.slice A' ws.length cap') ws ∧ Below w11.heap.size w11 w'' := by
    rw [hF11.2.2.2.2.2.2.1, hF11.2.2.2.2.2.2.2.1, hF11.2.2.2.2.2.2.2.2]
    exact Clone126_any ws s.wA s.wl s.wc w11 B (by have := hb11.size; omega) (IsSsR.keep (fun b _ hl => hb11.block b (by omega)) HS.out.form.2.2.2.2.2.2.2)
  have HCW := Lib.hid cw
  clear hs11 hF11 hu811 hu511 hbut9 hbut10 hbut11 hB9 hB10 hB11 hb11 hS8 HX6 HX7' HX8 HB58 HXA HXB HB5 HS5 HF5 HBR5 hpw5 hw15 h56 h57 cw HR5
  go_upto_region 4 with (first
    | (go_at_call 126; with_reducible refine HCW.out.mono ?_; rintro r12 w12 ⟨A12, cap12, rfl, hss12, hb12⟩)
    | (refine wpList_store_part rfl 56 (.tmp 26) (.tmp 25) rfl i56 HI56.out p 16 (.slice A12 ws.length cap12) [.slice A12 ws.length cap12] rfl rfl rfl 58 s11.arr ({ s11 with wA := A12, wl := ws.length, wc := cap12 } : SV).arr (HB11.out.below hb12) (by rw [hi56]; rfl) (show _ ≤ 17 by simp) (by intro u hu; simp only [List.mem_cons, List.not_mem_nil, or_false] at hu; rcases hu with rfl; rfl) rfl ?_; intro w13 hB13 hbut13))
  obtain ⟨s13, hs13⟩ : ∃ s13 : SV, s13 = { s11 with wA := A12, wl := ws.length, wc := cap12 } := ⟨_, rfl⟩
  rw [← hs13] at hB13
  have hu13 : Upd p w11 w13 := (Upd.ofBelow hb12 p).trans hbut13.toUpd
  have hb13 : Below w.heap.size w w13 := hbut13.below (by rw [HP.out]; exact Nat.le_refl _) (bnext HBR11.out hb12)
  have hR13 : BlkN w13 (p + 1) 58 SV.zero.arr := (hbut13.other _ (by omega)).trans (HR11.out.below hb12)
  have hst : IsStR w13 (OwnU w1.heap.size w13) s13 (.mk op nm sec ab wh xa xb t e c ws) := by
    have hf := HS.out.form
    have hF := HF11.out
    have e1 : s13.op = s11.op ∧ s13.nm = s11.nm ∧ s13.sec = s11.sec ∧ s13.ab = s11.ab ∧ s13.wh = s11.wh ∧ s13.a = s11.a ∧ s13.b = s11.b ∧ s13.tA = s11.tA ∧ s13.tl = s11.tl ∧ s13.tc = s11.tc ∧ s13.eA = s11.eA ∧ s13.el = s11.el ∧ s13.ec = s11.ec ∧ s13.cA = s11.cA ∧ s13.cl = s11.cl ∧ s13.cc = s11.cc ∧ s13.wA = A12 ∧ s13.wl = ws.length ∧ s13.wc = cap12 := by
      rw [hs13]; exact ⟨rfl, rfl, rfl, rfl, rfl, rfl, rfl, rfl, rfl, rfl, rfl, rfl, rfl, rfl, rfl, rfl, rfl, rfl, rfl⟩
    obtain ⟨f1, f2, f3, f4, f5, f6, f7, f8, f9, f10, f11, f12, f13, f14, f15, f16, f17, f18, f19⟩ := e1
    unfold IsStR
    refine ⟨?_, hf.2.1, ?_, ?_, ?_, ?_, ?_, ?_⟩
    · rw [f1, f2, f3, f4, f5, hF.1.1, hF.1.2.1, hF.1.2.2.1, hF.1.2.2.2.1, hF.1.2.2.2.2]; exact hf.1
    · rw [f6, hF.2.1]; exact exU HXA'.out hu13 hpw1
    · rw [f7, hF.2.2.1]; exact exU HXB'.out hu13 hpw1
    · rw [f8, f9, f10, hF.2.2.2.1.1, hF.2.2.2.1.2.1, hF.2.2.2.1.2.2]; exact lrU HXT.out hu13 hpw1
    · rw [f11, f12, f13, hF.2.2.2.2.1.1, hF.2.2.2.2.1.2.1, hF.2.2.2.2.1.2.2]; exact lrU HXE'.out hu13 hpw1
    · rw [f14, f15, f16, hF.2.2.2.2.2.1.1, hF.2.2.2.2.2.1.2.1, hF.2.2.2.2.2.1.2.2]; exact lrU HXC.out hu13 hpw1
    · rw [f17, f18, f19]; exact IsSsR.mono (fun b o hr => hr.low hw111) (ssU hss12 hbut13.toUpd hpw11)
  have hw113 : w1.heap.size ≤ w13.heap.size := Nat.le_trans hw111 hu13.size
  refine wp_region_lit ?_
  refine wpList_load_blk rfl 58 (.tmp 1) rfl ⟨p, 0, Option.none⟩ rfl (.agg s13.arr) (run_loadVar_blk Try.underlying58 HIN.out hB13 (by rw [hz1]; rfl)) ?_
  refine wpList_store_blk rfl 58 (.tmp 2) (.tmp 27) rfl i0 HIN.out (p + 1) s13.arr rfl rfl 58 SV.zero.arr hR13 (by rw [hz1]; rfl) rfl (SV.one _) ?_
  intro w14 hB14 hbut14
  go_wp2_with fail
  refine bodyPost_ret (results_cell1 (s := 2) (b := p + 1) rfl Try.underlying58 HIN.out rfl hB14 (by rw [hz1]; rfl)) rfl ⟨s13, rfl, ?_, hbut14.below (by rw [HP.out]; omega) hb13⟩
  have hup := hbut14.toUpd
  exact IsStR.mono (fun b o hr => (hr.of (hup.block b hr.lt (by have := hr.1; omega))).low (by rw [hsz1]; omega)) (IsStR.keep (fun b o hr => hup.block b hr.lt (by have := hr.1; omega)) hst)
theorem ownStmt93_any (x : St) : StmtOwnC x := by
  induction x using St.ind with
  | h op nm sec ab wh a b t e c ws IHt IHe IHc => exact ownStmt93_step op nm sec ab wh a b t e c ws (own95_step t IHt) (own95_step e IHe) (own95_step c IHc)
theorem own95_any (l : List St) : CodeOwnC l := own95_step l fun x _ => ownStmt93_any x
set_option maxHeartbeats 1000000 in
/-- Own: the code's copy, or the error of Check. -/
theorem Own54_any (l : List St) (A : Option Addr) (len cap : Nat) (w : World) (B : Nat) (hB : B ≤ w.heap.size) (h : LR (fun b _ => b < B) 256 A len cap l (fun b o => IsSts w B b o l)) :
    Calls Try.prog 54 #[.slice A len cap] w fun e w' => Below w.heap.size w w' ∧ (((chkL l).2 ≠ 0 ∧ e = .returned (.tuple #[.slice Option.none 0 0, .int .i64 ((chkL l).2 : Nat)])) ∨
      ((chkL l).2 = 0 ∧ ∃ A' cap', e = .returned (.tuple #[.slice A' l.length cap', .int .i64 0]) ∧ LR (OwnU w.heap.size w') 256 A' l.length cap' l (fun b o => IsStsR w' (OwnU w.heap.size w') b o l))) := by
  have HH := Lib.hid h
  have HC := Lib.hid (check_any l A len cap w B hB h)
  have C95 := Lib.hid (fun w' (hb : Below w.heap.size w w') => own95_any l w' B A len cap (h.imp fun b o hr hp => ⟨hr, IsSts.keep (fun b hb' => hb.block b (by omega)) hr hp⟩) (Nat.le_trans hB hb.size))
  clear h
  obtain ⟨n, hn⟩ : ∃ n, n = (chkL l).2 := ⟨_, rfl⟩
  rw [← hn] at HC ⊢
  clear hn
  by_cases hn0 : n = 0
  · subst hn0
    go_enter Try.func54, Try.ntmps54
    go_wp2_with (first | (go_at_call 78; refine HC.out.mono ?_; rintro e w1 ⟨rfl, hb1⟩; have HB1 := Lib.hid hb1) | (go_at_call 95; refine (C95.out _ HB1.out).mono ?_; rintro e2 w2 ⟨A', cap', rfl, hx, hb2⟩; have hx2 := Lib.hid hx; clear hx))
    go_ret2
    exact ⟨bnext hb1 hb2, .inr ⟨trivial, A', cap', rfl, lrU.low hx2.out hb1.size⟩⟩
  · have hne : ((n : Int) != 0) = true := by simp; omega
    go_enter Try.func54, Try.ntmps54
    go_wp2_with (first | (go_at_call 78; refine HC.out.mono ?_; rintro e w1 ⟨rfl, hb1⟩))
    go_ret2
    exact ⟨hb1, .inl ⟨hn0, rfl⟩⟩
end Go.Proofs.Ytnknefdpglnbnaa
