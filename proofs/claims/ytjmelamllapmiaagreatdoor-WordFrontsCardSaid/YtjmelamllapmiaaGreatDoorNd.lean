/- The document's Front. The document's Tokens. -/
import Derived.Test.YtjmelamllapmiaaGreatDoorNb
import Derived.Test.YtjmelamllapmiaaGreatDoorXw
import Derived.Test.YtjmelamllapmiaaGreatDoorXc
import Derived.Test.YtjmelamllapmiaaGreatDoorXs
import Derived.Test.YtjmelamllapmiaaGreatDoorXm
import Derived.Test.YtjmelamllapmiaaGreatDoorXd
import Derived.Test.YtjmelamllapmiaaGreatDoorZi
namespace Go.Proofs.YtjmelamllapmiaaGreatDoor
open Go.RowKit

attribute [local irreducible] wpQuiet wpList
set_option maxRecDepth 100000 in
set_option maxHeartbeats 8000000 in
theorem rfront_at (l : List Tk) (w : World) (B n : Nat) (v : Value) (hn : n = w.heap.size) (hv : IsTks w B v l) (hB : B ≤ n) (hok : ∀ t ∈ l, TkL t) : Calls Tryz.prog 11 #[v] w fun e w' => Below n w w' ∧ FrontP l n e w' := by
  obtain ⟨A0, cap0, hsh, hvs⟩ : ∃ A cap, l.length ≤ cap ∧ v = .slice A l.length cap := by
    obtain ⟨_, A, cap, h1, h2, _⟩ := hv
    exact ⟨A, cap, h1, h2⟩
  have hib : l.length ≤ 2932031007317 := by have := hv.1; omega
  have HVK : Hid (∀ w', Below n w w' → IsTks w' B v l) := Lib.hid (fun w' hb => hv.keep fun b h => hb.block b (by omega))
  have HOK := Lib.hid hok
  clear hv hok
  subst hvs
  obtain ⟨i0, hi0, hz0, hz1, hz2⟩ := info_parts info34
  go_enter Tryz.func11, Tryz.ntmps11
  go_upto_region 2 with fail
  obtain ⟨W, hW⟩ : ∃ W, W = (w.alloc (.cells #[.int .u8 0, .int .i64 0, .string ⟨#[]⟩, .slice Option.none 0 0, .int .i64 0] 27)).alloc (.cells #[.slice A0 l.length cap0, .int .i64 0, .bool false, .int .i64 512] 103) := ⟨_, rfl⟩
  have HB : Hid (Below n w W) := Lib.hid (by rw [hW, hn]; exact ((Below.refl _ w).alloc (Nat.le_refl _) _).alloc (by simp) _)
  have HZ : Hid (BlkN W n 27 #[.int .u8 0, .int .i64 0, .string ⟨#[]⟩, .slice Option.none 0 0, .int .i64 0]) := Lib.hid (by rw [hW, hn]; exact (BlkN.at_ rfl _ _).alloc _)
  have HT : Hid (DRw W (n + 1) (.slice A0 l.length cap0) 0 false (512 - ((0 : Nat) : Int))) := Lib.hid (by rw [hW, hn]; exact BlkN.at_ (by simp) _ _)
  have HN := Lib.hid hn
  rw [← hW, ← hn]
  clear hW hn
  have CV := dval_any 16 (by omega) l 0 0 W B (n + 1) _ HT.out (HVK.out W HB.out) (by omega) (by omega) HOK.out (by omega)
  have e16 : ((16 : Nat) : Int) = 16 := rfl
  have erd : rdT 16 l 0 = tkV 16 l 0 := by unfold rdT; rw [if_neg (by decide)]
  rw [e16, List.drop_zero, erd] at CV
  have HCV := Lib.hid (CV.mono fun e w' h => (⟨h.1, h.2.any⟩ : _ ∧ _))
  clear CV e16 erd
  go_upto_region 3 with (first | (go_at_call 50; refine HCV.out.mono ?_; rintro e w3 ⟨hu3, j2, y, u3, st2, room2, m2, rfl, hv3, hr3, hjj, hj2, hy0, hy1⟩; obtain ⟨k3, n3, s3, A3, len3, cap3, r3, rfl⟩ := hv3.shape; have HU3 := Lib.hid hu3; have HX3 := Lib.hid hv3; have HR3 := Lib.hid hr3; have HY0 := Lib.hid hy0; have HY1 := Lib.hid hy1; clear hu3 hv3 hr3 hy0 hy1))
  obtain ⟨q, hq⟩ : ∃ q, q = w3.heap.size := ⟨_, rfl⟩
  obtain ⟨X, hX⟩ : ∃ X, X = w3.alloc (.cells #[.int .u8 k3, .int .i64 n3, .string s3, .slice A3 len3 cap3, .int .i64 r3] 27) := ⟨_, rfl⟩
  have hb3 : Below w3.heap.size w3 X := by rw [hX]; exact (Below.refl _ _).alloc (Nat.le_refl _) _
  have HZ4 : Hid (BlkN X n 27 #[.int .u8 0, .int .i64 0, .string ⟨#[]⟩, .slice Option.none 0 0, .int .i64 0]) := Lib.hid ((BlkN.upd HU3.out HZ.out (by omega)).below hb3)
  have HR : Hid (DRw X (n + 1) (.slice A0 l.length cap0) j2 st2 room2) := Lib.hid (HR3.out.below hb3)
  have HQ : Hid (BlkN X q 27 #[.int .u8 k3, .int .i64 n3, .string s3, .slice A3 len3 cap3, .int .i64 r3]) := Lib.hid (by rw [hX, hq]; exact BlkN.at_ rfl _ _)
  have HX : Hid (IsVaR X (Own34 X W.heap.size) (.agg #[.int .u8 k3, .int .i64 n3, .string s3, .slice A3 len3 cap3, .int .i64 r3]) y) := Lib.hid (HX3.out.below hb3)
  have hnq : n + 1 < q := by rw [hq]; exact BlkN.lt HR3.out
  have HB4 : Hid (Below n w X) := Lib.hid (by
    have h1 := HU3.out.toBelow (a := w) (by have := HN.out; omega) (by rw [← HN.out]; exact HB.out)
    rw [← HN.out] at h1
    exact h1.trans (hb3.mono (by omega)))
  have hWn : n + 1 < W.heap.size := BlkN.lt HT.out
  rw [← hX, ← hq]
  clear hX hq hb3 HU3 HX3 HR3
  have c2 := BlkN.cell HR.out 2 (v := .bool st2) rfl
  cases st2 with
  | true =>
    have HE := Lib.hid (HY1.out rfl)
    go_upto_region 4 with fail
    refine RegT.region_mix (fun i => Nat.ble i 5) (fun U => BlkN U q 27 #[.int .u8 k3, .int .i64 n3, .string s3, .slice A3 len3 cap3, .int .i64 r3] ∧ DRw U (n + 1) (.slice A0 l.length cap0) j2 true room2) [(true, 0), (true, 1), (true, 2), (true, 3), (true, 4), (false, 5), (false, 6), (false, 7)] rfl (by kernel_rfl) (by kernel_rfl) (by decide) ?_
    have hS0 : BlkN X.drew q 27 #[.int .u8 k3, .int .i64 n3, .string s3, .slice A3 len3 cap3, .int .i64 r3] ∧ DRw X.drew (n + 1) (.slice A0 l.length cap0) j2 true room2 := ⟨HQ.out, HR.out⟩
    refine RegT.seqM_quiet hS0 rfl (fun _ _ _ h => h) (by kernel_rfl) (v := .agg #[.int .u8 0, .int .i64 0, .string ⟨#[]⟩, .slice Option.none 0 0, .int .i64 0]) (fun w' hS => ?_) ?_
    · go_simp
    refine RegT.seqM_quiet hS0 rfl (fun _ _ _ h => h) (by kernel_rfl) (v := .pointer (some ⟨n + 1, 0, Option.none⟩)) (fun w' hS => ?_) ?_
    · go_simp
    refine RegT.seqM_quiet hS0 rfl (fun _ _ _ h => h) (by kernel_rfl) (v := .pointer (some ⟨n + 1, 0, Option.none⟩)) (fun w' hS => ?_) ?_
    · go_simp
    refine RegT.seqM_quiet hS0 rfl (fun _ _ _ h => h) (by kernel_rfl) (v := .pointer (some ⟨n + 1, 1, Option.none⟩)) (fun w' hS => ?_) ?_
    · go_simp
    refine RegT.seqM_quiet hS0 rfl (fun _ _ _ h => h) (by kernel_rfl) (v := .int .i64 j2) (fun w' hS => ?_) ?_
    · have h1 : BlkN w' (n + 1) 103 #[.slice A0 l.length cap0, .int .i64 j2, .bool true, .int .i64 room2] := hS.2; have t1 := h1.cell 1 rfl; go_simp
    clear hS0
    have hnX := HZ4.out.lt
    have d0 := HZ4.out.cell 0 rfl
    have x0 := HZ4.out.free 0
    have d1 := HZ4.out.cell 1 rfl
    have x1 := HZ4.out.free 1
    have d2 := HZ4.out.cell 2 rfl
    have x2 := HZ4.out.free 2
    have d3 := HZ4.out.cell 3 rfl
    have x3 := HZ4.out.free 3
    have d4 := HZ4.out.cell 4 rfl
    have x4 := HZ4.out.free 4
    refine RegT.seqM_held rfl ?_
    go_wp2_with fail
    obtain ⟨V', hV', hB3, hbut3⟩ := set5_done HZ4.out (.int .u8 0) (.int .i64 0) (.string ⟨#[]⟩) (.slice Option.none 0 0) (.int .i64 0)
    rw [hV']
    obtain ⟨V1, hV1⟩ : ∃ V1, V1 = V'.drew := ⟨_, rfl⟩
    rw [← hV1]
    have hbut4 : But n X V1 := by rw [hV1]; exact ⟨hbut3.os, hbut3.tape, hbut3.output, hbut3.size, hbut3.other⟩
    have hB4 : BlkN V1 n 27 #[.int .u8 0, .int .i64 0, .string ⟨#[]⟩, .slice Option.none 0 0, .int .i64 0] := by rw [hV1]; exact hB3
    clear hV' hB3 hbut3 hV1
    refine ⟨⟨(hbut4.other q (by omega)).trans HQ.out, HR.out.but hbut4 (show n + 1 ≠ n by omega)⟩, ?_⟩
    refine RegT.seqM_free rfl rfl ?_
    go_wp2_with fail
    refine RegT.seqM_free rfl rfl ?_
    go_wp2_with fail
    refine RegT.seqM_end ?_
    simp only [RegT.NP]
    go_wp2_with fail
    refine bodyPost_ret (results_cell_tmps (s := 2) (b := n) (t := 3) (u := 4) rfl Tryz.underlying27 hi0 rfl hB4 (by rw [hz1]; rfl) rfl rfl) rfl ⟨?_, ?_⟩
    · exact hbut4.below (Nat.le_refl _) HB4.out
    · unfold FrontP
      rw [HE.out]
      simp only [List.length_drop]
      rw [show l.length - (l.length - j2) = j2 by omega]
      rfl
  | false =>
    have HE := Lib.hid (HY0.out rfl)
    go_upto_region 5 with fail
    refine RegT.region_mix (fun i => Nat.ble i 5) (fun U => BlkN U q 27 #[.int .u8 k3, .int .i64 n3, .string s3, .slice A3 len3 cap3, .int .i64 r3] ∧ DRw U (n + 1) (.slice A0 l.length cap0) j2 false room2) [(true, 0), (true, 1), (true, 2), (true, 3), (true, 4), (false, 5), (false, 6), (false, 7)] rfl (by kernel_rfl) (by kernel_rfl) (by decide) ?_
    have hS0 : BlkN X.drew q 27 #[.int .u8 k3, .int .i64 n3, .string s3, .slice A3 len3 cap3, .int .i64 r3] ∧ DRw X.drew (n + 1) (.slice A0 l.length cap0) j2 false room2 := ⟨HQ.out, HR.out⟩
    refine RegT.seqM_quiet hS0 rfl (fun _ _ _ h => h) (by kernel_rfl) (v := .agg #[.int .u8 k3, .int .i64 n3, .string s3, .slice A3 len3 cap3, .int .i64 r3]) (fun w' hS => ?_) ?_
    · have h0 := hS.1; have t0 := h0.cell 0 rfl; have t1 := h0.cell 1 rfl; have t2 := h0.cell 2 rfl; have t3 := h0.cell 3 rfl; have t4 := h0.cell 4 rfl; go_simp
    refine RegT.seqM_quiet hS0 rfl (fun _ _ _ h => h) (by kernel_rfl) (v := .pointer (some ⟨n + 1, 0, Option.none⟩)) (fun w' hS => ?_) ?_
    · go_simp
    refine RegT.seqM_quiet hS0 rfl (fun _ _ _ h => h) (by kernel_rfl) (v := .pointer (some ⟨n + 1, 0, Option.none⟩)) (fun w' hS => ?_) ?_
    · go_simp
    refine RegT.seqM_quiet hS0 rfl (fun _ _ _ h => h) (by kernel_rfl) (v := .pointer (some ⟨n + 1, 1, Option.none⟩)) (fun w' hS => ?_) ?_
    · go_simp
    refine RegT.seqM_quiet hS0 rfl (fun _ _ _ h => h) (by kernel_rfl) (v := .int .i64 j2) (fun w' hS => ?_) ?_
    · have h1 : BlkN w' (n + 1) 103 #[.slice A0 l.length cap0, .int .i64 j2, .bool false, .int .i64 room2] := hS.2; have t1 := h1.cell 1 rfl; go_simp
    clear hS0
    have hnX := HZ4.out.lt
    have d0 := HZ4.out.cell 0 rfl
    have x0 := HZ4.out.free 0
    have d1 := HZ4.out.cell 1 rfl
    have x1 := HZ4.out.free 1
    have d2 := HZ4.out.cell 2 rfl
    have x2 := HZ4.out.free 2
    have d3 := HZ4.out.cell 3 rfl
    have x3 := HZ4.out.free 3
    have d4 := HZ4.out.cell 4 rfl
    have x4 := HZ4.out.free 4
    refine RegT.seqM_held rfl ?_
    go_wp2_with fail
    obtain ⟨V', hV', hB3, hbut3⟩ := set5_done HZ4.out (.int .u8 k3) (.int .i64 n3) (.string s3) (.slice A3 len3 cap3) (.int .i64 r3)
    rw [hV']
    obtain ⟨V1, hV1⟩ : ∃ V1, V1 = V'.drew := ⟨_, rfl⟩
    rw [← hV1]
    have hbut4 : But n X V1 := by rw [hV1]; exact ⟨hbut3.os, hbut3.tape, hbut3.output, hbut3.size, hbut3.other⟩
    have hB4 : BlkN V1 n 27 #[.int .u8 k3, .int .i64 n3, .string s3, .slice A3 len3 cap3, .int .i64 r3] := by rw [hV1]; exact hB3
    clear hV' hB3 hbut3 hV1
    refine ⟨⟨(hbut4.other q (by omega)).trans HQ.out, HR.out.but hbut4 (show n + 1 ≠ n by omega)⟩, ?_⟩
    refine RegT.seqM_free rfl rfl ?_
    go_wp2_with fail
    refine RegT.seqM_free rfl rfl ?_
    go_wp2_with fail
    refine RegT.seqM_end ?_
    simp only [RegT.NP]
    go_wp2_with fail
    refine bodyPost_ret (results_cell_tmps (s := 2) (b := n) (t := 3) (u := 4) rfl Tryz.underlying27 hi0 rfl hB4 (by rw [hz1]; rfl) rfl rfl) rfl ⟨?_, ?_⟩
    · exact hbut4.below (Nat.le_refl _) HB4.out
    · unfold FrontP
      rw [HE.out.2.2]
      simp only [List.length_drop]
      rw [show l.length - (l.length - j2) = j2 by omega]
      have hk : ∀ b o, Own34 X W.heap.size b o → V1.heap[b]? = X.heap[b]? := fun b o hr => hbut4.other b (by have := hr.1; omega)
      exact ⟨_, rfl, (HX.out.keep hk).mono fun b o hr => ⟨by have := hr.1; omega, hr.2.1, let ⟨cur, hc⟩ := hr.2.2; ⟨cur, (hk b o hr).trans hc⟩⟩⟩
theorem rfront_any (l : List Tk) (w : World) (B : Nat) (v : Value) (hv : IsTks w B v l) (hB : B ≤ w.heap.size) (hok : ∀ t ∈ l, TkL t) : Calls Tryz.prog 11 #[v] w fun e w' => Below w.heap.size w w' ∧ FrontP l w.heap.size e w' := rfront_at l w B _ v rfl hv hB hok
end Go.Proofs.YtjmelamllapmiaaGreatDoor
namespace Go.Proofs.YtjmelamllapmiaaGreatDoor
open Go.RowKit

theorem text_e0 (x : Va) (h : mayV x = true) (hf : Fit x) : (cutY (txtV (textL x))).2.2 = 0 := by
  obtain ⟨m, h1, h2⟩ := text_cut x h hf
  have hs : ¬ 1048576 < (txtV (textL x)).size := by
    have h1 := textL_len x hf
    have h2 := mayV_sz x h
    show ¬ 1048576 < (textL x).length
    omega
  unfold cutY
  rw [if_neg hs, h1]
theorem tokX_len (x : Va) : (tokX x).1.length ≤ 1048577 := by
  unfold tokX
  cases mayV x
  · simp
  · exact cutY_len _
set_option maxRecDepth 100000 in
set_option maxHeartbeats 4000000 in
theorem rTokens_any {B : Nat} {v : Value} {x : Va} (w : World) (h : IsVa w B v x) (hB : B ≤ w.heap.size) (hfit : Fit x) (hv : Vars w) :
    Calls Tryz.prog 17 #[v] w fun e w' => Below w.heap.size w w' ∧ ∃ A cap, e = .returned (.tuple #[.slice A (tokX x).1.length cap, .int .i64 (tokX x).2]) ∧ TRow w' w.heap.size (.slice A (tokX x).1.length cap) (tokX x).1 := by
  have HH := Lib.hid h
  obtain ⟨k, n, s, A, len, cap, r, rfl⟩ := h.shape
  have HB0 : Hid (Below w.heap.size w (w.alloc (.cells #[.int .u8 k, .int .i64 n, .string s, .slice A len cap, .int .i64 r] 27))) := Lib.hid ((Below.refl _ _).alloc (Nat.le_refl _) _)
  have C24 := Lib.hid (rText_any (w.alloc (.cells #[.int .u8 k, .int .i64 n, .string s, .slice A len cap, .int .i64 r] 27)) (HH.out.keep fun b hl => HB0.out.block b (by omega)) (Nat.le_trans hB HB0.out.size) hfit (hv.tab.on HB0.out))
  obtain ⟨m, hm⟩ : ∃ m, m = mayV x := ⟨_, rfl⟩
  cases m
  · have HR : Hid (textR x = ([], 2)) := Lib.hid (by simp [textR, ← hm])
    have HT : Hid (tokX x = ([], 2)) := Lib.hid (by simp [tokX, ← hm])
    rw [HR.out] at C24
    clear h hv hm hfit
    go_enter Tryz.func17, Tryz.ntmps17
    go_wp2_with (first | (go_at_call 57; refine C24.out.mono ?_; rintro e w1 ⟨hb1, rfl⟩))
    go_ret2
    exact ⟨HB0.out.trans (hb1.mono (by simp)), Option.none, 0, by rw [HT.out]; rfl, by rw [HT.out]; exact TRow.nil _ _⟩
  · have HR : Hid (textR x = (textL x, 0)) := Lib.hid (by simp [textR, ← hm])
    have HT : Hid (tokX x = ((cutY (txtV (textL x))).1, 0)) := Lib.hid (by have := text_e0 x hm.symm hfit; unfold tokX; rw [← hm, if_pos rfl, this])
    have hsz : (txtV (textL x)).size ≤ 140737488351232 := by
      have h1 := mayV_sz x hm.symm
      have h2 := textL_len x hfit
      show (textL x).length ≤ _
      omega
    rw [HR.out] at C24
    have C20 : Hid (∀ w', Calls Tryz.prog 58 #[.string (txtV (textL x))] w' fun e w2 => Below w'.heap.size w' w2 ∧ CutP (txtV (textL x)) w'.heap.size e w2) := Lib.hid (fun w' => rcut_any _ hsz w')
    obtain ⟨T, hT⟩ : ∃ T, T = txtV (textL x) := ⟨_, rfl⟩
    have C24' : Hid (Calls Tryz.prog 57 #[.agg #[.int .u8 k, .int .i64 n, .string s, .slice A len cap, .int .i64 r]] (w.alloc (.cells #[.int .u8 k, .int .i64 n, .string s, .slice A len cap, .int .i64 r] 27)) fun e w' => Below (w.alloc (.cells #[.int .u8 k, .int .i64 n, .string s, .slice A len cap, .int .i64 r] 27)).heap.size (w.alloc (.cells #[.int .u8 k, .int .i64 n, .string s, .slice A len cap, .int .i64 r] 27)) w' ∧ e = .returned (.tuple #[.string T, .int .i64 0])) := Lib.hid (by rw [hT]; exact C24.out)
    rw [← hT] at C20 HT
    clear h hv hm C24 hT HR hsz hfit
    go_enter Tryz.func17, Tryz.ntmps17
    go_upto_region 4 with (first | (go_at_call 57; refine C24'.out.mono ?_; rintro e w1 ⟨hb1, rfl⟩))
    have HB1 := Lib.hid (HB0.out.trans (hb1.mono (by simp)))
    have hs1 := HB1.out.size
    clear hb1
    go_wp2_with (first | (go_at_call 58; refine (C20.out _).mono ?_; rintro e w2 ⟨hb2, hc2⟩; obtain ⟨A2, cap2, rfl, ht2⟩ := hc2.y))
    go_ret2
    exact ⟨bnext HB1.out hb2, A2, cap2, by rw [HT.out]; first | rfl | skip, by rw [HT.out]; exact ht2.low hs1⟩
end Go.Proofs.YtjmelamllapmiaaGreatDoor
