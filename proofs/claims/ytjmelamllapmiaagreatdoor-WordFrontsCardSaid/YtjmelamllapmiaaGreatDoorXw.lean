/- package word: Front, with its deferred closure that recovers. -/
import Derived.Test.YtjmelamllapmiaaGreatDoorXv
import Derived.Test.YtjmelamllapmiaaGreatDoorI
namespace Go.Proofs.YtjmelamllapmiaaGreatDoor
open Go.RowKit

set_option maxRecDepth 100000 in
theorem catch62 (k : Int) (b b1 b2 : Nat) (hb1 : b < b1) (hb2 : b1 < b2) (older : List PanicEntry) (V : World) (c0 c1 c2 c3 c4 : Value) (x y : Value) (h0 : BlkN V b 27 #[c0, c1, c2, c3, c4]) (h1 : BlkN V b1 3 #[x]) (h2 : BlkN V b2 29 #[y]) :
    CallsD Tryz.prog 48 #[.pointer (some ⟨b, 0, Option.none⟩), .pointer (some ⟨b1, 0, Option.none⟩), .pointer (some ⟨b2, 0, Option.none⟩)] (.panicking ({ v := .iface 95 (.int .i64 k), recovered := false } :: older)) V fun e u' V' =>
      e = .returned (.tuple #[]) ∧ u' = .panicking ({ v := .iface 95 (.int .i64 k), recovered := true } :: older) ∧ Below b V V' ∧ BlkN V' b 27 zeroV ∧ BlkN V' b1 3 #[.int .i64 k] ∧ BlkN V' b2 29 #[.int .i64 30] := by
  have n1 : b ≠ b1 := by omega
  have n2 : b ≠ b2 := by omega
  have n3 : b1 ≠ b2 := by omega
  refine callsD_of_wpS Tryz.func48 rfl fun c₀ cs hu => ?_
  apply wpS_seq
  apply wpS_region
  simp [wpOpsS, go_sem, recoverD, hu, Tryz.ntmps48, Exit.thenS, Array.replicate_succ]
  refine wpS_of_wp ?_
  have d0 := h0.cell 0 rfl
  have d1 := h0.cell 1 rfl
  have d2 := h0.cell 2 rfl
  have d3 := h0.cell 3 rfl
  have d4 := h0.cell 4 rfl
  have e0 := h1.cell 0 rfl
  have f0 := h2.cell 0 rfl
  have x0 := h0.free 0
  have x1 := h0.free 1
  have x2 := h0.free 2
  have x3 := h0.free 3
  have x4 := h0.free 4
  have y0 := h1.free 0
  have z0 := h2.free 0
  have l0 := h0.lt
  have l1 := h1.lt
  have l2 := h2.lt
  have ha := assert73 k V
  go_wp2_with fail
  have hu := (((((Upd.refl b V).set 0 (.int .u8 0)).set 1 (.int .i64 0)).set 2 (.string ⟨#[]⟩)).set 3 (.slice Option.none 0 0)).set 4 (.int .i64 0)
  have hb : ∀ (u1 u2 : Value), Below b V (((((((V.setCell ⟨b, 0, Option.none⟩ (.int .u8 0)).setCell ⟨b, 1, Option.none⟩ (.int .i64 0)).setCell ⟨b, 2, Option.none⟩ (.string ⟨#[]⟩)).setCell ⟨b, 3, Option.none⟩ (.slice Option.none 0 0)).setCell ⟨b, 4, Option.none⟩ (.int .i64 0)).setCell ⟨b1, 0, Option.none⟩ u1).setCell ⟨b2, 0, Option.none⟩ u2) := fun u1 u2 =>
    (((((((Below.refl b V).setCell (p := ⟨b, 0, Option.none⟩) (Nat.le_refl _) _).setCell (p := ⟨b, 1, Option.none⟩) (Nat.le_refl _) _).setCell (p := ⟨b, 2, Option.none⟩) (Nat.le_refl _) _).setCell (p := ⟨b, 3, Option.none⟩) (Nat.le_refl _) _).setCell (p := ⟨b, 4, Option.none⟩) (Nat.le_refl _) _).setCell (p := ⟨b1, 0, Option.none⟩) (by show b ≤ b1; omega) _).setCell (p := ⟨b2, 0, Option.none⟩) (by show b ≤ b2; omega) _
  have hc0 := (((((BlkN.set h0 0 (.int .u8 0)).set 1 (.int .i64 0)).set 2 (.string ⟨#[]⟩)).set 3 (.slice Option.none 0 0)).set 4 (.int .i64 0))
  have g0 := (hc0.setOther (q := ⟨b1, 0, Option.none⟩) n1 (.int .i64 k)).setOther (q := ⟨b2, 0, Option.none⟩) n2 (.int .i64 30)
  have hc1 := hu.block b1 h1.lt n1.symm
  have hc2 := hu.block b2 h2.lt n2.symm
  have g1 := (BlkN.set (show BlkN _ b1 3 #[x] from hc1.trans h1) 0 (.int .i64 k)).setOther (q := ⟨b2, 0, Option.none⟩) n3 (.int .i64 30)
  have g2 := BlkN.set (BlkN.setOther (show BlkN _ b2 29 #[y] from hc2.trans h2) (q := ⟨b1, 0, Option.none⟩) n3.symm (.int .i64 k)) 0 (.int .i64 30)
  simp only [bodyPostS, results, Tryz.results48]
  simp [go_sem]
  exact ⟨hb _ _, by simpa [zeroV] using g0, by simpa using g1, by simpa using g2⟩
theorem catch62_idle (V : World) (p q r : Addr) :
    CallsD Tryz.prog 48 #[.pointer (some p), .pointer (some q), .pointer (some r)] .returning V fun e u' V' => e = .returned (.tuple #[]) ∧ u' = .returning ∧ V' = V := by
  refine callsD_of_wpS Tryz.func48 rfl fun c₀ cs hu => ?_
  apply wpS_seq
  apply wpS_region
  simp [wpOpsS, go_sem, recoverD, hu, Tryz.ntmps48, Exit.thenS, Array.replicate_succ]
  refine wpS_of_wp ?_
  go_wp2_with fail
  cases c₀
  simp_all [bodyPostS, results, Tryz.results48]
/-- Behind a stuck reader: the closure recovers, and Read returns. -/
theorem leave38_stuck {tmps : Array Value} {b b1 b2 : Nat} (h2 : tmps.getD 2 undef = .pointer (some ⟨b, 0, Option.none⟩)) (h3 : tmps.getD 3 undef = .pointer (some ⟨b1, 0, Option.none⟩)) (h4 : tmps.getD 4 undef = .pointer (some ⟨b2, 0, Option.none⟩)) (hb1 : b < b1) (hb2 : b1 < b2) {V : World} {k : Int} {c0 c1 c2 c3 c4 x y : Value}
    (g0 : BlkN V b 27 #[c0, c1, c2, c3, c4]) (g1 : BlkN V b1 3 #[x]) (g2 : BlkN V b2 29 #[y]) {R : Ending → World → Prop} (hR : ∀ V', Below b V V' → R (.returned (.tuple #[.agg zeroV, .int .i64 k, .int .i64 30])) V') :
    bodyPostD Tryz.prog Tryz.f10 R (Exit.panic [{ v := .iface 95 (.int .i64 k), recovered := false }]) ⟨tmps, [{ target := .fn (.func 48) #[.pointer (some ⟨b, 0, Option.none⟩), .pointer (some ⟨b1, 0, Option.none⟩), .pointer (some ⟨b2, 0, Option.none⟩)], args := #[] }]⟩ V := by
  obtain ⟨i0, hi0, hz0, hz1, hz2⟩ := info_parts info34
  refine leaves_cons (f := 48) (args := #[.pointer (some ⟨b, 0, Option.none⟩), .pointer (some ⟨b1, 0, Option.none⟩), .pointer (some ⟨b2, 0, Option.none⟩)]) (by simp) (by simp [go_sem]) ?_
  refine (catch62 k b b1 b2 hb1 hb2 [] V c0 c1 c2 c3 c4 x y g0 g1 g2).mono ?_
  rintro e u' V' ⟨rfl, rfl, hb, k0, k1, k2⟩
  simp only [settle, List.dropWhile_nil, Leaves]
  exact ⟨_, results_cell3 rfl Tryz.underlying27 hi0 h2 h3 h4 k0 (by rw [hz1]; rfl) k1 k2 (load3 k1) (load27 k2), hR V' hb⟩
theorem leave38_idle {tmps : Array Value} {b b1 b2 : Nat} (h2 : tmps.getD 2 undef = .pointer (some ⟨b, 0, Option.none⟩)) (h3 : tmps.getD 3 undef = .pointer (some ⟨b1, 0, Option.none⟩)) (h4 : tmps.getD 4 undef = .pointer (some ⟨b2, 0, Option.none⟩)) {V : World} {k m : Int} {cs : Array Value} (hcs : cs.size = 5)
    (g0 : BlkN V b 27 cs) (g1 : BlkN V b1 3 #[.int .i64 k]) (g2 : BlkN V b2 29 #[.int .i64 m]) {R : Ending → World → Prop} (hR : R (.returned (.tuple #[.agg cs, .int .i64 k, .int .i64 m])) V) {e : Exit} (he : e = .normal ∨ e = .ret) :
    bodyPostD Tryz.prog Tryz.f10 R e ⟨tmps, [{ target := .fn (.func 48) #[.pointer (some ⟨b, 0, Option.none⟩), .pointer (some ⟨b1, 0, Option.none⟩), .pointer (some ⟨b2, 0, Option.none⟩)], args := #[] }]⟩ V := by
  obtain ⟨i0, hi0, hz0, hz1, hz2⟩ := info_parts info34
  have key : Leaves Tryz.prog Tryz.f10 tmps R [{ target := .fn (.func 48) #[.pointer (some ⟨b, 0, Option.none⟩), .pointer (some ⟨b1, 0, Option.none⟩), .pointer (some ⟨b2, 0, Option.none⟩)], args := #[] }] .returning V := by
    refine leaves_cons (f := 48) (args := #[.pointer (some ⟨b, 0, Option.none⟩), .pointer (some ⟨b1, 0, Option.none⟩), .pointer (some ⟨b2, 0, Option.none⟩)]) (by simp) (by simp [go_sem]) ?_
    refine (catch62_idle V ⟨b, 0, Option.none⟩ ⟨b1, 0, Option.none⟩ ⟨b2, 0, Option.none⟩).mono ?_
    rintro e u' V' ⟨rfl, rfl, rfl⟩
    simp only [settle, Leaves]
    exact ⟨_, results_cell3 rfl Tryz.underlying27 hi0 h2 h3 h4 g0 (by rw [hz1, hcs]) g1 g2 (load3 g1) (load27 g2), hR⟩
  rcases he with rfl | rfl <;> exact key
/-- What Front answers. -/
def FrontP (l : List Tk) (n : Nat) (e : Ending) (w' : World) : Prop := match tkV 16 l 0 with
  | .ok x r => ∃ v, e = .returned (.tuple #[v, .int .i64 ((l.length - r.length : Nat) : Int), .int .i64 0]) ∧ IsVaR w' (Own34 w' n) v x.1
  | .no r => e = .returned (.tuple #[.agg zeroV, .int .i64 ((l.length - r.length : Nat) : Int), .int .i64 30])
/-- Front's blocks, which its last region reads. -/
def FrS (V : World) (n p : Nat) (v : Value) (j m : Nat) (cs : Array Value) : Prop := BlkN V n 27 cs ∧ Tkr V p v j m
attribute [local irreducible] wpList
set_option maxRecDepth 100000 in
set_option maxHeartbeats 8000000 in
theorem front_at (l : List Tk) (w : World) (B n : Nat) (v : Value) (hn : n = w.heap.size) (hv : IsTks w B v l) (hB : B ≤ n) (hok : ∀ t ∈ l, TkL t) : Calls Tryz.prog 10 #[v] w fun e w' => Below n w w' ∧ FrontP l n e w' := by
  have hmf : ∀ (fn : Fn) (first cap : Array Value) (w : World), (Instr.makeFunc fn first cap).run Tryz.prog w = .ok (.func fn first cap) w := fun _ _ _ _ => rfl
  obtain ⟨A0, cap0, hsh, hvs⟩ : ∃ A cap, l.length ≤ cap ∧ v = .slice A l.length cap := by
    obtain ⟨_, A, cap, h1, h2, _⟩ := hv
    exact ⟨A, cap, h1, h2⟩
  have HVK : Hid (∀ w', Below n w w' → IsTks w' B v l) := Lib.hid (fun w' hb => hv.keep fun b h => hb.block b (by omega))
  have HOK := Lib.hid hok
  clear hv hok
  subst hvs
  go_enter_defers Tryz.func10, Tryz.ntmps10
  go_upto_region 3 with fail
  obtain ⟨i0, hi0, hz0, hz1, hz2⟩ := info_parts info34
  obtain ⟨W, hW⟩ : ∃ W, W = (((w.alloc (.cells #[.int .u8 0, .int .i64 0, .string ⟨#[]⟩, .slice Option.none 0 0, .int .i64 0] 27)).alloc (.cells #[.int .i64 0] 3)).alloc (.cells #[.int .i64 0] 29)).alloc (.cells #[.slice A0 l.length cap0, .int .i64 0, .int .i64 0] 99) := ⟨_, rfl⟩
  have HB : Hid (Below n w W) := Lib.hid (by rw [hW, hn]; exact ((((Below.refl _ w).alloc (Nat.le_refl _) _).alloc (by simp) _).alloc (by simp; omega) _).alloc (by simp; omega) _)
  have HZ : Hid (BlkN W n 27 #[.int .u8 0, .int .i64 0, .string ⟨#[]⟩, .slice Option.none 0 0, .int .i64 0]) := Lib.hid (by rw [hW, hn]; exact (((BlkN.at_ rfl _ _).alloc _).alloc _).alloc _)
  have HA : Hid (BlkN W (n + 1) 3 #[.int .i64 0]) := Lib.hid (by rw [hW, hn]; exact ((BlkN.at_ (by simp) _ _).alloc _).alloc _)
  have HE : Hid (BlkN W (n + 1 + 1) 29 #[.int .i64 0]) := Lib.hid (by rw [hW, hn]; exact (BlkN.at_ (by simp) _ _).alloc _)
  have HT : Hid (Tkr W (n + 1 + 1 + 1) (.slice A0 l.length cap0) 0 0) := Lib.hid (by rw [hW, hn]; exact BlkN.at_ (by simp) _ _)
  have HN := Lib.hid hn
  rw [← hW, ← hn]
  clear hW hn
  have CV := tval_any 16 (by omega) l 0 0 W B (n + 1 + 1 + 1) _ HT.out (HVK.out W HB.out) (by omega) (by omega) HOK.out (by omega)
  have e16 : (16 : Int) - ((16 : Nat) : Int) = 0 := by decide
  rw [e16, List.drop_zero] at CV
  cases hE : tkV 16 l 0 with
  | no t =>
    rw [hE] at CV
    have HCV := Lib.hid CV
    clear CV
    go_wp2_with (first | (go_at_call 49; refine HCV.out.mono ?_; rintro e w3 ⟨hu3, j2, hj2, rfl, rfl⟩))
    refine leave38_stuck rfl rfl rfl (by omega) (by omega) (BlkN.upd hu3 HZ.out (by omega)) (BlkN.upd hu3 HA.out (by omega)) (BlkN.upd hu3 HE.out (by omega)) fun V' hb => ?_
    have hn := HN.out
    have hb3 := hu3.toBelow (a := w) (by omega) (hn ▸ HB.out)
    rw [← hn] at hb3
    refine ⟨hb3.trans hb, ?_⟩
    unfold FrontP
    rw [hE]
    simp only [List.length_drop]
    rw [show l.length - (l.length - j2) = j2 by omega]
  | ok y t =>
    obtain ⟨x, m⟩ := y
    rw [hE] at CV
    have HCV := Lib.hid CV
    clear CV
    go_upto_region 4 with (first | (go_at_call 49; refine HCV.out.mono ?_; rintro e w3 ⟨hu3, j2, hj, hj2, rfl, v3, rfl, hv, hr3⟩; obtain ⟨k3, n3, s3, A3, len3, cap3, r3, rfl⟩ := hv.shape; have hz3 := BlkN.upd hu3 HZ.out (by omega); have hVp := hz3.lt; have d0 := hz3.cell 0 rfl; have d1 := hz3.cell 1 rfl; have d2 := hz3.cell 2 rfl; have d3 := hz3.cell 3 rfl; have d4 := hz3.cell 4 rfl; have x0 := hz3.free 0; have x1 := hz3.free 1; have x2 := hz3.free 2; have x3 := hz3.free 3; have x4 := hz3.free 4; have HX3 := Lib.hid hv; have HZ3 := Lib.hid hz3; have HR3 := Lib.hid hr3; have HU3 := Lib.hid hu3; clear hz3 hr3 hu3 hv))
    obtain ⟨V, hV, hB3, hbut3⟩ := set5_done HZ3.out (.int .u8 k3) (.int .i64 n3) (.string s3) (.slice A3 len3 cap3) (.int .i64 r3)
    rw [hV]
    clear hV d0 d1 d2 d3 d4 x0 x1 x2 x3 x4 hVp
    have HR4 := Lib.hid (HR3.out.but hbut3 (by omega))
    have HA4 := Lib.hid (show BlkN V (n + 1) 3 #[.int .i64 0] from (hbut3.other _ (by omega)).trans (BlkN.upd HU3.out HA.out (by omega)))
    have HE4 := Lib.hid (show BlkN V (n + 1 + 1) 29 #[.int .i64 0] from (hbut3.other _ (by omega)).trans (BlkN.upd HU3.out HE.out (by omega)))
    have hn := HN.out
    have hb3 := HU3.out.toBelow (a := w) (by omega) (hn ▸ HB.out)
    rw [← hn] at hb3
    have HB4 : Hid (Below n w V) := Lib.hid (hbut3.below (Nat.le_refl _) hb3)
    have HB3 := Lib.hid hB3
    have HBut := Lib.hid hbut3
    clear hn hb3 hB3 hbut3
    refine RegT.region_mix (fun i => Nat.ble i 5) (fun U => FrS U n (n + 1 + 1 + 1) (.slice A0 l.length cap0) j2 m #[.int .u8 k3, .int .i64 n3, .string s3, .slice A3 len3 cap3, .int .i64 r3]) [(true, 0), (true, 1), (true, 2), (true, 3), (true, 4), (false, 5), (false, 6), (false, 7)] rfl (by kernel_rfl) (by kernel_rfl) (by decide) ?_
    have hS0 : FrS V.drew n (n + 1 + 1 + 1) (.slice A0 l.length cap0) j2 m #[.int .u8 k3, .int .i64 n3, .string s3, .slice A3 len3 cap3, .int .i64 r3] := ⟨HB3.out, HR4.out⟩
    refine RegT.seqM_quiet hS0 rfl (fun _ _ _ h => h) (by kernel_rfl) (v := .agg #[.int .u8 k3, .int .i64 n3, .string s3, .slice A3 len3 cap3, .int .i64 r3]) (fun w' hS => ?_) ?_
    · have h1 := hS.1; have t0 := h1.cell 0 rfl; have t1 := h1.cell 1 rfl; have t2 := h1.cell 2 rfl; have t3 := h1.cell 3 rfl; have t4 := h1.cell 4 rfl; go_simp
    refine RegT.seqM_quiet hS0 rfl (fun _ _ _ h => h) (by kernel_rfl) (v := .pointer (some ⟨n + 1 + 1 + 1, 0, Option.none⟩)) (fun w' hS => ?_) ?_
    · go_simp
    refine RegT.seqM_quiet hS0 rfl (fun _ _ _ h => h) (by kernel_rfl) (v := .pointer (some ⟨n + 1 + 1 + 1, 0, Option.none⟩)) (fun w' hS => ?_) ?_
    · go_simp
    refine RegT.seqM_quiet hS0 rfl (fun _ _ _ h => h) (by kernel_rfl) (v := .pointer (some ⟨n + 1 + 1 + 1, 1, Option.none⟩)) (fun w' hS => ?_) ?_
    · go_simp
    refine RegT.seqM_quiet hS0 rfl (fun _ _ _ h => h) (by kernel_rfl) (v := .int .i64 j2) (fun w' hS => ?_) ?_
    · have h1 := hS.2; unfold Tkr at h1; have t1 := h1.cell 1 rfl; go_simp
    clear hS0
    have hk0 := HB3.out.cell 0 rfl
    have hk1 := HB3.out.cell 1 rfl
    have hk2 := HB3.out.cell 2 rfl
    have hk3 := HB3.out.cell 3 rfl
    have hk4 := HB3.out.cell 4 rfl
    have y0 := HB3.out.free 0
    have y1 := HB3.out.free 1
    have y2 := HB3.out.free 2
    have y3 := HB3.out.free 3
    have y4 := HB3.out.free 4
    have a0 := HA4.out.cell 0 rfl
    have b0 := HE4.out.cell 0 rfl
    have fa := HA4.out.free 0
    have fb := HE4.out.free 0
    have g0 := HB3.out.lt
    have g1 := HA4.out.lt
    have g2 := HE4.out.lt
    refine RegT.seqM_held rfl ?_
    go_wp2_with fail
    obtain ⟨V0, hV0, hB50, hbut5⟩ := set5_any HB3.out (.int .u8 k3) (.int .i64 n3) (.string s3) (.slice A3 len3 cap3) (.int .i64 r3)
    rw [hV0]
    obtain ⟨V1, hV1⟩ : ∃ V1, V1 = V0.drew := ⟨_, rfl⟩
    rw [← hV1]
    have hB5 : BlkN V1 n 27 #[.int .u8 k3, .int .i64 n3, .string s3, .slice A3 len3 cap3, .int .i64 r3] := by rw [hV1]; exact hB50
    have hbut6 : But n V V1 := by rw [hV1]; exact ⟨hbut5.os, hbut5.tape, hbut5.output, hbut5.size, hbut5.other⟩
    have HR5 := Lib.hid (HR4.out.but hbut6 (by omega))
    have HA5 := Lib.hid (show BlkN V1 (n + 1) 3 #[.int .i64 0] from (hbut6.other _ (by omega)).trans HA4.out)
    have HE5 := Lib.hid (show BlkN V1 (n + 1 + 1) 29 #[.int .i64 0] from (hbut6.other _ (by omega)).trans HE4.out)
    have HB5 := Lib.hid hB5
    have HB6 := Lib.hid (hbut6.below (Nat.le_refl _) HB4.out)
    have hX5 : ∀ b o, Own34 w3 W.heap.size b o → V1.heap[b]? = w3.heap[b]? := fun b o hr => by
      have hb := hr.1
      have hWn : n + 1 + 1 + 1 < W.heap.size := BlkN.lt HT.out
      exact (hbut6.other b (by omega)).trans (HBut.out.other b (by omega))
    have HX5 := Lib.hid hX5
    clear hV0 hB50 hV1 hB5 hbut5 hbut6 hX5 hk0 hk1 hk2 hk3 hk4 y0 y1 y2 y3 y4 a0 b0 fa fb g0 g1 g2
    refine ⟨⟨HB5.out, HR5.out⟩, ?_⟩
    refine RegT.seqM_free rfl rfl ?_
    have a0 := HA5.out.cell 0 rfl
    have fa := HA5.out.free 0
    have g1 := HA5.out.lt
    go_wp2_with fail
    refine RegT.seqM_free rfl rfl ?_
    have b0 := HE5.out.cell 0 rfl
    have fb := HE5.out.free 0
    have g2 := HE5.out.lt
    go_wp2_with fail
    refine RegT.seqM_end ?_
    simp only [RegT.NP]
    have k1 := BlkN.set HA5.out 0 (.int .i64 j2)
    have k2 := BlkN.set (HE5.out.setOther (q := ⟨n + 1, 0, Option.none⟩) (by show n + 1 + 1 ≠ n + 1; omega) (.int .i64 j2)) 0 (.int .i64 0)
    have k1' := BlkN.setOther (by simpa using k1) (q := ⟨n + 1 + 1, 0, Option.none⟩) (by show n + 1 ≠ n + 1 + 1; omega) (.int .i64 0)
    have k0' := (HB5.out.setOther (q := ⟨n + 1, 0, Option.none⟩) (by show n ≠ n + 1; omega) (.int .i64 j2)).setOther (q := ⟨n + 1 + 1, 0, Option.none⟩) (by show n ≠ n + 1 + 1; omega) (.int .i64 0)
    go_wp2_with fail
    refine leave38_idle rfl rfl rfl (by rfl) k0' k1' (by simpa using k2) ⟨?_, ?_⟩ (.inr rfl)
    · exact (HB6.out.setCell (p := ⟨n + 1, 0, Option.none⟩) (by show n ≤ n + 1; omega) _).setCell (p := ⟨n + 1 + 1, 0, Option.none⟩) (by show n ≤ n + 1 + 1; omega) _
    · unfold FrontP
      rw [hE]
      simp only [List.length_drop]
      rw [show l.length - (l.length - j2) = j2 by omega]
      have hWn : n + 1 + 1 + 1 < W.heap.size := BlkN.lt HT.out
      have hk : ∀ b o, Own34 w3 W.heap.size b o → ((V1.setCell ⟨n + 1, 0, Option.none⟩ (.int .i64 j2)).setCell ⟨n + 1 + 1, 0, Option.none⟩ (.int .i64 0)).heap[b]? = w3.heap[b]? := fun b o hr => by
        have hb := hr.1
        exact (Below.heap_setCell _ _ _ _ (by show b ≠ n + 1 + 1; omega)).trans ((Below.heap_setCell _ _ _ _ (by show b ≠ n + 1; omega)).trans (HX5.out b o hr))
      exact ⟨_, rfl, (HX3.out.keep hk).mono fun b o hr => ⟨by have := hr.1; omega, hr.2.1, let ⟨cur, hc⟩ := hr.2.2; ⟨cur, (hk b o hr).trans hc⟩⟩⟩
theorem front_any (l : List Tk) (w : World) (B : Nat) (v : Value) (hv : IsTks w B v l) (hB : B ≤ w.heap.size) (hok : ∀ t ∈ l, TkL t) : Calls Tryz.prog 10 #[v] w fun e w' => Below w.heap.size w w' ∧ FrontP l w.heap.size e w' := front_at l w B _ v rfl hv hB hok
end Go.Proofs.YtjmelamllapmiaaGreatDoor
