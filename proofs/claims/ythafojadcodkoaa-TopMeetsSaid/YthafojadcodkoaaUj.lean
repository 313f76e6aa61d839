/- lay of a plain cell; Make of one. -/
import Derived.Test.YthafojadcodkoaaUi
namespace Go.Proofs.Ythafojadcodkoaa
open Go.RowKit Go.ChangeMaps

section
variable {w : World} {hi p tm fm mb : Nat} {ps cs : Value} {mA : Option Addr} {ml mc : Nat} {L : List Ent} {FL : List ((Int × Nat) × Int)} {lt : Int}
attribute [local irreducible] wpList RegT.seqM
set_option maxRecDepth 100000 in
set_option maxHeartbeats 4000000 in
theorem index_not (h : Wd w hi p tm fm ps cs (.slice mA ml mc) L FL lt) (r : Int) (e : Ent) (hE : entE L r = some e) (hk : e.s.k ≠ 14) : Calls Try.prog 45 #[.pointer (some ⟨p, 0, Option.none⟩), .int .i64 r] w fun ee w' => ee = .returned (.tuple #[]) ∧ w = w' := by
  have hl := h.look r
  rw [hE] at hl
  have c2 := h.blk.cell 2 rfl
  obtain ⟨hib, hblk, x, hwh⟩ := h.each _ (entE_mem hE).1
  obtain ⟨er, b, s⟩ := e
  simp only at hib hblk hk
  have k0 := hblk.cell 0 s.at0
  have hq : ((s.k : Int) == 14) = false := by simpa using hk
  clear h hE hwh hblk hk
  go_enter Try.func45, Try.ntmps45
  go_wp2_with fail
  go_end0
  exact ⟨rfl, rfl⟩
theorem MB.apart (h : Wd w hi p tm fm ps cs (.slice mA ml mc) L FL lt) {c : Array Value} (hb : BlkN w mb 3 c) : mb ≠ p ∧ mb ≠ tm ∧ mb ≠ fm := by
  unfold BlkN at hb
  refine ⟨fun e => ?_, fun e => ?_, fun e => ?_⟩
  · have h1 := h.blk
    unfold BlkN at h1
    rw [e, h1] at hb
    simp at hb
  · obtain ⟨es, cl, h1, -⟩ := h.things
    rw [e, h1] at hb
    cases hb
  · obtain ⟨es, cl, h1, -⟩ := h.facets
    rw [e, h1] at hb
    cases hb
set_option maxRecDepth 100000 in
set_option maxHeartbeats 8000000 in
theorem lay_cell (h : Wd w hi p tm fm ps cs (.slice (some ⟨mb, 0, Option.none⟩) 1 1) [] [] 0) (lo : Nat) (hlo : lo ≤ p ∧ lo ≤ tm ∧ lo ≤ fm ∧ lo ≤ mb) (hmb : BlkN w mb 3 #[.int .i64 0]) (hmh : mb < hi) (v0 v1 : Int) (v2 : ByteArray) (vA : Option Addr) (vl vc : Nat) (v4 : Int) (sA : Option Addr) (sl sc : Nat) (n lost of_ by_ : Int) (set : Nat) (full : Bool) (cA : Option Addr) (cl cc : Nat) (nA : Option Addr) (nl nc : Nat)
    (y : Pt) (hy : IsWh w (fun b _ => hi ≤ b ∧ b < w.heap.size) (⟨1, 0, v0, v1, v2, vA, vl, vc, v4, sA, sl, sc, n, lost, of_, by_, set, full, cA, cl, cc, nA, nl, nc⟩ : WV) y) :
    Calls Try.prog 31 #[.pointer (some ⟨p, 0, Option.none⟩), .agg #[.int .u8 1, .int .i64 0, .int .u8 v0, .int .i64 v1, .string v2, .slice vA vl vc, .int .i64 v4, .slice sA sl sc, .int .i64 n, .int .i64 lost, .int .i64 of_, .int .i64 by_, .int .u8 set, .bool full, .slice cA cl cc, .slice nA nl nc]] w fun ee w' => ee = .returned (.int .i64 1) ∧ Below lo w w' ∧ (∀ b, b < w.heap.size → b ≠ p → b ≠ tm → b ≠ mb → w'.heap[b]? = w.heap[b]?) ∧ ∃ b, Wd w' hi p tm fm ps cs (.slice (some ⟨mb, 0, Option.none⟩) 1 1) [⟨1, b, ⟨1, 0, v0, v1, v2, vA, vl, vc, v4, sA, sl, sc, n, lost, of_, by_, set, full, cA, cl, cc, nA, nl, nc⟩⟩] [] 1 := by
  obtain ⟨nb, hnb⟩ : ∃ n, n = w.heap.size := ⟨_, rfl⟩
  have hhi := h.low.2.2.2.2
  obtain ⟨m1, m2, m3⟩ := MB.apart h hmb
  obtain ⟨W, hW⟩ : ∃ W, W = w.alloc (.cells #[.int .u8 1, .int .i64 0, .int .u8 v0, .int .i64 v1, .string v2, .slice vA vl vc, .int .i64 v4, .slice sA sl sc, .int .i64 n, .int .i64 lost, .int .i64 of_, .int .i64 by_, .int .u8 set, .bool full, .slice cA cl cc, .slice nA nl nc] 53) := ⟨_, rfl⟩
  have hbw : Below w.heap.size w W := by rw [hW]; exact (Below.refl _ _).alloc (Nat.le_refl _) _
  have HWW := Lib.hid (h.below hbw)
  have HN : Hid (BlkN W nb 53 #[.int .u8 1, .int .i64 0, .int .u8 v0, .int .i64 v1, .string v2, .slice vA vl vc, .int .i64 v4, .slice sA sl sc, .int .i64 n, .int .i64 lost, .int .i64 of_, .int .i64 by_, .int .u8 set, .bool full, .slice cA cl cc, .slice nA nl nc]) := Lib.hid (by rw [hW, hnb]; exact BlkN.at_ rfl _ _)
  have HY : Hid (IsWh W (fun b _ => hi ≤ b ∧ b < W.heap.size) (⟨1, 0, v0, v1, v2, vA, vl, vc, v4, sA, sl, sc, n, lost, of_, by_, set, full, cA, cl, cc, nA, nl, nc⟩ : WV) y) := Lib.hid ((hy.keep fun b o hr => hbw.block b hr.2).mono fun b o hr => ⟨hr.1, Nat.lt_of_lt_of_le hr.2 hbw.size⟩)
  have HMB := Lib.hid (hmb.below hbw)
  have hp0 := h.low.1
  have HBW := Lib.hid (hbw.mono (show lo ≤ w.heap.size by omega))
  have hbws := hbw.size
  have HBK : Hid (∀ b, b < w.heap.size → W.heap[b]? = w.heap[b]?) := Lib.hid fun b hb => hbw.block b hb
  have hhn : hi ≤ nb := by omega
  have hmn : mb < nb := by omega
  have hpW := HWW.out.blk.lt
  have c4 := HWW.out.blk.cell (v := .int .i64 0) 4 rfl
  have f4 := HWW.out.blk.free 4
  clear h hy hmb hbw
  go_enter Try.func31, Try.ntmps31
  go_upto_region 1 with fail
  rw [← hW, ← hnb]
  clear hW hnb
  go_upto_region 2 with fail
  obtain ⟨W2, hW2⟩ : ∃ W2, W2 = W.setCell ⟨p, 4, Option.none⟩ (.int .i64 1) := ⟨_, rfl⟩
  have HW2 : Hid (Wd W2 hi p tm fm ps cs (.slice (some ⟨mb, 0, Option.none⟩) 1 1) [] [] 1) := Lib.hid (by rw [hW2]; exact HWW.out.setLast 1)
  have hb2 : But p W W2 := by rw [hW2]; exact ⟨rfl, rfl, rfl, by simp [World.setCell], fun k hk => Below.heap_setCell _ _ _ _ hk⟩
  have HN2 : Hid (BlkN W2 nb 53 #[.int .u8 1, .int .i64 0, .int .u8 v0, .int .i64 v1, .string v2, .slice vA vl vc, .int .i64 v4, .slice sA sl sc, .int .i64 n, .int .i64 lost, .int .i64 of_, .int .i64 by_, .int .u8 set, .bool full, .slice cA cl cc, .slice nA nl nc]) := Lib.hid ((hb2.other nb (by omega)).trans HN.out)
  have HM2 : Hid (BlkN W2 mb 3 #[.int .i64 0]) := Lib.hid ((hb2.other mb m1).trans HMB.out)
  have HY2 : Hid (IsWh W2 (fun b _ => hi ≤ b ∧ b < W2.heap.size) (⟨1, 0, v0, v1, v2, vA, vl, vc, v4, sA, sl, sc, n, lost, of_, by_, set, full, cA, cl, cc, nA, nl, nc⟩ : WV) y) := Lib.hid ((HY.out.keep fun b o hr => hb2.other b (by have := hr.1; omega)).mono fun b o hr => ⟨hr.1, by rw [hb2.size]; exact hr.2⟩)
  have HB2 := Lib.hid (hb2.below hlo.1 HBW.out)
  have hws : w.heap.size ≤ W.heap.size := hbws
  have HK2 : Hid (∀ b, b < w.heap.size → b ≠ p → b ≠ tm → b ≠ mb → W2.heap[b]? = w.heap[b]?) := Lib.hid fun b hb n1 _ _ => (hb2.other b n1).trans (HBK.out b hb)
  have hb2s := hb2.size
  rw [← hW2]
  clear hW2 hb2 c4 f4 hpW HY HN HMB HBW HWW
  have HBL : Hid (BlkN W2 p 64 #[ps, cs, .map (some tm), .map (some fm), .int .i64 1, .slice (some ⟨mb, 0, Option.none⟩) 1 1]) := Lib.hid HW2.out.blk
  obtain ⟨o, ho, hm⟩ : ∃ o, (Instr.mapUpdate 61 (.map (some tm)) (.int .i64 1) (.pointer (some ⟨nb, 0, Option.none⟩))).run Try.prog W2.drew = .ok () (setBlock W2.drew tm o) ∧ MapG kI (setBlock W2.drew tm o) tm (([] ++ [(⟨1, nb, ⟨1, 0, v0, v1, v2, vA, vl, vc, v4, sA, sl, sc, n, lost, of_, by_, set, full, cA, cl, cc, nA, nl, nc⟩⟩ : Ent)]).map Ent.pair) := by
    have h1 : MapG kI W2.drew tm (([] : List Ent).map Ent.pair) := HW2.out.things.keep rfl
    obtain ⟨o, h2, h3⟩ := h1.put things61 1 (.pointer (some ⟨nb, 0, Option.none⟩)) (by rfl)
    exact ⟨o, h2, h3⟩
  have HM := Lib.hid hm
  clear hm
  refine RegT.region_mix (fun i => Nat.ble i 7) (fun U => BlkN U p 64 #[ps, cs, .map (some tm), .map (some fm), .int .i64 1, .slice (some ⟨mb, 0, Option.none⟩) 1 1]) [(true, 0), (true, 1), (true, 2), (true, 3), (true, 4), (true, 5), (true, 6), (true, 7), (false, 8)] rfl (by kernel_rfl) (by kernel_rfl) (by decide) ?_
  have hS0 : BlkN W2.drew p 64 #[ps, cs, .map (some tm), .map (some fm), .int .i64 1, .slice (some ⟨mb, 0, Option.none⟩) 1 1] := HBL.out
  refine RegT.seqM_quiet hS0 rfl (fun _ _ _ h => h) (by kernel_rfl) (v := .pointer (some ⟨p, 0, Option.none⟩)) (fun w' hS => ?_) ?_
  · go_simp
  refine RegT.seqM_quiet hS0 rfl (fun _ _ _ h => h) (by kernel_rfl) (v := .pointer (some ⟨p, 0, Option.none⟩)) (fun w' hS => ?_) ?_
  · go_simp
  refine RegT.seqM_quiet hS0 rfl (fun _ _ _ h => h) (by kernel_rfl) (v := .pointer (some ⟨p, 2, Option.none⟩)) (fun w' hS => ?_) ?_
  · go_simp
  refine RegT.seqM_quiet hS0 rfl (fun _ _ _ h => h) (by kernel_rfl) (v := .map (some tm)) (fun w' hS => ?_) ?_
  · have u2 := BlkN.cell (w := w') (b := p) hS 2 rfl; go_simp
  refine RegT.seqM_quiet hS0 rfl (fun _ _ _ h => h) (by kernel_rfl) (v := .pointer (some ⟨p, 0, Option.none⟩)) (fun w' hS => ?_) ?_
  · go_simp
  refine RegT.seqM_quiet hS0 rfl (fun _ _ _ h => h) (by kernel_rfl) (v := .pointer (some ⟨p, 0, Option.none⟩)) (fun w' hS => ?_) ?_
  · go_simp
  refine RegT.seqM_quiet hS0 rfl (fun _ _ _ h => h) (by kernel_rfl) (v := .pointer (some ⟨p, 4, Option.none⟩)) (fun w' hS => ?_) ?_
  · go_simp
  refine RegT.seqM_quiet hS0 rfl (fun _ _ _ h => h) (by kernel_rfl) (v := .int .i64 1) (fun w' hS => ?_) ?_
  · have u4 := BlkN.cell (w := w') (b := p) hS 4 rfl; go_simp; first | done | decide +kernel
  clear hS0
  refine RegT.seqM_free rfl rfl ?_
  go_wp2_with fail
  refine RegT.seqM_end ?_
  simp only [RegT.NP]
  obtain ⟨W3, hW3⟩ : ∃ W3, W3 = setBlock W2.drew tm o := ⟨_, rfl⟩
  have hb3 : But tm W2 W3 := by rw [hW3]; have h := But.setBlock W2.drew tm o; exact ⟨h.os, h.tape, h.output, h.size, h.other⟩
  have HW3 : Hid (Wd W3 hi p tm fm ps cs (.slice (some ⟨mb, 0, Option.none⟩) 1 1) [⟨1, nb, ⟨1, 0, v0, v1, v2, vA, vl, vc, v4, sA, sl, sc, n, lost, of_, by_, set, full, cA, cl, cc, nA, nl, nc⟩⟩] [] 1) := Lib.hid (HW2.out.rething (L := []) hb3 (by rw [hW3]; exact HM.out) ⟨hhn, HN2.out, y, HY2.out⟩)
  have HN3 : Hid (BlkN W3 nb 53 #[.int .u8 1, .int .i64 0, .int .u8 v0, .int .i64 v1, .string v2, .slice vA vl vc, .int .i64 v4, .slice sA sl sc, .int .i64 n, .int .i64 lost, .int .i64 of_, .int .i64 by_, .int .u8 set, .bool full, .slice cA cl cc, .slice nA nl nc]) := Lib.hid ((hb3.other nb (by have := HW2.out.low; omega)).trans HN2.out)
  have HM3 : Hid (BlkN W3 mb 3 #[.int .i64 0]) := Lib.hid ((hb3.other mb m2).trans HM2.out)
  have HB3 := Lib.hid (hb3.below hlo.2.1 HB2.out)
  have HK3 : Hid (∀ b, b < w.heap.size → b ≠ p → b ≠ tm → b ≠ mb → W3.heap[b]? = w.heap[b]?) := Lib.hid fun b hb n1 n2 n3 => (hb3.other b n2).trans (HK2.out b hb n1 n2 n3)
  have hws3 : w.heap.size ≤ W3.heap.size := by rw [hb3.size, hb2s]; exact hws
  rw [← hW3]
  clear hW3 hb3 ho HM HN2 HM2 HY2 HW2 HBL
  have C45 := Lib.hid (index_not HW3.out 1 ⟨1, nb, ⟨1, 0, v0, v1, v2, vA, vl, vc, v4, sA, sl, sc, n, lost, of_, by_, set, full, cA, cl, cc, nA, nl, nc⟩⟩ rfl (show (1 : Int) ≠ 14 by decide))
  have c4 := HW3.out.blk.cell (v := .int .i64 1) 4 rfl
  have k0 := HN3.out.cell (v := .int .u8 1) 0 rfl
  go_upto_region 5 with (first | (go_at_call 45; refine C45.out.mono ?_; rintro ee w4 ⟨rfl, rfl⟩))
  clear c4 k0 C45
  have HBL : Hid (BlkN W3 p 64 #[ps, cs, .map (some tm), .map (some fm), .int .i64 1, .slice (some ⟨mb, 0, Option.none⟩) 1 1]) := Lib.hid HW3.out.blk
  refine RegT.region_mix (fun i => Nat.ble i 9) (fun U => BlkN U p 64 #[ps, cs, .map (some tm), .map (some fm), .int .i64 1, .slice (some ⟨mb, 0, Option.none⟩) 1 1] ∧ BlkN U nb 53 #[.int .u8 1, .int .i64 0, .int .u8 v0, .int .i64 v1, .string v2, .slice vA vl vc, .int .i64 v4, .slice sA sl sc, .int .i64 n, .int .i64 lost, .int .i64 of_, .int .i64 by_, .int .u8 set, .bool full, .slice cA cl cc, .slice nA nl nc] ∧ BlkN U mb 3 #[.int .i64 0]) [(true, 0), (true, 1), (true, 2), (true, 3), (true, 4), (true, 5), (true, 6), (true, 7), (true, 8), (true, 9), (false, 10)] rfl (by kernel_rfl) (by kernel_rfl) (by decide) ?_
  have hS0 : BlkN W3.drew p 64 #[ps, cs, .map (some tm), .map (some fm), .int .i64 1, .slice (some ⟨mb, 0, Option.none⟩) 1 1] ∧ BlkN W3.drew nb 53 #[.int .u8 1, .int .i64 0, .int .u8 v0, .int .i64 v1, .string v2, .slice vA vl vc, .int .i64 v4, .slice sA sl sc, .int .i64 n, .int .i64 lost, .int .i64 of_, .int .i64 by_, .int .u8 set, .bool full, .slice cA cl cc, .slice nA nl nc] ∧ BlkN W3.drew mb 3 #[.int .i64 0] := ⟨HBL.out, HN3.out, HM3.out⟩
  refine RegT.seqM_quiet hS0 rfl (fun _ _ _ h => h) (by kernel_rfl) (v := .pointer (some ⟨p, 0, Option.none⟩)) (fun w' hS => ?_) ?_
  · go_simp
  refine RegT.seqM_quiet hS0 rfl (fun _ _ _ h => h) (by kernel_rfl) (v := .pointer (some ⟨p, 0, Option.none⟩)) (fun w' hS => ?_) ?_
  · go_simp
  refine RegT.seqM_quiet hS0 rfl (fun _ _ _ h => h) (by kernel_rfl) (v := .pointer (some ⟨p, 5, Option.none⟩)) (fun w' hS => ?_) ?_
  · go_simp
  refine RegT.seqM_quiet hS0 rfl (fun _ _ _ h => h) (by kernel_rfl) (v := .slice (some ⟨mb, 0, Option.none⟩) 1 1) (fun w' hS => ?_) ?_
  · have u5 := BlkN.cell (w := w') (b := p) hS.1 5 rfl; go_simp
  refine RegT.seqM_quiet hS0 rfl (fun _ _ _ h => h) (by kernel_rfl) (v := .pointer (some ⟨nb, 1, Option.none⟩)) (fun w' hS => ?_) ?_
  · go_simp
  refine RegT.seqM_quiet hS0 rfl (fun _ _ _ h => h) (by kernel_rfl) (v := .int .i64 0) (fun w' hS => ?_) ?_
  · have u1 := BlkN.cell (w := w') (b := nb) hS.2.1 (v := .int .i64 0) 1 rfl; go_simp
  refine RegT.seqM_quiet hS0 rfl (fun _ _ _ h => h) (by kernel_rfl) (v := .pointer (some ⟨mb, 0, Option.none⟩)) (fun w' hS => ?_) ?_
  · go_simp
  refine RegT.seqM_quiet hS0 rfl (fun _ _ _ h => h) (by kernel_rfl) (v := .int .i64 0) (fun w' hS => ?_) ?_
  · have u0 := BlkN.cell (w := w') (b := mb) hS.2.2 (v := .int .i64 0) 0 rfl; go_simp
  refine RegT.seqM_quiet hS0 rfl (fun _ _ _ h => h) (by kernel_rfl) (v := .int .i64 1) (fun w' hS => ?_) ?_
  · go_simp; first | done | decide +kernel
  refine RegT.seqM_quiet hS0 rfl (fun _ _ _ h => h) (by kernel_rfl) (v := .pointer (some ⟨mb, 0, Option.none⟩)) (fun w' hS => ?_) ?_
  · go_simp
  clear hS0
  obtain ⟨W4, hW4⟩ : ∃ W4, W4 = W3.drew := ⟨_, rfl⟩
  have hb4 : Below W3.heap.size W3 W4 := by rw [hW4]; exact (Below.refl _ _).drew
  have hlo3 : lo ≤ W3.heap.size := by have := HW3.out.low; omega
  have HB4 := Lib.hid (HB3.out.trans (hb4.mono hlo3))
  have HW4 := Lib.hid (HW3.out.below hb4)
  have HK4 : Hid (∀ b, b < w.heap.size → b ≠ p → b ≠ tm → b ≠ mb → W4.heap[b]? = w.heap[b]?) := Lib.hid fun b hb n1 n2 n3 => (hb4.block b (Nat.lt_of_lt_of_le hb hws3)).trans (HK3.out b hb n1 n2 n3)
  have hws4 := Nat.le_trans hws3 hb4.size
  have HM4 := Lib.hid (HM3.out.below hb4)
  have g0 := HM4.out.cell (v := .int .i64 0) 0 rfl
  have f0 := HM4.out.free 0
  have l0 := HM4.out.lt
  rw [← hW4]
  clear hW4 hb4
  refine RegT.seqM_free rfl rfl ?_
  go_wp2_with fail
  refine RegT.seqM_end ?_
  simp only [RegT.NP]
  obtain ⟨W5, hW5⟩ : ∃ W5, W5 = W4.setCell ⟨mb, 0, Option.none⟩ (.int .i64 1) := ⟨_, rfl⟩
  have hu5 : Upd mb W4 W5 := by rw [hW5]; exact (Upd.refl _ _).set 0 _
  rw [← hW5]
  clear hW5 g0 f0
  have HW5 := Lib.hid (HW4.out.side hu5 hmh ⟨m1, m2, m3⟩)
  have HB5 := Lib.hid (below_upd HB4.out hu5 hlo.2.2.2 (by have := HW4.out.low; omega))
  have c4 := HW5.out.blk.cell (v := .int .i64 1) 4 rfl
  have HK5 : Hid (∀ b, b < w.heap.size → b ≠ p → b ≠ tm → b ≠ mb → W5.heap[b]? = w.heap[b]?) := Lib.hid fun b hb n1 n2 n3 => (hu5.block b (Nat.lt_of_lt_of_le hb hws4) n3).trans (HK4.out b hb n1 n2 n3)
  clear hu5
  go_wp2_with fail
  go_ret
  exact ⟨rfl, HB5.out, HK5.out, nb, HW5.out⟩
set_option maxRecDepth 100000 in
set_option maxHeartbeats 8000000 in
theorem make_cell (h : Wd w hi p tm fm ps cs (.slice (some ⟨mb, 0, Option.none⟩) 1 1) [] [] 0) (lo : Nat) (hlo : lo ≤ p ∧ lo ≤ tm ∧ lo ≤ fm ∧ lo ≤ mb) (hmb : BlkN w mb 3 #[.int .i64 0]) (hmh : mb < hi) :
    Calls Try.prog 12 #[.pointer (some ⟨p, 0, Option.none⟩), .agg #[.int .u8 1, .int .i64 0, .int .u8 0, .int .i64 0, .string ⟨#[]⟩, .slice Option.none 0 0, .int .i64 0, .slice Option.none 0 0, .int .i64 0, .int .i64 0, .int .i64 0, .int .i64 0, .int .u8 0, .bool false, .slice Option.none 0 0, .slice Option.none 0 0]] w fun ee w' => ee = .returned (.tuple #[.int .i64 1, .int .i64 0]) ∧ Below lo w w' ∧ ∃ (b : Nat) (s : WV), Wd w' hi p tm fm ps cs (.slice (some ⟨mb, 0, Option.none⟩) 1 1) [⟨1, b, s⟩] [] 1 ∧ s.k = 1 := by
  obtain ⟨W, hW⟩ : ∃ W, W = w.alloc (.cells #[.int .u8 1, .int .i64 0, .int .u8 0, .int .i64 0, .string ⟨#[]⟩, .slice Option.none 0 0, .int .i64 0, .slice Option.none 0 0, .int .i64 0, .int .i64 0, .int .i64 0, .int .i64 0, .int .u8 0, .bool false, .slice Option.none 0 0, .slice Option.none 0 0] 53) := ⟨_, rfl⟩
  have hbw : Below w.heap.size w W := by rw [hW]; exact (Below.refl _ _).alloc (Nat.le_refl _) _
  have HX : Hid (BlkN W w.heap.size 53 #[.int .u8 1, .int .i64 0, .int .u8 0, .int .i64 0, .string ⟨#[]⟩, .slice Option.none 0 0, .int .i64 0, .slice Option.none 0 0, .int .i64 0, .int .i64 0, .int .i64 0, .int .i64 0, .int .u8 0, .bool false, .slice Option.none 0 0, .slice Option.none 0 0]) := Lib.hid (by rw [hW]; exact BlkN.at_ rfl _ _)
  have hlw : lo ≤ w.heap.size := by have := h.low; omega
  have hxp : w.heap.size ≠ p := by have := h.low; omega
  have hxt : w.heap.size ≠ tm := by have := h.low; omega
  have hxm : w.heap.size ≠ mb := by have := h.low; omega
  have HW := Lib.hid (h.below hbw)
  have HM := Lib.hid (hmb.below hbw)
  have HB := Lib.hid hbw
  have C20 : Hid (∀ w', Below W.heap.size W w' → Calls Try.prog 20 #[.pointer (some ⟨p, 0, Option.none⟩)] w' fun e w2 => e = .returned (.bool false) ∧ w' = w2) := Lib.hid fun w' hb => none_any (HW.out.below hb)
  have C15 : Hid (∀ w', Below W.heap.size W w' → Calls Try.prog 15 #[.pointer (some ⟨p, 0, Option.none⟩), .agg #[.int .u8 1, .int .i64 0, .int .u8 0, .int .i64 0, .string ⟨#[]⟩, .slice Option.none 0 0, .int .i64 0, .slice Option.none 0 0, .int .i64 0, .int .i64 0, .int .i64 0, .int .i64 0, .int .u8 0, .bool false, .slice Option.none 0 0, .slice Option.none 0 0]] w' fun e w2 => e = .returned (.bool true) ∧ Below w'.heap.size w' w2) := Lib.hid fun w' hb => form_cell (HW.out.below hb) (by decide)
  have C27 : Hid (∀ w', Below W.heap.size W w' → Calls Try.prog 27 #[.pointer (some ⟨p, 0, Option.none⟩), .agg #[.int .u8 1, .int .i64 0, .int .u8 0, .int .i64 0, .string ⟨#[]⟩, .slice Option.none 0 0, .int .i64 0, .slice Option.none 0 0, .int .i64 0, .int .i64 0, .int .i64 0, .int .i64 0, .int .u8 0, .bool false, .slice Option.none 0 0, .slice Option.none 0 0]] w' fun e w2 => e = .returned (.bool true) ∧ Below w'.heap.size w' w2) := Lib.hid fun w' hb => (names27_any (HW.out.below hb) cellW cellP (B := 0) (cell_is w' _) (Nat.zero_le _) (by decide) (by decide)).mono fun e w2 hh => by
    obtain ⟨k1, β, rfl, k2⟩ := hh
    rw [k2 (by decide +kernel)]
    exact ⟨rfl, k1⟩
  have C30 : Hid (∀ w', Below W.heap.size W w' → Calls Try.prog 30 #[.pointer (some ⟨p, 0, Option.none⟩), .int .i64 0, .agg #[.int .u8 1, .int .i64 0, .int .u8 0, .int .i64 0, .string ⟨#[]⟩, .slice Option.none 0 0, .int .i64 0, .slice Option.none 0 0, .int .i64 0, .int .i64 0, .int .i64 0, .int .i64 0, .int .u8 0, .bool false, .slice Option.none 0 0, .slice Option.none 0 0]] w' fun e w2 => e = .returned (.bool true) ∧ Below w'.heap.size w' w2) := Lib.hid fun w' hb => (fits_any (HW.out.below hb) 0 cellW (fun e => absurd e (by decide)) (fun e => absurd e (by decide))).mono fun e w2 hh => by
    obtain ⟨k1, β, rfl, -, k2⟩ := hh
    rw [k2 rfl]
    exact ⟨rfl, k1⟩
  have C28 : Hid (∀ w', Calls Try.prog 28 #[.int .u8 1] w' fun e w2 => e = .returned (.bool false) ∧ w' = w2) := Lib.hid fun w' => asksOf_any 1 w'
  have C29 : Hid (∀ w', Calls Try.prog 29 #[.int .u8 1] w' fun e w2 => e = .returned (.bool false) ∧ w' = w2) := Lib.hid fun w' => asksBy_any 1 w'
  have C16 : Hid (∀ w', Below W.heap.size W w' → Calls Try.prog 16 #[.agg #[.int .u8 1, .int .i64 0, .int .u8 0, .int .i64 0, .string ⟨#[]⟩, .slice Option.none 0 0, .int .i64 0, .slice Option.none 0 0, .int .i64 0, .int .i64 0, .int .i64 0, .int .i64 0, .int .u8 0, .bool false, .slice Option.none 0 0, .slice Option.none 0 0]] w' fun e w2 => Below w'.heap.size w' w2 ∧ ∃ (t : WV) (y : Pt), e = .returned (.agg t.arr) ∧ SameN cellW t ∧ IsWh w2 (fun b _ => w'.heap.size ≤ b ∧ b < w2.heap.size) t y) := Lib.hid fun w' hb => ownWhat_any w' (fun _ _ => False) cellW cellP (fun _ _ h => h.elim) (cell_is w' _)
  have C31 : Hid (∀ w', Below W.heap.size W w' → ∀ (t : WV) (y : Pt), t.k = 1 → t.home = 0 → IsWh w' (fun b _ => W.heap.size ≤ b ∧ b < w'.heap.size) t y → Calls Try.prog 31 #[.pointer (some ⟨p, 0, Option.none⟩), .agg t.arr] w' fun ee w2 => ee = .returned (.int .i64 1) ∧ Below lo w' w2 ∧ (∀ b, b < w'.heap.size → b ≠ p → b ≠ tm → b ≠ mb → w2.heap[b]? = w'.heap[b]?) ∧ ∃ b, Wd w2 hi p tm fm ps cs (.slice (some ⟨mb, 0, Option.none⟩) 1 1) [⟨1, b, t⟩] [] 1) := Lib.hid fun w' hb t y hk hh hy => by
    obtain ⟨k, home, v0, v1, v2, vA, vl, vc, v4, sA, sl, sc, n, lost, of_, by_, set, full, cA, cl, cc, nA, nl, nc⟩ := t
    simp only at hk hh
    subst hk
    subst hh
    exact lay_cell (HW.out.below hb) lo hlo (HM.out.below hb) hmh v0 v1 v2 vA vl vc v4 sA sl sc n lost of_ by_ set full cA cl cc nA nl nc y (hy.mono fun b o hr => ⟨Nat.le_trans HW.out.low.2.2.2.2 hr.1, hr.2⟩)
  clear h hmb hbw
  go_enter Try.func12, Try.ntmps12
  go_upto_region 1 with fail
  rw [← hW]
  clear hW
  have q0 := HX.out.cell (v := .int .u8 1) 0 rfl
  have q1 := HX.out.cell (v := .int .i64 0) 1 rfl
  have q2 := HX.out.cell (v := .int .u8 0) 2 rfl
  have q3 := HX.out.cell (v := .int .i64 0) 3 rfl
  have q4 := HX.out.cell (v := .string ⟨#[]⟩) 4 rfl
  have q5 := HX.out.cell (v := .slice Option.none 0 0) 5 rfl
  have q6 := HX.out.cell (v := .int .i64 0) 6 rfl
  have q7 := HX.out.cell (v := .slice Option.none 0 0) 7 rfl
  have q8 := HX.out.cell (v := .int .i64 0) 8 rfl
  have q9 := HX.out.cell (v := .int .i64 0) 9 rfl
  have q10 := HX.out.cell (v := .int .i64 0) 10 rfl
  have q11 := HX.out.cell (v := .int .i64 0) 11 rfl
  have q12 := HX.out.cell (v := .int .u8 0) 12 rfl
  have q13 := HX.out.cell (v := .bool false) 13 rfl
  have q14 := HX.out.cell (v := .slice Option.none 0 0) 14 rfl
  have q15 := HX.out.cell (v := .slice Option.none 0 0) 15 rfl
  go_upto_region 5 with (first
    | (go_at_call 20; refine (C20.out _ (Below.refl _ _)).mono ?_; rintro e wA ⟨rfl, rfl⟩)
    | (go_at_call 15; refine (C15.out _ (Below.refl _ _)).mono ?_; rintro e wA ⟨rfl, hA⟩; have HA := Lib.hid hA; clear hA))
  have HXA := Lib.hid (HX.out.below HA.out)
  clear q0 q1 q2 q3 q4 q5 q6 q7 q8 q9 q10 q11 q12 q13 q14 q15
  have a0 := HXA.out.cell (v := .int .u8 1) 0 rfl
  have a1 := HXA.out.cell (v := .int .i64 0) 1 rfl
  have a2 := HXA.out.cell (v := .int .u8 0) 2 rfl
  have a3 := HXA.out.cell (v := .int .i64 0) 3 rfl
  have a4 := HXA.out.cell (v := .string ⟨#[]⟩) 4 rfl
  have a5 := HXA.out.cell (v := .slice Option.none 0 0) 5 rfl
  have a6 := HXA.out.cell (v := .int .i64 0) 6 rfl
  have a7 := HXA.out.cell (v := .slice Option.none 0 0) 7 rfl
  have a8 := HXA.out.cell (v := .int .i64 0) 8 rfl
  have a9 := HXA.out.cell (v := .int .i64 0) 9 rfl
  have a10 := HXA.out.cell (v := .int .i64 0) 10 rfl
  have a11 := HXA.out.cell (v := .int .i64 0) 11 rfl
  have a12 := HXA.out.cell (v := .int .u8 0) 12 rfl
  have a13 := HXA.out.cell (v := .bool false) 13 rfl
  have a14 := HXA.out.cell (v := .slice Option.none 0 0) 14 rfl
  have a15 := HXA.out.cell (v := .slice Option.none 0 0) 15 rfl
  go_upto_region 7 with (first
    | (go_at_call 27; refine (C27.out _ HA.out).mono ?_; rintro e wB ⟨rfl, hB2⟩; have HBB := Lib.hid (bnext HA.out hB2); have HXB := Lib.hid (HXA.out.below hB2); have b0 := HXB.out.cell (v := .int .u8 1) 0 rfl; clear hB2)
    | (go_at_call 28; refine (C28.out _).mono ?_; rintro e wC ⟨rfl, rfl⟩)
    | (go_at_call 29; refine (C29.out _).mono ?_; rintro e wC ⟨rfl, rfl⟩))
  clear b0 a0 a1 a2 a3 a4 a5 a6 a7 a8 a9 a10 a11 a12 a13 a14 a15
  have b0 := HXB.out.cell (v := .int .u8 1) 0 rfl
  have b1 := HXB.out.cell (v := .int .i64 0) 1 rfl
  have b2 := HXB.out.cell (v := .int .u8 0) 2 rfl
  have b3 := HXB.out.cell (v := .int .i64 0) 3 rfl
  have b4 := HXB.out.cell (v := .string ⟨#[]⟩) 4 rfl
  have b5 := HXB.out.cell (v := .slice Option.none 0 0) 5 rfl
  have b6 := HXB.out.cell (v := .int .i64 0) 6 rfl
  have b7 := HXB.out.cell (v := .slice Option.none 0 0) 7 rfl
  have b8 := HXB.out.cell (v := .int .i64 0) 8 rfl
  have b9 := HXB.out.cell (v := .int .i64 0) 9 rfl
  have b10 := HXB.out.cell (v := .int .i64 0) 10 rfl
  have b11 := HXB.out.cell (v := .int .i64 0) 11 rfl
  have b12 := HXB.out.cell (v := .int .u8 0) 12 rfl
  have b13 := HXB.out.cell (v := .bool false) 13 rfl
  have b14 := HXB.out.cell (v := .slice Option.none 0 0) 14 rfl
  have b15 := HXB.out.cell (v := .slice Option.none 0 0) 15 rfl
  go_upto_region 9 with (first
    | (go_at_call 30; refine (C30.out _ HBB.out).mono ?_; rintro e wD ⟨rfl, hD⟩; have HD := Lib.hid (bnext HBB.out hD); have HXD := Lib.hid (HXB.out.below hD); clear hD))
  clear b0 b1 b2 b3 b4 b5 b6 b7 b8 b9 b10 b11 b12 b13 b14 b15
  have d0 := HXD.out.cell (v := .int .u8 1) 0 rfl
  have d1 := HXD.out.cell (v := .int .i64 0) 1 rfl
  have d2 := HXD.out.cell (v := .int .u8 0) 2 rfl
  have d3 := HXD.out.cell (v := .int .i64 0) 3 rfl
  have d4 := HXD.out.cell (v := .string ⟨#[]⟩) 4 rfl
  have d5 := HXD.out.cell (v := .slice Option.none 0 0) 5 rfl
  have d6 := HXD.out.cell (v := .int .i64 0) 6 rfl
  have d7 := HXD.out.cell (v := .slice Option.none 0 0) 7 rfl
  have d8 := HXD.out.cell (v := .int .i64 0) 8 rfl
  have d9 := HXD.out.cell (v := .int .i64 0) 9 rfl
  have d10 := HXD.out.cell (v := .int .i64 0) 10 rfl
  have d11 := HXD.out.cell (v := .int .i64 0) 11 rfl
  have d12 := HXD.out.cell (v := .int .u8 0) 12 rfl
  have d13 := HXD.out.cell (v := .bool false) 13 rfl
  have d14 := HXD.out.cell (v := .slice Option.none 0 0) 14 rfl
  have d15 := HXD.out.cell (v := .slice Option.none 0 0) 15 rfl
  have HWD := Lib.hid (HW.out.below HD.out)
  have HMD := Lib.hid (HM.out.below HD.out)
  have m5 := HWD.out.blk.cell (v := .slice (some ⟨mb, 0, Option.none⟩) 1 1) 5 rfl
  have m0 := HMD.out.cell (v := .int .i64 0) 0 rfl
  go_quiet (fail)
  obtain ⟨wE, hE⟩ : ∃ wE, wE = wD.drewN nq := ⟨_, rfl⟩
  have HBE : Hid (Below W.heap.size W wE) := Lib.hid (by rw [hE]; exact HD.out.trans (belowD _ _))
  have HXE : Hid (BlkN wE w.heap.size 53 #[.int .u8 1, .int .i64 0, .int .u8 0, .int .i64 0, .string ⟨#[]⟩, .slice Option.none 0 0, .int .i64 0, .slice Option.none 0 0, .int .i64 0, .int .i64 0, .int .i64 0, .int .i64 0, .int .u8 0, .bool false, .slice Option.none 0 0, .slice Option.none 0 0]) := Lib.hid (by rw [hE]; exact HXD.out.below (belowD _ _))
  rw [← hE]
  clear hE m5 m0 d0 d1 d2 d3 d4 d5 d6 d7 d8 d9 d10 d11 d12 d13 d14 d15
  have e0 := HXE.out.cell (v := .int .u8 1) 0 rfl
  have e1 := HXE.out.cell (v := .int .i64 0) 1 rfl
  have e2 := HXE.out.cell (v := .int .u8 0) 2 rfl
  have e3 := HXE.out.cell (v := .int .i64 0) 3 rfl
  have e4 := HXE.out.cell (v := .string ⟨#[]⟩) 4 rfl
  have e5 := HXE.out.cell (v := .slice Option.none 0 0) 5 rfl
  have e6 := HXE.out.cell (v := .int .i64 0) 6 rfl
  have e7 := HXE.out.cell (v := .slice Option.none 0 0) 7 rfl
  have e8 := HXE.out.cell (v := .int .i64 0) 8 rfl
  have e9 := HXE.out.cell (v := .int .i64 0) 9 rfl
  have e10 := HXE.out.cell (v := .int .i64 0) 10 rfl
  have e11 := HXE.out.cell (v := .int .i64 0) 11 rfl
  have e12 := HXE.out.cell (v := .int .u8 0) 12 rfl
  have e13 := HXE.out.cell (v := .bool false) 13 rfl
  have e14 := HXE.out.cell (v := .slice Option.none 0 0) 14 rfl
  have e15 := HXE.out.cell (v := .slice Option.none 0 0) 15 rfl
  go_upto_region 12 with (first
    | (go_at_call 16; refine (C16.out _ HBE.out).mono ?_; rintro e wF ⟨hF, t, y, rfl, hsn, hwh⟩; have HF := Lib.hid (bnext HBE.out hF); have HXF := Lib.hid (HXE.out.below hF); have hWE := HBE.out.size; have C31t := Lib.hid (C31.out _ HF.out t y hsn.1 hsn.2.1 (hwh.mono fun b o hr => ⟨Nat.le_trans hWE hr.1, hr.2⟩)); have HTK := Lib.hid hsn.1; clear hF hsn hwh)
    | (go_at_call 31; refine C31t.out.mono ?_; rintro e wG ⟨rfl, hG, hK, b, hWG⟩; have HG := Lib.hid hG; have HWG := Lib.hid hWG; have hXG : BlkN wG w.heap.size 53 #[.int .u8 1, .int .i64 0, .int .u8 0, .int .i64 0, .string ⟨#[]⟩, .slice Option.none 0 0, .int .i64 0, .slice Option.none 0 0, .int .i64 0, .int .i64 0, .int .i64 0, .int .i64 0, .int .u8 0, .bool false, .slice Option.none 0 0, .slice Option.none 0 0] := (hK _ HXF.out.lt hxp hxt hxm).trans HXF.out; have g0 := hXG.cell (v := .int .u8 1) 0 rfl; clear hG hWG hK hXG))
  go_wp2_with fail
  go_ret2
  exact ⟨rfl, ((HB.out.mono hlw).trans ((HF.out.mono (Nat.le_trans hlw HB.out.size)))).trans HG.out, b, t, HWG.out, HTK.out⟩
end
end Go.Proofs.Ythafojadcodkoaa
