/- index, lay (of a facet), Facet, narrow, Narrow. -/
import Derived.Test.YthafojadcodkoaaTh
import Derived.Test.YthafojadcodkoaaTi
namespace Go.Proofs.Ythafojadcodkoaa
open Go.RowKit Go.ChangeMaps

theorem entE_none {L : List Ent} {r : Int} (h : ∀ e ∈ L, e.r ≠ r) : entE L r = none := by
  unfold entE
  rw [List.find?_eq_none]
  intro e he
  simpa using h e he
theorem entE_snoc {L : List Ent} {e : Ent} {r : Int} (h : entE L e.r = none) : entE (L ++ [e]) r = if r = e.r then some e else entE L r := by
  unfold entE at h ⊢
  rw [List.find?_append]
  by_cases hr : r = e.r
  · rw [if_pos hr]
    subst hr
    rw [h]
    simp
  · rw [if_neg hr]
    have : List.find? (fun x => decide (x.r = r)) [e] = none := by simp; exact fun e => hr e.symm
    rw [this]
    simp
theorem fc_snoc {FL : List ((Int × Nat) × Int)} {t : Int} {a : Nat} {f : Int} (h : fc FL t a = none) : fc (FL ++ [((t, a), f)]) = addF (fc FL) f t a := by
  funext o s
  unfold addF
  have e1 : fc (FL ++ [((t, a), f)]) o s = ((FL.find? (fun f => decide (f.1 = (o, s)))).or (List.find? (fun f => decide (f.1 = (o, s))) [((t, a), f)])).map (·.2) := by unfold fc; rw [List.find?_append]
  rw [e1]
  unfold fc at h ⊢
  by_cases hos : o = t ∧ s = a
  · obtain ⟨rfl, rfl⟩ := hos
    rw [if_pos ⟨rfl, rfl⟩]
    have h0 : FL.find? (fun f => decide (f.1 = (o, s))) = none := by simpa using h
    rw [h0]
    simp
  · rw [if_neg hos]
    have : List.find? (fun f => decide (f.1 = (o, s))) [((t, a), f)] = none := by
      simp
      intro h1 h2
      exact hos ⟨h1.symm, h2.symm⟩
    rw [this]
    simp
section
variable {w : World} {hi p tm fm : Nat} {ps cs : Value} {mA : Option Addr} {ml mc : Nat} {L : List Ent} {FL : List ((Int × Nat) × Int)} {lt : Int}
theorem But.setBlock (w : World) (b : Nat) (o : Obj) : But b w (setBlock w b o) :=
  ⟨rfl, rfl, rfl, by simp [Go.ChangeMaps.setBlock], fun k hk => by show (w.heap.setIfInBounds b o)[k]? = _; rw [Array.getElem?_setIfInBounds_ne (Ne.symm hk)]⟩
theorem Wd.pne (h : Wd w hi p tm fm ps cs (.slice mA ml mc) L FL lt) : p ≠ tm ∧ p ≠ fm := by
  have h1 : w.heap[p]? = some (.cells _ _ (0, 0)) := h.blk
  obtain ⟨es, c, h2, -⟩ := h.things
  obtain ⟨fs, d, h3, -⟩ := h.facets
  refine ⟨fun e => ?_, fun e => ?_⟩
  · rw [e, h2] at h1; cases h1
  · rw [e, h3] at h1; cases h1
theorem Wd.refound {w' : World} {FL' : List ((Int × Nat) × Int)} (h : Wd w hi p tm fm ps cs (.slice mA ml mc) L FL lt) (hb : But fm w w') (hm : MapG kF w' fm (FL'.map fun f => (f.1, .int .i64 f.2))) : Wd w' hi p tm fm ps cs (.slice mA ml mc) L FL' lt := by
  obtain ⟨n1, n2⟩ := h.pne
  obtain ⟨h1, h2, h3, h4, h5⟩ := h
  refine ⟨(hb.other p n2).trans h1, h2.keep (hb.other tm h5.2.2.2.1), hm, fun e he => ?_, ⟨h5.1, h5.2.1, h5.2.2.1, h5.2.2.2.1, by rw [hb.size]; exact h5.2.2.2.2⟩⟩
  obtain ⟨k1, k2, x, k3⟩ := h4 e he
  refine ⟨k1, (hb.other e.b (by have := h5.2.2.1; omega)).trans k2, x, ?_⟩
  rw [hb.size]
  exact k3.keep fun b o hr => hb.other b (by have := hr.1; have := h5.2.2.1; omega)
set_option maxRecDepth 100000 in
set_option maxHeartbeats 4000000 in
theorem index_any (h : Wd w hi p tm fm ps cs (.slice mA ml mc) L FL lt) (r : Int) (e : Ent) (hE : entE L r = some e) (hk : e.s.k = 14) (hn : fc FL e.s.of_ e.s.set = none) : Calls Try.prog 45 #[.pointer (some ⟨p, 0, Option.none⟩), .int .i64 r] w fun ee w' => ee = .returned (.tuple #[]) ∧ But fm w w' ∧ Wd w' hi p tm fm ps cs (.slice mA ml mc) L (FL ++ [((e.s.of_, e.s.set), r)]) lt := by
  have hl := h.look r
  rw [hE] at hl
  have c2 := h.blk.cell 2 rfl
  have c3 := h.blk.cell 3 rfl
  obtain ⟨hib, hblk, x, hwh⟩ := h.each _ (entE_mem hE).1
  have HW := Lib.hid h
  have HF : Hid (∀ W : World, W.heap = w.heap → ∃ o, (Instr.mapUpdate 62 (.map (some fm)) (.agg #[.int .i64 e.s.of_, .int .u8 e.s.set]) (.int .i64 r)).run Try.prog W = .ok () (setBlock W fm o) ∧ MapG kF (setBlock W fm o) fm ((FL ++ [((e.s.of_, e.s.set), r)]).map fun f => (f.1, .int .i64 f.2))) := Lib.hid (fun W hW => by
    have h1 : MapG kF W fm (FL.map fun f => (f.1, Value.int .i64 f.2)) := h.facets.keep (by rw [hW])
    obtain ⟨o, h2, h3⟩ := h1.put facets62 (e.s.of_, e.s.set) (.int .i64 r) (by rw [look_fc, hn]; rfl)
    exact ⟨o, h2, by rw [List.map_append]; exact h3⟩)
  obtain ⟨er, b, s⟩ := e
  simp only at hib hblk hk HF ⊢
  have k0 := hblk.cell 0 s.at0
  have k10 := hblk.cell 10 s.at10
  have k12 := hblk.cell 12 s.at12
  have hq : ((s.k : Int) == 14) = true := by rw [hk]; rfl
  obtain ⟨ot, hot⟩ : ∃ ot, ot = s.of_ := ⟨_, rfl⟩
  obtain ⟨st, hst⟩ : ∃ st, st = s.set := ⟨_, rfl⟩
  rw [← hot] at k10 HF ⊢
  rw [← hst] at k12 HF ⊢
  clear h hE hwh hblk hn hot hst
  go_enter Try.func45, Try.ntmps45
  go_upto_region 2 with fail
  clear hl c2 k0 hq
  refine RegT.region_mix (fun i => Nat.ble i 13) (fun U => U.cell? ⟨p, 3, Option.none⟩ = some (.map (some fm)) ∧ U.cell? ⟨b, 10, Option.none⟩ = some (.int .i64 ot) ∧ U.cell? ⟨b, 12, Option.none⟩ = some (.int .u8 st)) [(true, 0), (true, 1), (true, 2), (true, 3), (true, 4), (true, 5), (true, 6), (true, 7), (true, 8), (true, 9), (true, 10), (true, 11), (true, 12), (true, 13), (false, 14)] rfl (by kernel_rfl) (by kernel_rfl) (by decide) ?_
  have hS0 : w.drew.cell? ⟨p, 3, Option.none⟩ = some (.map (some fm)) ∧ w.drew.cell? ⟨b, 10, Option.none⟩ = some (.int .i64 ot) ∧ w.drew.cell? ⟨b, 12, Option.none⟩ = some (.int .u8 st) := ⟨c3, k10, k12⟩
  refine RegT.seqM_quiet hS0 rfl (fun _ _ _ h => h) (by kernel_rfl) (v := .pointer (some ⟨p, 0, Option.none⟩)) (fun w' hS => ?_) ?_
  · go_simp
  refine RegT.seqM_quiet hS0 rfl (fun _ _ _ h => h) (by kernel_rfl) (v := .pointer (some ⟨p, 0, Option.none⟩)) (fun w' hS => ?_) ?_
  · go_simp
  refine RegT.seqM_quiet hS0 rfl (fun _ _ _ h => h) (by kernel_rfl) (v := .pointer (some ⟨p, 3, Option.none⟩)) (fun w' hS => ?_) ?_
  · go_simp
  refine RegT.seqM_quiet hS0 rfl (fun _ _ _ h => h) (by kernel_rfl) (v := .map (some fm)) (fun w' hS => ?_) ?_
  · obtain ⟨u1, u2, u3⟩ := hS; go_simp
  refine RegT.seqM_quiet hS0 rfl (fun _ _ _ h => h) (by kernel_rfl) (v := .pointer (some ⟨b, 0, Option.none⟩)) (fun w' hS => ?_) ?_
  · go_simp
  refine RegT.seqM_quiet hS0 rfl (fun _ _ _ h => h) (by kernel_rfl) (v := .pointer (some ⟨b, 0, Option.none⟩)) (fun w' hS => ?_) ?_
  · go_simp
  refine RegT.seqM_quiet hS0 rfl (fun _ _ _ h => h) (by kernel_rfl) (v := .pointer (some ⟨b, 10, Option.none⟩)) (fun w' hS => ?_) ?_
  · go_simp
  refine RegT.seqM_quiet hS0 rfl (fun _ _ _ h => h) (by kernel_rfl) (v := .int .i64 ot) (fun w' hS => ?_) ?_
  · obtain ⟨u1, u2, u3⟩ := hS; go_simp
  refine RegT.seqM_quiet hS0 rfl (fun _ _ _ h => h) (by kernel_rfl) (v := .pointer (some ⟨b, 0, Option.none⟩)) (fun w' hS => ?_) ?_
  · go_simp
  refine RegT.seqM_quiet hS0 rfl (fun _ _ _ h => h) (by kernel_rfl) (v := .pointer (some ⟨b, 0, Option.none⟩)) (fun w' hS => ?_) ?_
  · go_simp
  refine RegT.seqM_quiet hS0 rfl (fun _ _ _ h => h) (by kernel_rfl) (v := .pointer (some ⟨b, 12, Option.none⟩)) (fun w' hS => ?_) ?_
  · go_simp
  refine RegT.seqM_quiet hS0 rfl (fun _ _ _ h => h) (by kernel_rfl) (v := .int .u8 st) (fun w' hS => ?_) ?_
  · obtain ⟨u1, u2, u3⟩ := hS; go_simp
  refine RegT.seqM_quiet hS0 rfl (fun _ _ _ h => h) (by kernel_rfl) (v := .agg #[.int .i64 ot, .int .u8 st]) (fun w' hS => ?_) ?_
  · go_simp
  refine RegT.seqM_quiet hS0 rfl (fun _ _ _ h => h) (by kernel_rfl) (v := .int .i64 r) (fun w' hS => ?_) ?_
  · go_simp
  clear hS0
  refine RegT.seqM_free rfl rfl ?_
  obtain ⟨o, ho, hm⟩ := HF.out w.drew rfl
  have HM := Lib.hid hm
  clear hm c3 k10 k12
  go_wp2_with fail
  refine RegT.seqM_end ?_
  simp only [RegT.NP]
  go_wp2_with fail
  go_end0
  have hb : But fm w (setBlock w.drew fm o) := let h := But.setBlock w.drew fm o; ⟨h.os, h.tape, h.output, h.size, h.other⟩
  exact ⟨rfl, hb, HW.out.refound hb HM.out⟩
end
end Go.Proofs.Ythafojadcodkoaa
