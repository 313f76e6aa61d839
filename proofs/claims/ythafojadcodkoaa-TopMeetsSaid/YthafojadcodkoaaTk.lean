/- lay, of a facet. -/
import Derived.Test.YthafojadcodkoaaTj
namespace Go.Proofs.Ythafojadcodkoaa
open Go.RowKit Go.ChangeMaps

def facetV (t : Int) (a : Nat) : WV := ⟨14, 0, 0, 0, ⟨#[]⟩, Option.none, 0, 0, 0, Option.none, 0, 0, 0, 0, t, 0, a, false, Option.none, 0, 0, Option.none, 0, 0⟩
theorem facetV_arr (t : Int) (a : Nat) : (facetV t a).arr = #[.int .u8 14, .int .i64 0, .int .u8 0, .int .i64 0, .string ⟨#[]⟩, .slice Option.none 0 0, .int .i64 0, .slice Option.none 0 0, .int .i64 0, .int .i64 0, .int .i64 t, .int .i64 0, .int .u8 a, .bool false, .slice Option.none 0 0, .slice Option.none 0 0] := rfl
def zPt : Pt := ⟨.mk 0 0 ⟨#[]⟩ [] 0, [], [], []⟩
theorem LR.nil {α : Type} (R : Nat → Nat → Prop) (sz : Nat) (p : Nat → Nat → Prop) : LR R sz Option.none 0 0 ([] : List α) p := ⟨rfl, by simp, by simp, fun h => absurd rfl h⟩
theorem zVa_is (w : World) (R : Nat → Nat → Prop) : IsVaR w R (.agg #[.int .u8 0, .int .i64 0, .string ⟨#[]⟩, .slice Option.none 0 0, .int .i64 0]) (.mk 0 0 ⟨#[]⟩ [] 0) := by
  unfold IsVaR
  exact ⟨by decide, by decide, by decide, by decide, Option.none, 0, by decide, rfl, fun h => absurd rfl h⟩
theorem facet_is (w : World) (R : Nat → Nat → Prop) (t : Int) (a : Nat) (ha : a < 256) : IsWh w R (facetV t a) zPt :=
  ⟨⟨by show (0 : Int) ≤ 14; decide, by show (14 : Int) < 256; decide, ha⟩, zVa_is w R, LR.nil _ _ _, LR.nil _ _ _, LR.nil _ _ _⟩
section
variable {w : World} {hi p tm fm : Nat} {ps cs : Value} {mA : Option Addr} {ml mc : Nat} {L : List Ent} {FL : List ((Int × Nat) × Int)} {lt : Int}
theorem Wd.setLast (h : Wd w hi p tm fm ps cs (.slice mA ml mc) L FL lt) (l2 : Int) : Wd (w.setCell ⟨p, 4, Option.none⟩ (.int .i64 l2)) hi p tm fm ps cs (.slice mA ml mc) L FL l2 := by
  obtain ⟨n1, n2⟩ := h.pne
  obtain ⟨h1, h2, h3, h4, h5⟩ := h
  have hb : But p w (w.setCell ⟨p, 4, Option.none⟩ (.int .i64 l2)) := ⟨rfl, rfl, rfl, by simp [World.setCell], fun k hk => Below.heap_setCell _ _ _ _ hk⟩
  refine ⟨by have := BlkN.set h1 4 (.int .i64 l2); simpa using this, h2.keep (hb.other tm (Ne.symm n1)), h3.keep (hb.other fm (Ne.symm n2)), fun e he => ?_, ⟨h5.1, h5.2.1, h5.2.2.1, h5.2.2.2.1, by rw [hb.size]; exact h5.2.2.2.2⟩⟩
  obtain ⟨k1, k2, x, k3⟩ := h4 e he
  refine ⟨k1, (hb.other e.b (by have := h5.1; omega)).trans k2, x, ?_⟩
  rw [hb.size]
  exact k3.keep fun b o hr => hb.other b (by have := hr.1; have := h5.1; omega)
theorem Wd.rething {w' : World} {x : Ent} (h : Wd w hi p tm fm ps cs (.slice mA ml mc) L FL lt) (hb : But tm w w') (hm : MapG kI w' tm ((L ++ [x]).map Ent.pair)) (hx : hi ≤ x.b ∧ BlkN w x.b 53 x.s.arr ∧ ∃ y, IsWh w (fun b _ => hi ≤ b ∧ b < w.heap.size) x.s y) : Wd w' hi p tm fm ps cs (.slice mA ml mc) (L ++ [x]) FL lt := by
  obtain ⟨n1, n2⟩ := h.pne
  obtain ⟨h1, h2, h3, h4, h5⟩ := h
  refine ⟨(hb.other p n1).trans h1, hm, h3.keep (hb.other fm (Ne.symm h5.2.2.2.1)), fun e he => ?_, ⟨h5.1, h5.2.1, h5.2.2.1, h5.2.2.2.1, by rw [hb.size]; exact h5.2.2.2.2⟩⟩
  have h6 : hi ≤ e.b ∧ BlkN w e.b 53 e.s.arr ∧ ∃ y, IsWh w (fun b _ => hi ≤ b ∧ b < w.heap.size) e.s y := by
    rcases List.mem_append.1 he with he | he
    · exact h4 e he
    · rw [List.mem_singleton.1 he]; exact hx
  obtain ⟨k1, k2, x, k3⟩ := h6
  refine ⟨k1, (hb.other e.b (by have := h5.2.1; omega)).trans k2, x, ?_⟩
  rw [hb.size]
  exact k3.keep fun b o hr => hb.other b (by have := hr.1; have := h5.2.1; omega)
set_option maxRecDepth 100000 in
set_option maxHeartbeats 4000000 in
theorem lay_any (h : Wd w hi p tm fm ps cs (.slice mA ml mc) L FL lt) (lo : Nat) (hlo : lo ≤ p ∧ lo ≤ tm ∧ lo ≤ fm) (hl0 : -9223372036854775808 ≤ lt) (hlt : lt ≤ 4611686018427387904) (hnew : ∀ e ∈ L, e.r ≤ lt) (t : Int) (a : Nat) (ha : a < 256) (hn : fc FL t a = none) :
    Calls Try.prog 31 #[.pointer (some ⟨p, 0, Option.none⟩), .agg #[.int .u8 14, .int .i64 0, .int .u8 0, .int .i64 0, .string ⟨#[]⟩, .slice Option.none 0 0, .int .i64 0, .slice Option.none 0 0, .int .i64 0, .int .i64 0, .int .i64 t, .int .i64 0, .int .u8 a, .bool false, .slice Option.none 0 0, .slice Option.none 0 0]] w fun ee w' => ee = .returned (.int .i64 (lt + 1)) ∧ Below lo w w' ∧ ∃ b, Wd w' hi p tm fm ps cs (.slice mA ml mc) (L ++ [⟨lt + 1, b, facetV t a⟩]) (FL ++ [((t, a), lt + 1)]) (lt + 1) := by
  obtain ⟨nb, hnb⟩ : ∃ n, n = w.heap.size := ⟨_, rfl⟩
  have hhi := h.low.2.2.2.2
  obtain ⟨W, hW⟩ : ∃ W, W = w.alloc (.cells #[.int .u8 14, .int .i64 0, .int .u8 0, .int .i64 0, .string ⟨#[]⟩, .slice Option.none 0 0, .int .i64 0, .slice Option.none 0 0, .int .i64 0, .int .i64 0, .int .i64 t, .int .i64 0, .int .u8 a, .bool false, .slice Option.none 0 0, .slice Option.none 0 0] 53) := ⟨_, rfl⟩
  have hbw : Below w.heap.size w W := by rw [hW]; exact (Below.refl _ _).alloc (Nat.le_refl _) _
  have HWW := Lib.hid (h.below hbw)
  have HN : Hid (BlkN W nb 53 (facetV t a).arr) := Lib.hid (by rw [hW, hnb]; exact BlkN.at_ rfl _ _)
  have hp0 := h.low.1
  have HBW := Lib.hid (hbw.mono (show lo ≤ w.heap.size by omega))
  have hhn : hi ≤ nb := by omega
  have hpW := HWW.out.blk.lt
  have c4 := HWW.out.blk.cell 4 rfl
  have f4 := HWW.out.blk.free 4
  have HNEW := Lib.hid hnew
  have HFN := Lib.hid hn
  clear h hnew hn hbw
  go_enter Try.func31, Try.ntmps31
  go_upto_region 1 with fail
  rw [← hW, ← hnb]
  clear hW hnb
  go_upto_region 2 with fail
  obtain ⟨W2, hW2⟩ : ∃ W2, W2 = W.setCell ⟨p, 4, Option.none⟩ (.int .i64 (lt + 1)) := ⟨_, rfl⟩
  have HW2 : Hid (Wd W2 hi p tm fm ps cs (.slice mA ml mc) L FL (lt + 1)) := Lib.hid (by rw [hW2]; exact HWW.out.setLast (lt + 1))
  have hb2 : But p W W2 := by rw [hW2]; exact ⟨rfl, rfl, rfl, by simp [World.setCell], fun k hk => Below.heap_setCell _ _ _ _ hk⟩
  have HN2 : Hid (BlkN W2 nb 53 (facetV t a).arr) := Lib.hid ((hb2.other nb (by omega)).trans HN.out)
  have HB2 := Lib.hid (hb2.below hlo.1 HBW.out)
  rw [← hW2]
  clear hW2 hb2 c4 f4 hpW
  have HBL : Hid (BlkN W2 p 64 #[ps, cs, .map (some tm), .map (some fm), .int .i64 (lt + 1), .slice mA ml mc]) := Lib.hid HW2.out.blk
  obtain ⟨o, ho, hm⟩ : ∃ o, (Instr.mapUpdate 61 (.map (some tm)) (.int .i64 (lt + 1)) (.pointer (some ⟨nb, 0, Option.none⟩))).run Try.prog W2.drew = .ok () (setBlock W2.drew tm o) ∧ MapG kI (setBlock W2.drew tm o) tm ((L ++ [(⟨lt + 1, nb, facetV t a⟩ : Ent)]).map Ent.pair) := by
    have h1 : MapG kI W2.drew tm (L.map Ent.pair) := HW2.out.things.keep rfl
    obtain ⟨o, h2, h3⟩ := h1.put things61 (lt + 1) (.pointer (some ⟨nb, 0, Option.none⟩)) (by rw [look_ent, entE_none (fun e he => by have := HNEW.out e he; omega)]; rfl)
    exact ⟨o, h2, by rw [List.map_append]; exact h3⟩
  have HM := Lib.hid hm
  clear hm
  refine RegT.region_mix (fun i => Nat.ble i 7) (fun U => BlkN U p 64 #[ps, cs, .map (some tm), .map (some fm), .int .i64 (lt + 1), .slice mA ml mc]) [(true, 0), (true, 1), (true, 2), (true, 3), (true, 4), (true, 5), (true, 6), (true, 7), (false, 8)] rfl (by kernel_rfl) (by kernel_rfl) (by decide) ?_
  have hS0 : BlkN W2.drew p 64 #[ps, cs, .map (some tm), .map (some fm), .int .i64 (lt + 1), .slice mA ml mc] := HBL.out
  refine RegT.seqM_quiet hS0 rfl (fun _ _ _ h => h) (by kernel_rfl) (v := .pointer (some ⟨p, 0, Option.none⟩)) (fun w' hS => ?_) ?_
  · go_simp
  refine RegT.seqM_quiet hS0 rfl (fun _ _ _ h => h) (by kernel_rfl) (v := .pointer (some ⟨p, 0, Option.none⟩)) (fun w' hS => ?_) ?_
  · go_simp
  refine RegT.seqM_quiet hS0 rfl (fun _ _ _ h => h) (by kernel_rfl) (v := .pointer (some ⟨p, 2, Option.none⟩)) (fun w' hS => ?_) ?_
  · go_simp
  refine RegT.seqM_quiet hS0 rfl (fun _ _ _ h => h) (by kernel_rfl) (v := .map (some tm)) (fun w' hS => ?_) ?_
  · have u2 := BlkN.cell (w := w') (b := p) hS 2 rfl; go_simp
  refine RegT.seqM_quiet hS0 rfl (fun _ _ _ h => h) (by kernel_rfl) (v := .pointer (some ⟨p, 0, Option.none⟩)) (fun w' hS => ?_) ?_
  · go_simp
  refine RegT.seqM_quiet hS0 rfl (fun _ _ _ h => h) (by kernel_rfl) (v := .pointer (some ⟨p, 0, Option.none⟩)) (fun w' hS => ?_) ?_
  · go_simp
  refine RegT.seqM_quiet hS0 rfl (fun _ _ _ h => h) (by kernel_rfl) (v := .pointer (some ⟨p, 4, Option.none⟩)) (fun w' hS => ?_) ?_
  · go_simp
  refine RegT.seqM_quiet hS0 rfl (fun _ _ _ h => h) (by kernel_rfl) (v := .int .i64 (lt + 1)) (fun w' hS => ?_) ?_
  · have u4 := BlkN.cell (w := w') (b := p) hS 4 rfl; go_simp
  clear hS0
  refine RegT.seqM_free rfl rfl ?_
  go_wp2_with fail
  refine RegT.seqM_end ?_
  simp only [RegT.NP]
  obtain ⟨W3, hW3⟩ : ∃ W3, W3 = setBlock W2.drew tm o := ⟨_, rfl⟩
  have hb3 : But tm W2 W3 := by rw [hW3]; have h := But.setBlock W2.drew tm o; exact ⟨h.os, h.tape, h.output, h.size, h.other⟩
  have HW3 : Hid (Wd W3 hi p tm fm ps cs (.slice mA ml mc) (L ++ [⟨lt + 1, nb, facetV t a⟩]) FL (lt + 1)) := Lib.hid (HW2.out.rething hb3 (by rw [hW3]; exact HM.out) ⟨hhn, HN2.out, zPt, facet_is _ _ t a ha⟩)
  have HB3 := Lib.hid (hb3.below hlo.2.1 HB2.out)
  rw [← hW3]
  clear hW3 hb3 ho HM HN2 HW2 HBL
  have hE3 : entE (L ++ [(⟨lt + 1, nb, facetV t a⟩ : Ent)]) (lt + 1) = some ⟨lt + 1, nb, facetV t a⟩ := by
    rw [entE_snoc (e := ⟨lt + 1, nb, facetV t a⟩) (entE_none (fun e he => by have := HNEW.out e he; show e.r ≠ lt + 1; omega))]
    exact if_pos rfl
  have C45 := Lib.hid (index_any HW3.out (lt + 1) _ hE3 rfl HFN.out)
  have c4 := HW3.out.blk.cell 4 rfl
  go_upto_region 4 with (first | (go_at_call 45; refine C45.out.mono ?_; rintro ee w4 ⟨rfl, hb4, hw4⟩; have HB4 := Lib.hid (hb4.below hlo.2.2 HB3.out); have HW4 := Lib.hid hw4; clear hb4 hw4))
  have c4' := HW4.out.blk.cell 4 rfl
  have k0 := (HW4.out.each ⟨lt + 1, nb, facetV t a⟩ (by simp)).2.1.cell 0 (facetV t a).at0
  clear c4
  go_wp2_with fail
  go_ret
  exact ⟨rfl, HB4.out, nb, HW4.out⟩
end
end Go.Proofs.Ythafojadcodkoaa
