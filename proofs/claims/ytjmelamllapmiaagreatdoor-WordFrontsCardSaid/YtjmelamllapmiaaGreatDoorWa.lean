/- The statements' same: three values that are one; the first one's list is written over. -/
import Derived.Test.YtjmelamllapmiaaGreatDoorW
import Derived.Test.YtjmelamllapmiaaGreatDoorH
namespace Go.Proofs.YtjmelamllapmiaaGreatDoor
open Go.RowKit

theorem Upd.toLow {p lo : Nat} {w w' : World} (h : Upd p w w') (hp : lo ≤ p) (hs : lo ≤ w.heap.size) : Below lo w w' := ⟨h.os, h.tape, h.output, h.size, fun k hk => h.block k (by omega) (by omega)⟩
theorem IsVasR.in {w : World} {R : Nat → Nat → Prop} {b o : Nat} {l : List Va} (h : IsVasR w R b o l) {cur : Array Value} (hb : BlkN w b 27 cur) : o + l.length * 5 ≤ cur.size ∨ l = [] := by
  rcases Nat.eq_zero_or_pos l.length with h0 | h0
  · exact .inr (List.eq_nil_of_length_eq_zero h0)
  · left
    obtain ⟨c0, c1, c2, c3, c4, h1, -⟩ := h.at (l.length - 1) (by omega)
    have := h1 4 c4 rfl
    rw [hb.cell_eq] at this
    obtain ⟨hlt, -⟩ := Array.getElem?_eq_some_iff.1 this
    omega
/-- Where a list may be written over: blocks of the call's own. -/
def RW (w : World) (lo m b o : Nat) : Prop := lo ≤ b ∧ b < m ∧ o = 0 ∧ ∃ cur, BlkN w b 27 cur
theorem RW.lt {w : World} {lo m b o : Nat} (h : RW w lo m b o) : b < w.heap.size := let ⟨_, _, _, _, h⟩ := h; h.lt
theorem store5 {V : World} {b : Nat} {cur : Array Value} (h : BlkN V b 27 cur) (i : Nat) (c0 c1 c2 c3 c4 : Value) :
    ∃ V', ((((V.setCell ⟨b, i, Option.none⟩ c0).setCell ⟨b, i + 1, Option.none⟩ c1).setCell ⟨b, i + 2, Option.none⟩ c2).setCell ⟨b, i + 3, Option.none⟩ c3).setCell ⟨b, i + 4, Option.none⟩ c4 = V' ∧ (∃ cur', BlkN V' b 27 cur' ∧ cur'.size = cur.size) ∧ Upd b V V' :=
  ⟨_, rfl, ⟨_, ((((BlkN.set h i c0).set (i + 1) c1).set (i + 2) c2).set (i + 3) c3).set (i + 4) c4, by simp⟩, (((((Upd.refl b V).set i c0).set (i + 1) c1).set (i + 2) c2).set (i + 3) c3).set (i + 4) c4⟩
set_option maxRecDepth 100000 in
set_option maxHeartbeats 4000000 in
theorem same_any (x : Va) (w : World) (lo m : Nat) (v u q : Value) (hv : IsVaR w (RW w lo m) v x) (hu : IsVaR w (fun b _ => m ≤ b ∧ b < w.heap.size) u x) (hq : IsVaR w (fun b _ => m ≤ b ∧ b < w.heap.size) q x) (hlo : lo ≤ m) (hm : m ≤ w.heap.size) :
    Calls Tryz.prog 12 #[v, u, q] w fun e w' => e = .returned (.bool true) ∧ Below lo w w' := by
  obtain ⟨k, n, s, l, r⟩ := x
  have hln := hv.len
  have HV := Lib.hid (hv.mono (R' := fun b _ => b < w.heap.size) fun b o h => h.lt)
  have HU := Lib.hid hu
  have HQ := Lib.hid hq
  obtain ⟨h1, h2, h3, h4, A, cap, h5, rfl, h6⟩ := hv.form
  obtain ⟨-, -, -, -, A2, cap2, h52, rfl, -⟩ := hu.form
  obtain ⟨-, -, -, -, A3, cap3, h53, rfl, -⟩ := hq.form
  obtain ⟨b, hlb, hb, hbl⟩ : ∃ b, lo ≤ b ∧ (b < m ∨ w.heap.size + 3 ≤ b) ∧ (l ≠ [] → A = some ⟨b, 0, Option.none⟩ ∧ b < m ∧ ∃ cur, BlkN w b 27 cur ∧ l.length * 5 ≤ cur.size) := by
    by_cases hl : l = []
    · exact ⟨w.heap.size + 3, by omega, by omega, fun h => absurd hl h⟩
    · obtain ⟨b, o, ⟨g1, g2, rfl, cur, g4⟩, rfl, hx⟩ := h6 hl
      refine ⟨b, g1, .inl g2, fun _ => ⟨rfl, g2, cur, g4, ?_⟩⟩
      rcases hx.in g4 with h | h
      · omega
      · exact absurd h hl
  have HBL := Lib.hid hbl
  clear h6 hv hu hq hbl
  go_enter Tryz.func12, Tryz.ntmps12
  go_upto_region 1 with fail
  obtain ⟨W, hW⟩ : ∃ W, W = ((w.alloc (.cells #[.int .u8 k, .int .i64 n, .string s, .slice A l.length cap, .int .i64 r] 27)).alloc (.cells #[.int .u8 k, .int .i64 n, .string s, .slice A2 l.length cap2, .int .i64 r] 27)).alloc (.cells #[.int .u8 k, .int .i64 n, .string s, .slice A3 l.length cap3, .int .i64 r] 27) := ⟨_, rfl⟩
  have HBW : Hid (Below w.heap.size w W) := Lib.hid (by rw [hW]; exact (((Below.refl _ w).alloc (Nat.le_refl _) _).alloc (by simp) _).alloc (by simp; omega) _)
  have H0 : Hid (BlkN W w.heap.size 27 #[.int .u8 k, .int .i64 n, .string s, .slice A l.length cap, .int .i64 r]) := Lib.hid (by rw [hW]; exact ((BlkN.at_ rfl _ _).alloc _).alloc _)
  have H1 : Hid (BlkN W (w.heap.size + 1) 27 #[.int .u8 k, .int .i64 n, .string s, .slice A2 l.length cap2, .int .i64 r]) := Lib.hid (by rw [hW]; exact (BlkN.at_ (by simp) _ _).alloc _)
  have H2 : Hid (BlkN W (w.heap.size + 1 + 1) 27 #[.int .u8 k, .int .i64 n, .string s, .slice A3 l.length cap3, .int .i64 r]) := Lib.hid (by rw [hW]; exact BlkN.at_ (by simp) _ _)
  rw [← hW]
  clear hW
  have C26 : Hid (Calls Tryz.prog 51 #[.agg #[.int .u8 k, .int .i64 n, .string s, .slice A l.length cap, .int .i64 r], .agg #[.int .u8 k, .int .i64 n, .string s, .slice A3 l.length cap3, .int .i64 r]] W fun e w' => e = .returned (.bool true) ∧ Below W.heap.size W w') := Lib.hid ((alike_any _ _ W w.heap.size w.heap.size _ _ (HV.out.keep fun b _ h => HBW.out.block b h) ((HQ.out.keep fun b o h => HBW.out.block b h.2).mono fun b o h => h.2) HBW.out.size HBW.out.size).mono fun e w' h => ⟨by rw [h.1, sameV_refl], h.2⟩)
  have C26b : Hid (∀ w', Upd b W w' → Calls Tryz.prog 51 #[.agg #[.int .u8 k, .int .i64 n, .string s, .slice A2 l.length cap2, .int .i64 r], .agg #[.int .u8 k, .int .i64 n, .string s, .slice A3 l.length cap3, .int .i64 r]] w' fun e w2 => e = .returned (.bool true) ∧ Below w'.heap.size w' w2) := Lib.hid (fun w' hk => (alike_any _ _ w' w'.heap.size w'.heap.size _ _ ((HU.out.keep fun b' o h => (hk.block b' (Nat.lt_of_lt_of_le h.2 HBW.out.size) (by omega)).trans (HBW.out.block b' h.2)).mono fun b o h => Nat.lt_of_lt_of_le h.2 (Nat.le_trans HBW.out.size hk.size)) ((HQ.out.keep fun b' o h => (hk.block b' (Nat.lt_of_lt_of_le h.2 HBW.out.size) (by omega)).trans (HBW.out.block b' h.2)).mono fun b o h => Nat.lt_of_lt_of_le h.2 (Nat.le_trans HBW.out.size hk.size)) (Nat.le_refl _) (Nat.le_refl _)).mono fun e w' h => ⟨by rw [h.1, sameV_refl], h.2⟩)
  have hsW := H2.out.lt
  have p0 := H0.out.cell 0 rfl
  have p1 := H0.out.cell 1 rfl
  have p2 := H0.out.cell 2 rfl
  have p3 := H0.out.cell 3 rfl
  have p4 := H0.out.cell 4 rfl
  have q0 := H2.out.cell 0 rfl
  have q1 := H2.out.cell 1 rfl
  have q2 := H2.out.cell 2 rfl
  have q3 := H2.out.cell 3 rfl
  have q4 := H2.out.cell 4 rfl
  go_wp2_with (first | (go_at_call 51; refine C26.out.mono ?_; rintro e w1 ⟨rfl, hb1⟩; have HB1 := Lib.hid hb1; clear hb1))
  clear p0 p1 p2 p3 p4 q0 q1 q2 q3 q4
  go_loopw [7] (fun i wr => ∃ j : Nat, j ≤ l.length ∧ i = .int .i64 j ∧ Upd b W wr ∧ BlkN wr w.heap.size 27 #[.int .u8 k, .int .i64 n, .string s, .slice A l.length cap, .int .i64 r] ∧ BlkN wr (w.heap.size + 1) 27 #[.int .u8 k, .int .i64 n, .string s, .slice A2 l.length cap2, .int .i64 r] ∧ BlkN wr (w.heap.size + 1 + 1) 27 #[.int .u8 k, .int .i64 n, .string s, .slice A3 l.length cap3, .int .i64 r] ∧ (l ≠ [] → ∃ cur, BlkN wr b 27 cur ∧ l.length * 5 ≤ cur.size)) (fun i _ => l.length - (intOf i).toNat)
  case atStart => exact ⟨0, by omega, rfl, Upd.ofBelow HB1.out b, H0.out.below HB1.out, H1.out.below HB1.out, H2.out.below HB1.out, fun h => let ⟨_, _, cur, g1, g2⟩ := HBL.out h; ⟨cur, (g1.below HBW.out).below HB1.out, g2⟩⟩
  case round =>
    obtain ⟨j, hj, rfl, ht, g0, g1, g2, g3⟩ := hrel
    have HU1 := Lib.hid ht
    have HG0 := Lib.hid g0
    have HG1 := Lib.hid g1
    have HG2 := Lib.hid g2
    have HG3 := Lib.hid g3
    have hsz := g2.lt
    have y3 := g0.cell 3 rfl
    clear ht g0 g1 g2 g3
    by_cases hlt : j < l.length
    · have hl : l ≠ [] := by rintro rfl; simp at hlt
      obtain ⟨rfl, hbm, -⟩ := HBL.out hl
      obtain ⟨cur, hc, hcs⟩ := HG3.out hl
      have HC := Lib.hid hc
      have hbs := hc.lt
      obtain ⟨d0, e0⟩ := hc.some (j * 5) (by omega)
      obtain ⟨d1, e1⟩ := hc.some (j * 5 + 1) (by omega)
      obtain ⟨d2, e2⟩ := hc.some (j * 5 + 2) (by omega)
      obtain ⟨d3, e3⟩ := hc.some (j * 5 + 3) (by omega)
      obtain ⟨d4, e4⟩ := hc.some (j * 5 + 4) (by omega)
      have f0 := hc.free (j * 5)
      have f1 := hc.free (j * 5 + 1)
      have f2 := hc.free (j * 5 + 2)
      have f3 := hc.free (j * 5 + 3)
      have f4 := hc.free (j * 5 + 4)
      clear hc
      go_upto_region 5 with fail
      obtain ⟨V', hV', ⟨cur', hc', hcs'⟩, hu'⟩ := store5 HC.out (j * 5) (.int .u8 99) (.int .i64 0) (.string ⟨#[]⟩) (.slice Option.none 0 0) (.int .i64 0)
      rw [hV']
      go_wp2_with fail
      go_roundw
      case rel => exact ⟨j + 1, by omega, by go_num, HU1.out.trans hu', (hu'.block _ (by omega) (by omega)).trans HG0.out, (hu'.block _ (by omega) (by omega)).trans HG1.out, (hu'.block _ hsz (by omega)).trans HG2.out, fun _ => ⟨cur', hc', by omega⟩⟩
      case measure => simp [intOf]; omega
    · obtain rfl : j = l.length := by omega
      go_upto_region 7 with fail
      have p0 := HG1.out.cell 0 rfl
      have p1 := HG1.out.cell 1 rfl
      have p2 := HG1.out.cell 2 rfl
      have p3 := HG1.out.cell 3 rfl
      have p4 := HG1.out.cell 4 rfl
      have q0 := HG2.out.cell 0 rfl
      have q1 := HG2.out.cell 1 rfl
      have q2 := HG2.out.cell 2 rfl
      have q3 := HG2.out.cell 3 rfl
      have q4 := HG2.out.cell 4 rfl
      go_wp2_with (first | (go_at_call 51; refine (C26b.out _ HU1.out).mono ?_; rintro e w2 ⟨rfl, hb2⟩))
      go_ret
      exact ⟨rfl, (HBW.out.mono (by omega)).trans (Upd.toLow (HU1.out.below hb2) hlb (by omega))⟩
end Go.Proofs.YtjmelamllapmiaaGreatDoor
