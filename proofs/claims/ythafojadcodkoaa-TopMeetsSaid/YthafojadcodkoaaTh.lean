/- What, root; there, ask; Find, Facet, Narrow. -/
import Derived.Test.YthafojadcodkoaaTg
import Derived.Test.YthafojadcodkoaaTp
namespace Go.Proofs.Ythafojadcodkoaa
open Go.RowKit

theorem WV.one (s : WV) : ∀ u ∈ s.arr.toList, u.oneCell' = true := by
  intro u hu
  simp only [WV.arr, List.mem_cons, List.not_mem_nil, or_false] at hu
  rcases hu with rfl | rfl | rfl | rfl | rfl | rfl | rfl | rfl | rfl | rfl | rfl | rfl | rfl | rfl | rfl | rfl <;> rfl
/-- The same numbers. -/
def SameN (s t : WV) : Prop := t.k = s.k ∧ t.home = s.home ∧ t.n = s.n ∧ t.lost = s.lost ∧ t.of_ = s.of_ ∧ t.by_ = s.by_ ∧ t.set = s.set ∧ t.full = s.full
/-- ownWhat answers a thing with the same numbers, in memory of its own. -/
def OwnWhatC : Prop := ∀ (w : World) (R : Nat → Nat → Prop) (s : WV) (x : Pt), (∀ b o, R b o → b < w.heap.size) → IsWh w R s x →
  Calls Try.prog 16 #[.agg s.arr] w fun e w' => Below w.heap.size w w' ∧ ∃ (t : WV) (y : Pt), e = .returned (.agg t.arr) ∧ SameN s t ∧ IsWh w' (fun b _ => w.heap.size ≤ b ∧ b < w'.heap.size) t y
section
variable {w : World} {hi p tm fm : Nat} {ps cs ms : Value} {L : List Ent} {FL : List ((Int × Nat) × Int)} {lt : Int}
attribute [local irreducible] wpList
set_option maxRecDepth 100000 in
set_option maxHeartbeats 4000000 in
theorem what_any (H : OwnWhatC) (h : Wd w hi p tm fm ps cs ms L FL lt) (r : Int) (e : Ent) (hE : entE L r = some e) :
    Calls Try.prog 65 #[.pointer (some ⟨p, 0, Option.none⟩), .int .i64 r] w fun ee w' => Below w.heap.size w w' ∧ ∃ t : WV, ee = .returned (.tuple #[.agg t.arr, .int .i64 0]) ∧ SameN e.s t := by
  obtain ⟨n, hn⟩ : ∃ n, n = w.heap.size := ⟨_, rfl⟩
  obtain ⟨W, hW⟩ : ∃ W, W = w.alloc (.cells #[.int .u8 0, .int .i64 0, .int .u8 0, .int .i64 0, .string ⟨#[]⟩, .slice Option.none 0 0, .int .i64 0, .slice Option.none 0 0, .int .i64 0, .int .i64 0, .int .i64 0, .int .i64 0, .int .u8 0, .bool false, .slice Option.none 0 0, .slice Option.none 0 0] 53) := ⟨_, rfl⟩
  have hbw : Below n w W := by rw [hW, hn]; exact (Below.refl _ _).alloc (Nat.le_refl _) _
  have HWW := Lib.hid (h.below (by rw [← hn]; exact hbw))
  have HB := Lib.hid hbw
  have HZ : Hid (BlkN W n 53 WV.zero.arr) := Lib.hid (by rw [hW, hn]; exact BlkN.at_ rfl _ _)
  have hl := HWW.out.look r
  rw [hE] at hl
  have C20 := Lib.hid (none_any HWW.out)
  have C6 := is_any HWW.out r
  rw [hE] at C6
  have C6 := Lib.hid C6
  have c2 := HWW.out.blk.cell 2 rfl
  obtain ⟨hib, hblk, x, hwh⟩ := HWW.out.each _ (entE_mem hE).1
  have C16 := H W _ e.s x (fun b o h => h.2) hwh
  obtain ⟨er, b, s⟩ := e
  simp only at hib hblk
  have C16 : Hid (Calls Try.prog 16 #[.agg #[.int .u8 s.k, .int .i64 s.home, .int .u8 s.v0, .int .i64 s.v1, .string s.v2, .slice s.vA s.vl s.vc, .int .i64 s.v4, .slice s.sA s.sl s.sc, .int .i64 s.n, .int .i64 s.lost, .int .i64 s.of_, .int .i64 s.by_, .int .u8 s.set, .bool s.full, .slice s.cA s.cl s.cc, .slice s.nA s.nl s.nc]] W fun e w' => Below W.heap.size W w' ∧ ∃ (t : WV) (y : Pt), e = .returned (.agg t.arr) ∧ SameN s t ∧ IsWh w' (fun b _ => W.heap.size ≤ b ∧ b < w'.heap.size) t y) := Lib.hid C16
  have k0 := hblk.cell 0 s.at0
  have k1 := hblk.cell 1 s.at1
  have k2 := hblk.cell 2 s.at2
  have k3 := hblk.cell 3 s.at3
  have k4 := hblk.cell 4 s.at4
  have k5 := hblk.cell 5 s.at5
  have k6 := hblk.cell 6 s.at6
  have k7 := hblk.cell 7 s.at7
  have k8 := hblk.cell 8 s.at8
  have k9 := hblk.cell 9 s.at9
  have k10 := hblk.cell 10 s.at10
  have k11 := hblk.cell 11 s.at11
  have k12 := hblk.cell 12 s.at12
  have k13 := hblk.cell 13 s.at13
  have k14 := hblk.cell 14 s.at14
  have k15 := hblk.cell 15 s.at15
  have HN := Lib.hid hn
  obtain ⟨i0, hi0, hz0, hz1, hz2⟩ := info_parts info53
  clear h hE hwh hblk
  go_enter Try.func65, Try.ntmps65
  go_upto_region 1 with fail
  rw [← hW, ← hn]
  clear hW hn hbw
  go_wp2_with (first
    | (go_at_call 20; refine C20.out.mono ?_; rintro e w' ⟨rfl, rfl⟩)
    | (go_at_call 6; refine C6.out.mono ?_; rintro e w' ⟨rfl, rfl⟩)
    | (go_at_call 16; refine C16.out.mono ?_; rintro e w3 ⟨hb3, t, y, rfl, hs3, hy3⟩; have HB3 := Lib.hid hb3; have HZ3 := Lib.hid (HZ.out.below hb3); have HS3 := Lib.hid hs3; clear hb3 hs3 hy3)
    | (refine wpList_store_blk rfl 53 (.tmp 4) (.tmp 22) rfl i0 hi0 n t.arr rfl rfl 53 WV.zero.arr HZ3.out (by rw [hz1]; rfl) rfl (WV.one t) ?_
       intro V hV hbut
       have HV := Lib.hid hV
       have HBut := Lib.hid hbut
       clear hV hbut))
  refine bodyPost_ret (results_cell2 (s := 4) (t := 5) (b := n) rfl Try.underlying53 hi0 rfl HV.out (by rw [hz1]; rfl) rfl) rfl ⟨?_, t, rfl, HS3.out⟩
  rw [← HN.out]
  exact HBut.out.below (Nat.le_refl _) (HB.out.trans (HB3.out.mono (by have := HB.out.size; have := HN.out; omega)))
theorem rootG_ent {L : List Ent} {r : Int} {e : Ent} (hE : entE L r = some e) : rootG (gr L) r = if e.s.k = 14 then e.s.of_ else r := by
  unfold rootG
  rw [gr_ent hE]
set_option maxRecDepth 100000 in
set_option maxHeartbeats 4000000 in
theorem root_any (H : OwnWhatC) (h : Wd w hi p tm fm ps cs ms L FL lt) (r : Int) (e : Ent) (hE : entE L r = some e) :
    Calls Try.prog 49 #[.pointer (some ⟨p, 0, Option.none⟩), .int .i64 r] w fun ee w' => Below w.heap.size w w' ∧ ee = .returned (.int .i64 (rootG (gr L) r)) := by
  have C65 := what_any H h r e hE
  rw [rootG_ent hE]
  have C65 : Hid (Calls Try.prog 65 #[.pointer (some ⟨p, 0, Option.none⟩), .int .i64 r] w fun ee w' => Below w.heap.size w w' ∧ ∃ t : WV, ee = .returned (.tuple #[.agg #[.int .u8 t.k, .int .i64 t.home, .int .u8 t.v0, .int .i64 t.v1, .string t.v2, .slice t.vA t.vl t.vc, .int .i64 t.v4, .slice t.sA t.sl t.sc, .int .i64 t.n, .int .i64 t.lost, .int .i64 t.of_, .int .i64 t.by_, .int .u8 t.set, .bool t.full, .slice t.cA t.cl t.cc, .slice t.nA t.nl t.nc], .int .i64 0]) ∧ SameN e.s t) := Lib.hid C65
  clear h hE
  by_cases hk : e.s.k = 14
  · have hq : ((e.s.k : Int) == 14) = true := by rw [hk]; rfl
    rw [if_pos hk]
    go_enter Try.func49, Try.ntmps49
    go_wp2_with (first | (go_at_call 65; refine C65.out.mono ?_; rintro ee w1 ⟨hb1, t, rfl, ht0, ht1, ht2, ht3, ht4, ht5, ht6, ht7⟩; rw [ht0, ht4]; have HB1 := Lib.hid hb1; clear hb1))
    go_ret
    exact ⟨HB1.out.alloc HB1.out.size _, rfl⟩
  · have hq : ((e.s.k : Int) == 14) = false := by rw [beq_eq_false_iff_ne]; exact hk
    rw [if_neg hk]
    go_enter Try.func49, Try.ntmps49
    go_wp2_with (first | (go_at_call 65; refine C65.out.mono ?_; rintro ee w1 ⟨hb1, t, rfl, ht0, ht1, ht2, ht3, ht4, ht5, ht6, ht7⟩; rw [ht0, ht4]; have HB1 := Lib.hid hb1; clear hb1))
    go_ret
    exact ⟨HB1.out.alloc HB1.out.size _, rfl⟩
end
end Go.Proofs.Ythafojadcodkoaa
