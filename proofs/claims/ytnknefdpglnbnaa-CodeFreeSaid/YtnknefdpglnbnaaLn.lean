/- The document's copy of names (Own of a What with names alone), walked; the law's own ownNames. The law's own helpers on names, walked: ownNames, sameNames, short. -/
import Derived.Test.YtnknefdpglnbnaaLl
import Derived.Test.YtnknefdpglnbnaaY
import Derived.Deep.Cut
namespace Go.Proofs.Ytnknefdpglnbnaa
open Go.RowKit

theorem code105_nil (w : World) : Calls Try.prog 105 #[.slice Option.none 0 0] w fun e w' => e = .returned (.slice Option.none 0 0) ∧ w = w' := by
  go_enter Try.func105, Try.ntmps105
  go_wp2_with fail
  go_loop [3, 4] (fun v i => v = .slice Option.none 0 0 ∧ i = .int .i64 0) (fun _ _ => 0)
  case atStart => exact ⟨rfl, rfl⟩
  case round =>
    obtain ⟨rfl, rfl⟩ := hrel
    go_wp2_with fail
    go_ret
    exact ⟨rfl, rfl⟩
theorem info73 : (Try.prog.info? 73).map (fun i => (i.zero, i.size, i.bytes)) = some (some (.agg #[.string ⟨#[]⟩, .int .u8 0, .int .i64 0, .string ⟨#[]⟩, .slice Option.none 0 0, .int .i64 0]), 6, 80) := by kernel_rfl
theorem info93 : ∃ i, Try.prog.info? 93 = some i ∧ i.size = 16 := by
  have h : (Try.prog.info? 93).map (·.size) = some 16 := by kernel_rfl
  obtain ⟨i, h1, h2⟩ := Option.map_eq_some_iff.1 h
  exact ⟨i, h1, h2⟩
theorem what_one (k n : Int) (s : ByteArray) (A : Option Addr) (len cap : Nat) (r : Int) (Ac : Option Addr) (lc cc : Nat) (An : Option Addr) (ln cn : Nat) : ∀ u ∈ (#[.int .u8 0, .int .i64 0, .int .u8 k, .int .i64 n, .string s, .slice A len cap, .int .i64 r, .slice Option.none 0 0, .int .i64 0, .int .i64 0, .int .i64 0, .int .i64 0, .int .u8 0, .bool false, .slice Ac lc cc, .slice An ln cn] : Array Value).toList, u.oneCell' = true := by
  intro u hu
  simp only [List.mem_cons, List.not_mem_nil, or_false] at hu
  rcases hu with rfl | rfl | rfl | rfl | rfl | rfl | rfl | rfl | rfl | rfl | rfl | rfl | rfl | rfl | rfl | rfl <;> rfl
set_option maxRecDepth 100000 in
set_option maxHeartbeats 2000000 in
theorem Own61_names {B : Nat} {vn : Value} {l : List Na} (w : World) (h : IsNs w B vn l) (hB : B ≤ w.heap.size) :
    Calls Try.prog 61 #[.agg #[.int .u8 0, .int .i64 0, .int .u8 0, .int .i64 0, .string ⟨#[]⟩, .slice Option.none 0 0, .int .i64 0, .slice Option.none 0 0, .int .i64 0, .int .i64 0, .int .i64 0, .int .i64 0, .int .u8 0, .bool false, .slice Option.none 0 0, vn]] w fun e w' =>
      ∃ k n s A len cap r vn', e = .returned (.agg #[.int .u8 0, .int .i64 0, .int .u8 k, .int .i64 n, .string s, .slice A len cap, .int .i64 r, .slice Option.none 0 0, .int .i64 0, .int .i64 0, .int .i64 0, .int .i64 0, .int .u8 0, .bool false, .slice Option.none 0 0, vn']) ∧ IsNsR w' (RN 0 w.heap.size w') vn' l ∧ Below w.heap.size w w' := by
  obtain ⟨hlen, A, cap, hcap, rfl, h7⟩ := h
  have H7 := Lib.hid h7
  have hl : l.length ≤ 140737488351232 := by omega
  obtain ⟨i0, hi, hz0, hz1, hz2⟩ := info_parts info73
  have HIN := Lib.hid hi
  obtain ⟨i1, hi1, hzz1⟩ := info93
  have HI1 := Lib.hid hi1
  have HB0 := Lib.hid (((Below.refl w.heap.size w).alloc (Nat.le_refl _) (.cells #[.int .u8 0, .int .i64 0, .int .u8 0, .int .i64 0, .string ⟨#[]⟩, .slice Option.none 0 0, .int .i64 0, .slice Option.none 0 0, .int .i64 0, .int .i64 0, .int .i64 0, .int .i64 0, .int .u8 0, .bool false, .slice Option.none 0 0, .slice A l.length cap] 93)).alloc (by simp) (.cells #[.int .u8 0, .int .i64 0, .int .u8 0, .int .i64 0, .string ⟨#[]⟩, .slice Option.none 0 0, .int .i64 0, .slice Option.none 0 0, .int .i64 0, .int .i64 0, .int .i64 0, .int .i64 0, .int .u8 0, .bool false, .slice Option.none 0 0, .slice Option.none 0 0] 93))
  have HA : Hid (BlkN ((w.alloc (.cells #[.int .u8 0, .int .i64 0, .int .u8 0, .int .i64 0, .string ⟨#[]⟩, .slice Option.none 0 0, .int .i64 0, .slice Option.none 0 0, .int .i64 0, .int .i64 0, .int .i64 0, .int .i64 0, .int .u8 0, .bool false, .slice Option.none 0 0, .slice A l.length cap] 93)).alloc (.cells #[.int .u8 0, .int .i64 0, .int .u8 0, .int .i64 0, .string ⟨#[]⟩, .slice Option.none 0 0, .int .i64 0, .slice Option.none 0 0, .int .i64 0, .int .i64 0, .int .i64 0, .int .i64 0, .int .u8 0, .bool false, .slice Option.none 0 0, .slice Option.none 0 0] 93)) w.heap.size 93 #[.int .u8 0, .int .i64 0, .int .u8 0, .int .i64 0, .string ⟨#[]⟩, .slice Option.none 0 0, .int .i64 0, .slice Option.none 0 0, .int .i64 0, .int .i64 0, .int .i64 0, .int .i64 0, .int .u8 0, .bool false, .slice Option.none 0 0, .slice A l.length cap]) := Lib.hid ((BlkN.at_ rfl _ _).alloc _)
  have HZ : Hid (BlkN ((w.alloc (.cells #[.int .u8 0, .int .i64 0, .int .u8 0, .int .i64 0, .string ⟨#[]⟩, .slice Option.none 0 0, .int .i64 0, .slice Option.none 0 0, .int .i64 0, .int .i64 0, .int .i64 0, .int .i64 0, .int .u8 0, .bool false, .slice Option.none 0 0, .slice A l.length cap] 93)).alloc (.cells #[.int .u8 0, .int .i64 0, .int .u8 0, .int .i64 0, .string ⟨#[]⟩, .slice Option.none 0 0, .int .i64 0, .slice Option.none 0 0, .int .i64 0, .int .i64 0, .int .i64 0, .int .i64 0, .int .u8 0, .bool false, .slice Option.none 0 0, .slice Option.none 0 0] 93)) (w.heap.size + 1) 93 #[.int .u8 0, .int .i64 0, .int .u8 0, .int .i64 0, .string ⟨#[]⟩, .slice Option.none 0 0, .int .i64 0, .slice Option.none 0 0, .int .i64 0, .int .i64 0, .int .i64 0, .int .i64 0, .int .u8 0, .bool false, .slice Option.none 0 0, .slice Option.none 0 0]) := Lib.hid (BlkN.at_ (by simp) _ _)
  clear h7 hi hi1
  go_enter Try.func61, Try.ntmps61
  go_upto_region 2 with (go_at_call 104; refine (value104_any zeroVa _ 0 _ (IsVaR.zero _ _) (Nat.zero_le _)).mono ?_; rintro e w1 ⟨v', rfl, hv', hb1⟩; obtain ⟨k2, n2, s2, A2, len2, cap2, r2, rfl⟩ := hv'.shape; have hA1 := HA.out.below hb1; have hZ1 := HZ.out.below hb1; have hB1 := bnext HB0.out hb1; have c2 := hA1.cell 2 rfl; have c3 := hA1.cell 3 rfl; have c4 := hA1.cell 4 rfl; have c5 := hA1.cell 5 rfl; have c6 := hA1.cell 6 rfl; have f2 := hA1.free 2; have f3 := hA1.free 3; have f4 := hA1.free 4; have f5 := hA1.free 5; have f6 := hA1.free 6)
  obtain ⟨W2, hW2⟩ : ∃ W2, W2 = ((((w1.setCell ⟨w.heap.size, 2, Option.none⟩ (.int .u8 k2)).setCell ⟨w.heap.size, 3, Option.none⟩ (.int .i64 n2)).setCell ⟨w.heap.size, 4, Option.none⟩ (.string s2)).setCell ⟨w.heap.size, 5, Option.none⟩ (.slice A2 len2 cap2)).setCell ⟨w.heap.size, 6, Option.none⟩ (.int .i64 r2) := ⟨_, rfl⟩
  rw [← hW2]
  have hA2 : BlkN W2 w.heap.size 93 #[.int .u8 0, .int .i64 0, .int .u8 k2, .int .i64 n2, .string s2, .slice A2 len2 cap2, .int .i64 r2, .slice Option.none 0 0, .int .i64 0, .int .i64 0, .int .i64 0, .int .i64 0, .int .u8 0, .bool false, .slice Option.none 0 0, .slice A l.length cap] := by rw [hW2]; exact ((((hA1.set 2 _).set 3 _).set 4 _).set 5 _).set 6 _
  have hZ2 : BlkN W2 (w.heap.size + 1) 93 #[.int .u8 0, .int .i64 0, .int .u8 0, .int .i64 0, .string ⟨#[]⟩, .slice Option.none 0 0, .int .i64 0, .slice Option.none 0 0, .int .i64 0, .int .i64 0, .int .i64 0, .int .i64 0, .int .u8 0, .bool false, .slice Option.none 0 0, .slice Option.none 0 0] := by rw [hW2]; exact ((((hZ1.setOther (by simp) _).setOther (by simp) _).setOther (by simp) _).setOther (by simp) _).setOther (by simp) _
  have hB2 : Below w.heap.size w W2 := by rw [hW2]; exact ((((hB1.setCell (Nat.le_refl _) _).setCell (Nat.le_refl _) _).setCell (Nat.le_refl _) _).setCell (Nat.le_refl _) _).setCell (Nat.le_refl _) _
  have HA2 := Lib.hid hA2
  have HZ2 := Lib.hid hZ2
  have HB2 := Lib.hid hB2
  clear hW2 hA1 hZ1 hB1 hb1 hv' c2 c3 c4 c5 c6 f2 f3 f4 f5 f6 hA2 hZ2 hB2
  go_wp2_with fail
  go_loopw [3, 4] (fun v i wr => v = .slice Option.none 0 0 ∧ i = .int .i64 0 ∧ wr = W2) (fun _ _ _ => 0)
  case atStart => exact ⟨rfl, rfl, rfl⟩
  case round =>
    obtain ⟨rfl, rfl, rfl⟩ := hrel
    have c7 := HA2.out.cell 7 rfl
    have f7 := HA2.out.free 7
    have c14 := HA2.out.cell 14 rfl
    have f14 := HA2.out.free 14
    go_wp2_with (go_at_call 105; refine (code105_nil _).mono ?_; rintro e w2 ⟨rfl, rfl⟩)
    obtain ⟨W3, hW3⟩ : ∃ W3, W3 = (wr.setCell ⟨w.heap.size, 7, Option.none⟩ (.slice Option.none 0 0)).setCell ⟨w.heap.size, 14, Option.none⟩ (.slice Option.none 0 0) := ⟨_, rfl⟩
    rw [← hW3]
    have HA3 : Hid (BlkN W3 w.heap.size 93 #[.int .u8 0, .int .i64 0, .int .u8 k2, .int .i64 n2, .string s2, .slice A2 len2 cap2, .int .i64 r2, .slice Option.none 0 0, .int .i64 0, .int .i64 0, .int .i64 0, .int .i64 0, .int .u8 0, .bool false, .slice Option.none 0 0, .slice A l.length cap]) := Lib.hid (by rw [hW3]; exact (HA2.out.set 7 _).set 14 _)
    have HZ3 : Hid (BlkN W3 (w.heap.size + 1) 93 #[.int .u8 0, .int .i64 0, .int .u8 0, .int .i64 0, .string ⟨#[]⟩, .slice Option.none 0 0, .int .i64 0, .slice Option.none 0 0, .int .i64 0, .int .i64 0, .int .i64 0, .int .i64 0, .int .u8 0, .bool false, .slice Option.none 0 0, .slice Option.none 0 0]) := Lib.hid (by rw [hW3]; exact (HZ2.out.setOther (by simp) _).setOther (by simp) _)
    have HB3 : Hid (Below w.heap.size w W3) := Lib.hid (by rw [hW3]; exact (HB2.out.setCell (Nat.le_refl _) _).setCell (Nat.le_refl _) _)
    clear hW3 c7 f7 c14 f14 HA2 HZ2 HB2
    obtain ⟨W3', rfl⟩ : ∃ W3' : World, W3' = W3 := ⟨_, rfl⟩
    go_loopw [5, 6] (fun sl i wr => ∃ j : Nat, j ≤ l.length ∧ i = .int .i64 j ∧ ∃ (xs : List Value), GRow RdN 73 6 wr 0 (w.heap.size + 1 + 1) sl (l.take j) xs ∧ Below w.heap.size w wr ∧ BlkN wr w.heap.size 93 #[.int .u8 0, .int .i64 0, .int .u8 k2, .int .i64 n2, .string s2, .slice A2 len2 cap2, .int .i64 r2, .slice Option.none 0 0, .int .i64 0, .int .i64 0, .int .i64 0, .int .i64 0, .int .u8 0, .bool false, .slice Option.none 0 0, .slice A l.length cap] ∧ BlkN wr (w.heap.size + 1) 93 #[.int .u8 0, .int .i64 0, .int .u8 0, .int .i64 0, .string ⟨#[]⟩, .slice Option.none 0 0, .int .i64 0, .slice Option.none 0 0, .int .i64 0, .int .i64 0, .int .i64 0, .int .i64 0, .int .u8 0, .bool false, .slice Option.none 0 0, .slice Option.none 0 0]) (fun _ i _ => l.length - (intOf i).toNat)
    case atStart => exact ⟨0, by omega, rfl, [], GRow.nil _ _ _ _ _ _, HB3.out, HA3.out, HZ3.out⟩
    case round =>
      obtain ⟨j, hj, rfl, xs, hv, hu, hb0, hb1⟩ := hrel
      have hvl : (l.take j).length = j := by simp; omega
      obtain ⟨A0, cap0, hsl, hcap0⟩ : ∃ A0 cap0, u5 = .slice A0 j cap0 ∧ j ≤ cap0 := by
        obtain ⟨A0, cap0, h1, h2, _⟩ := hv.list
        exact ⟨A0, cap0, by rw [h1, hvl], by omega⟩
      subst hsl
      have HV := Lib.hid hv
      have HU := Lib.hid hu
      have HC := Lib.hid hb0
      have HR1 := Lib.hid hb1
      have HVL := Lib.hid hvl
      have hsz := hb1.lt
      have y3 := hb0.cell 15 rfl
      clear hv hu hb0 hb1 hvl
      by_cases hlt : j < l.length
      · obtain ⟨b, o, hbB, hA, hx⟩ := H7.out (by rintro rfl; simp at hlt)
        subst hA
        obtain ⟨hs0, k', n', s', A', len', cap', r', hat, hx1⟩ := hx.at2 j hlt
        have hat' := hat.keep hbB (fun b hb => HU.out.block b (by omega))
        obtain ⟨e0, e1, e2, e3, e4, e5⟩ := hat'.six
        have hcall := fun w' (hb : Below w.heap.size w w') => value104_any l[j].2 w' B _ (IsVa.keep (fun b hb' => hb.block b (by omega)) hx1) (Nat.le_trans hB hb.size)
        have HCALL := Lib.hid hcall
        obtain ⟨sn, hsn⟩ : ∃ sn, sn = l[j].1 := ⟨_, rfl⟩
        have HSN := Lib.hid hsn
        rw [← hsn] at e0 hs0
        clear hat hat' hx hx1 hcall hsn
        go_wp2_with fail
        refine RegT.region_seq (fun i => Nat.ble i 15) (fun W => W.cell? ⟨w.heap.size, 15, Option.none⟩ = some (.slice (some ⟨b, o, Option.none⟩) l.length cap) ∧ W.cell? ⟨b, o + j * 6, Option.none⟩ = some (.string sn) ∧ W.cell? ⟨b, o + j * 6 + 1, Option.none⟩ = some (.int .u8 k') ∧ W.cell? ⟨b, o + j * 6 + 2, Option.none⟩ = some (.int .i64 n') ∧ W.cell? ⟨b, o + j * 6 + 3, Option.none⟩ = some (.string s') ∧ W.cell? ⟨b, o + j * 6 + 4, Option.none⟩ = some (.slice A' len' cap') ∧ W.cell? ⟨b, o + j * 6 + 5, Option.none⟩ = some (.int .i64 r')) [0, 1, 2, 3, 4, 5, 6, 7, 8, 9, 10, 11, 12] [13, 14, 15, 16, 17] (by kernel_rfl) (by kernel_rfl) (by decide +kernel) (by decide) ⟨y3, e0, e1, e2, e3, e4, e5⟩ ?_
        refine RegT.quiet_step rfl (fun _ _ _ h => h) (by rfl) (v := .slice A0 j cap0) (fun w' hS => ?_) ?_
        · go_simp
        refine RegT.quiet_step rfl (fun _ _ _ h => h) (by rfl) (v := .pointer (some ⟨w.heap.size, 15, Option.none⟩)) (fun w' hS => ?_) ?_
        · go_simp
        refine RegT.quiet_step rfl (fun _ _ _ h => h) (by rfl) (v := .slice (some ⟨b, o, Option.none⟩) l.length cap) (fun w' hS => ?_) ?_
        · obtain ⟨t0, t1, t2, t3, t4, t5, t6⟩ := hS; go_simp
        refine RegT.quiet_step rfl (fun _ _ _ h => h) (by rfl) (v := .int .i64 j) (fun w' hS => ?_) ?_
        · go_simp
        refine RegT.quiet_step rfl (fun _ _ _ h => h) (by rfl) (v := .pointer (some ⟨b, o + j * 6, Option.none⟩)) (fun w' hS => ?_) ?_
        · go_simp
        refine RegT.quiet_step rfl (fun _ _ _ h => h) (by rfl) (v := .pointer (some ⟨b, o + j * 6, Option.none⟩)) (fun w' hS => ?_) ?_
        · go_simp
        refine RegT.quiet_step rfl (fun _ _ _ h => h) (by rfl) (v := .string sn) (fun w' hS => ?_) ?_
        · obtain ⟨t0, t1, t2, t3, t4, t5, t6⟩ := hS; go_simp
        refine RegT.quiet_step rfl (fun _ _ _ h => h) (by rfl) (v := .pointer (some ⟨w.heap.size, 15, Option.none⟩)) (fun w' hS => ?_) ?_
        · go_simp
        refine RegT.quiet_step rfl (fun _ _ _ h => h) (by rfl) (v := .slice (some ⟨b, o, Option.none⟩) l.length cap) (fun w' hS => ?_) ?_
        · obtain ⟨t0, t1, t2, t3, t4, t5, t6⟩ := hS; go_simp
        refine RegT.quiet_step rfl (fun _ _ _ h => h) (by rfl) (v := .int .i64 j) (fun w' hS => ?_) ?_
        · go_simp
        refine RegT.quiet_step rfl (fun _ _ _ h => h) (by rfl) (v := .pointer (some ⟨b, o + j * 6, Option.none⟩)) (fun w' hS => ?_) ?_
        · go_simp
        refine RegT.quiet_step rfl (fun _ _ _ h => h) (by rfl) (v := .pointer (some ⟨b, o + j * 6 + 1, Option.none⟩)) (fun w' hS => ?_) ?_
        · go_simp
        refine RegT.quiet_step rfl (fun _ _ _ h => h) (by rfl) (v := .agg #[.int .u8 k', .int .i64 n', .string s', .slice A' len' cap', .int .i64 r']) (fun w' hS => ?_) ?_
        · obtain ⟨t0, t1, t2, t3, t4, t5, t6⟩ := hS; go_simp
        have HD := Lib.hid (HU.out.drew)
        refine RegT.seqT_held rfl ?_
        go_wp2_with (go_at_call 104; refine (HCALL.out _ HD.out).mono ?_; rintro e w1 ⟨v', rfl, hv', hb1⟩; obtain ⟨k3, n3, s3, A3, len3, cap3, r3, rfl⟩ := hv'.shape; have hb1' : Below wr.heap.size wr w1 := bnext (Below.refl _ _).drew hb1; have hVR := HV.out.below hb1'; have hAl : Below w1.heap.size w1 (w1.alloc (.cells #[.string sn, .int .u8 k3, .int .i64 n3, .string s3, .slice A3 len3 cap3, .int .i64 r3] 73)) := (Below.refl _ _).alloc (Nat.le_refl _) _)
        have hkb : w1.heap[b]? = wr.heap[b]? := hb1'.block b (by have := HU.out.size; omega)
        have c15 := (HC.out.below hb1').cell 15 rfl
        have g0 := (World.cell?_of_block (a := ⟨b, o + j * 6, Option.none⟩) hkb).trans e0
        have g1 := (World.cell?_of_block (a := ⟨b, o + j * 6 + 1, Option.none⟩) hkb).trans e1
        have g2 := (World.cell?_of_block (a := ⟨b, o + j * 6 + 2, Option.none⟩) hkb).trans e2
        have g3 := (World.cell?_of_block (a := ⟨b, o + j * 6 + 3, Option.none⟩) hkb).trans e3
        have g4 := (World.cell?_of_block (a := ⟨b, o + j * 6 + 4, Option.none⟩) hkb).trans e4
        have g5 := (World.cell?_of_block (a := ⟨b, o + j * 6 + 5, Option.none⟩) hkb).trans e5
        have hbw1 : b < w1.heap.size := by have := HU.out.size; have := hb1'.size; omega
        have hww1 : w.heap.size < w1.heap.size := by have := hb1'.size; omega
        clear y3 e0 e1 e2 e3 e4 e5 hkb
        refine ⟨⟨c15, g0, g1, g2, g3, g4, g5⟩, RegT.seqT_held rfl ?_⟩
        go_wp2_with fail
        refine ⟨⟨c15, g0, g1, g2, g3, g4, g5⟩, RegT.seqT_held rfl ?_⟩
        go_wp2_with fail
        refine ⟨⟨by go_simp, by go_simp, by go_simp, by go_simp, by go_simp, by go_simp, by go_simp⟩, RegT.seqT_tail [16, 17] [_, _] rfl rfl _ _ ?_⟩
        clear c15 g0 g1 g2 g3 g4 g5
        go_wp2_with (refine wpList_append_row _ rfl (.tmp 40) (.tmp 55) 22 rfl (w.heap.size + 1 + 1) 73 i0 _ 6 80 Try.underlying22 HIN.out hz0 hz1 hz2 rfl (by decide) (.slice A0 j cap0) j xs rfl ?hy1 ⟨w1.heap.size, 0, Option.none⟩ 1 1 [.string sn, .int .u8 k3, .int .i64 n3, .string s3, .slice A3 len3 cap3, .int .i64 r3] rfl rfl ?hy2 ?hy3 ?hy4 ?hy5 ?hy6 ?_)
        case hy1 => have := (hVR.below hAl).1; rw [HVL.out] at this; exact this
        case hy2 => exact row_new _ _ _
        case hy3 => intro u hu; simp only [List.mem_cons, List.not_mem_nil, or_false] at hu; rcases hu with rfl | rfl | rfl | rfl | rfl | rfl <;> rfl
        case hy4 => unfold maxLen; omega
        case hy5 => omega
        case hy6 => have := hb1'.size; simp; omega
        intro sl' w3 hown' hgrow hor
        have hob : ∀ g, (Value.slice A0 j cap0).ownBlock = some g → w.heap.size + 1 + 1 ≤ g ∧ g < wr.heap.size := fun g hg => HV.out.blk hg
        have hs1 := hb1'.size
        have hU1 := bnext HU.out hb1'
        have hvx : IsVaR w1 (RN 0 wr.heap.size w1) (.agg #[.int .u8 k3, .int .i64 n3, .string s3, .slice A3 len3 cap3, .int .i64 r3]) l[j].2 := hv'
        have HV3 : Hid (GRow RdN 73 6 w3 0 (w.heap.size + 1 + 1) sl' (l.take j ++ [l[j]]) (xs ++ [.string sn, .int .u8 k3, .int .i64 n3, .string s3, .slice A3 len3 cap3, .int .i64 r3])) := Lib.hid (
          GRow.push (hVR.below hAl) rfl ⟨by rw [← HSN.out]; exact hs0, _, _, _, _, _, by rw [HSN.out], IsVaR.mono (fun b o hr => hr.below hAl) (IsVaR.keep (fun b o hr => hAl.block b hr.2) hvx)⟩ (by omega) (by omega) (fun g hg => (hob g hg).2) (by rw [HVL.out]; exact hown') hgrow (by simpa using hor))
        have hk3 : ∀ b, b < w1.heap.size → b < w.heap.size + 1 + 1 → w3.heap[b]? = w1.heap[b]? := fun b hb hb2 =>
          (hgrow.block b (by simp; omega) (fun e => by have := (hob b e.symm).1; omega)).trans (hAl.block b hb)
        have HU3 : Hid (Below w.heap.size w w3) := Lib.hid ((hU1.alloc hU1.size _).grown hgrow (by have := hU1.size; simp; omega) (fun g hg => by have := (hob g hg).1; omega))
        have H03 : Hid (BlkN w3 w.heap.size 93 #[.int .u8 0, .int .i64 0, .int .u8 k2, .int .i64 n2, .string s2, .slice A2 len2 cap2, .int .i64 r2, .slice Option.none 0 0, .int .i64 0, .int .i64 0, .int .i64 0, .int .i64 0, .int .u8 0, .bool false, .slice Option.none 0 0, .slice (some ⟨b, o, Option.none⟩) l.length cap]) := Lib.hid ((hk3 _ (by omega) (by omega)).trans (HC.out.below hb1'))
        have H13 : Hid (BlkN w3 (w.heap.size + 1) 93 #[.int .u8 0, .int .i64 0, .int .u8 0, .int .i64 0, .string ⟨#[]⟩, .slice Option.none 0 0, .int .i64 0, .slice Option.none 0 0, .int .i64 0, .int .i64 0, .int .i64 0, .int .i64 0, .int .u8 0, .bool false, .slice Option.none 0 0, .slice Option.none 0 0]) := Lib.hid ((hk3 _ (by omega) (by omega)).trans (HR1.out.below hb1'))
        clear hown' hgrow hor hk3 hob hU1 hVR hAl hv' hvx hb1 hb1'
        go_wp2_with fail
        simp only [RegT.NP, Exit.inBlock]
        go_wp2_with fail
        go_roundw
        case rel => exact ⟨j + 1, by omega, by go_num, _, by rw [take_snoc_get l j hlt]; exact HV3.out, HU3.out, H03.out, H13.out⟩
        case measure => simp [intOf]; omega
      · obtain rfl : j = l.length := by omega
        have z15 := HC.out.free 15
        obtain ⟨W5, hW5⟩ : ∃ W5, W5 = wr.setCell ⟨w.heap.size, 15, Option.none⟩ (.slice A0 l.length cap0) := ⟨_, rfl⟩
        have hA5 : BlkN W5 w.heap.size 93 #[.int .u8 0, .int .i64 0, .int .u8 k2, .int .i64 n2, .string s2, .slice A2 len2 cap2, .int .i64 r2, .slice Option.none 0 0, .int .i64 0, .int .i64 0, .int .i64 0, .int .i64 0, .int .u8 0, .bool false, .slice Option.none 0 0, .slice A0 l.length cap0] := by rw [hW5]; exact HC.out.set 15 _
        have hZ5 : BlkN W5 (w.heap.size + 1) 93 #[.int .u8 0, .int .i64 0, .int .u8 0, .int .i64 0, .string ⟨#[]⟩, .slice Option.none 0 0, .int .i64 0, .slice Option.none 0 0, .int .i64 0, .int .i64 0, .int .i64 0, .int .i64 0, .int .u8 0, .bool false, .slice Option.none 0 0, .slice Option.none 0 0] := by rw [hW5]; exact HR1.out.setOther (by simp) _
        have hvf := HV.out.upd (p := w.heap.size) ((Upd.refl _ _).set 15 (.slice A0 l.length cap0)) (by omega) (by omega)
        have hB5 := HU.out.setCell (p := ⟨w.heap.size, 15, Option.none⟩) (Nat.le_refl _) (.slice A0 l.length cap0)
        rw [← hW5] at hvf hB5
        go_upto_region 15 with (fail)
        rw [← hW5]
        refine wp_region_lit ?_
        refine wpList_load_blk rfl 93 (.tmp 1) rfl ⟨w.heap.size, 0, Option.none⟩ rfl (.agg #[.int .u8 0, .int .i64 0, .int .u8 k2, .int .i64 n2, .string s2, .slice A2 len2 cap2, .int .i64 r2, .slice Option.none 0 0, .int .i64 0, .int .i64 0, .int .i64 0, .int .i64 0, .int .u8 0, .bool false, .slice Option.none 0 0, .slice A0 l.length cap0]) (run_loadVar_blk Try.underlying93 HI1.out hA5 (by rw [hzz1]; rfl)) ?_
        refine wpList_store_blk rfl 93 (.tmp 2) (.tmp 59) rfl i1 HI1.out (w.heap.size + 1) #[.int .u8 0, .int .i64 0, .int .u8 k2, .int .i64 n2, .string s2, .slice A2 len2 cap2, .int .i64 r2, .slice Option.none 0 0, .int .i64 0, .int .i64 0, .int .i64 0, .int .i64 0, .int .u8 0, .bool false, .slice Option.none 0 0, .slice A0 l.length cap0] rfl rfl 93 _ hZ5 (by rw [hzz1]; rfl) rfl (what_one _ _ _ _ _ _ _ _ _ _ _ _ _) ?_
        intro W6 hB6 hbut
        go_wp2_with fail
        refine bodyPost_ret (results_cell1 (s := 2) (b := w.heap.size + 1) rfl Try.underlying93 HI1.out rfl hB6 (by rw [hzz1]; rfl)) rfl ⟨_, _, _, _, _, _, _, _, rfl, ?_, hbut.below (by omega) hB5⟩
        rw [List.take_length] at hvf
        have hvf2 := hvf.upd hbut.toUpd (by omega) (by omega)
        obtain ⟨A1, cap1, h1', h2', h3'⟩ := hvf2.list
        refine ⟨hlen, A1, cap1, h2', by rw [h1'], fun hne => ?_⟩
        obtain ⟨b', h4, h5, h6⟩ := h3' hne
        exact ⟨b', 0, h4.low (by omega), h5, (RdN.list h6).mono (fun b o hr => hr.low (by omega))⟩
end Go.Proofs.Ytnknefdpglnbnaa
namespace Go.Proofs.Ytnknefdpglnbnaa
open Go.RowKit

theorem field93 (w : World) (vn : Value) (k n r : Int) (s : ByteArray) (A : Option Addr) (len cap : Nat) : (Instr.field 93 (.agg #[.int .u8 0, .int .i64 0, .int .u8 k, .int .i64 n, .string s, .slice A len cap, .int .i64 r, .slice Option.none 0 0, .int .i64 0, .int .i64 0, .int .i64 0, .int .i64 0, .int .u8 0, .bool false, .slice Option.none 0 0, vn]) 11).run Try.prog w = .ok vn w := by kernel_rfl
theorem IsNsR.list {w : World} {R : Nat → Nat → Prop} {v : Value} {l : List Na} (h : IsNsR w R v l) : ∃ A cap, v = .slice A l.length cap ∧ l.length ≤ cap := by
  obtain ⟨_, A, cap, h1, h2, _⟩ := h
  exact ⟨A, cap, h2, h1⟩
set_option maxRecDepth 100000 in
set_option maxHeartbeats 1000000 in
theorem ownNames18_any {B : Nat} {v : Value} {l : List Na} (w : World) (h : IsNs w B v l) (hB : B ≤ w.heap.size) :
    Calls Try.prog 18 #[v] w fun e w' => ∃ v', e = .returned v' ∧ IsNsR w' (RN B w.heap.size w') v' l ∧ Below w.heap.size w w' := by
  have HH := Lib.hid h
  have hcn := MayNames24_any w h hB
  have hco := fun w' (hb : Below w.heap.size w w') => Own61_names (B := B) w' (h.keep fun b hl => hb.block b (by omega)) (Nat.le_trans hB hb.size)
  obtain ⟨A, cap, rfl, hcap⟩ := h.list
  obtain ⟨mn, hmn⟩ : ∃ mn, mn = mayNs l := ⟨_, rfl⟩
  rw [← hmn] at hcn
  have CN := Lib.hid hcn
  have CO := Lib.hid hco
  clear h hcn hco hmn
  cases mn
  · go_enter Try.func18, Try.ntmps18
    go_wp2_with (go_at_call 24; refine (CN.out).mono ?_; rintro e w1 ⟨rfl, hb1⟩)
    go_ret
    exact ⟨_, rfl, (HH.out.keep fun b hl => hb1.block b (by omega)).mono (fun b o hr => ⟨.inl hr, by have := hb1.size; omega⟩), hb1⟩
  · go_enter Try.func18, Try.ntmps18
    go_wp2_with (first | (go_at_call 24; refine (CN.out).mono ?_; rintro e w1 ⟨rfl, hb1⟩) | (go_at_call 61; refine (CO.out _ hb1).mono ?_; rintro e w2 ⟨k, n, s, A', len', cap', r, vn', rfl, hv', hb2⟩; have hfld := fun w => field93 w vn' k n r s A' len' cap'))
    go_ret
    exact ⟨_, rfl, hv'.mono (fun b o hr => ⟨.inr (by have := hb1.size; rcases hr.1 with h | h <;> omega), hr.2⟩), bnext hb1 hb2⟩
def sameNs : List Na → List Na → Bool
  | [], [] => true
  | x :: l, y :: m => x.1.toList == y.1.toList && (sameV x.2 y.2 && sameNs l m)
  | _, _ => false
theorem sameNs_len : ∀ (l m : List Na), sameNs l m = true → l.length = m.length
  | [], [], _ => rfl
  | x :: l, y :: m, h => by simp only [sameNs, Bool.and_eq_true] at h; simp [sameNs_len l m h.2.2]
  | [], _ :: _, h => by simp [sameNs] at h
  | _ :: _, [], h => by simp [sameNs] at h
theorem sameNs_refl : ∀ (l : List Na), sameNs l l = true
  | [] => rfl
  | x :: l => by simp [sameNs, sameV_refl, sameNs_refl l]
theorem sameNs_cons (x y : Na) (l m : List Na) : sameNs (x :: l) (y :: m) = (x.1.toList == y.1.toList && (sameV x.2 y.2 && sameNs l m)) := by simp [sameNs]
theorem seqQ_nil {P : Program} {ops : Array Oper} {Q : Exit → Act → World → Prop} {T : Nat → Bool} {S : World → Prop} {acts : List Nat} {a : Act} {w : World} (h : RegT.seqT P ops Q T S acts a w) : RegT.seqQ P ops Q T S acts [] a w := h
attribute [local irreducible] wpList RegT.seqT RegT.seqQ
set_option maxRecDepth 100000 in
set_option maxHeartbeats 2000000 in
theorem sameNames25_any {B C : Nat} {v u : Value} {l m : List Na} (w : World) (h : IsNs w B v l) (hy : IsNs w C u m) (hB : B ≤ w.heap.size) (hC : C ≤ w.heap.size) :
    Calls Try.prog 25 #[v, u] w fun e w' => e = .returned (.bool (sameNs l m)) ∧ Below w.heap.size w w' := by
  obtain ⟨hlen, A, cap, hcap, rfl, h7⟩ := h
  obtain ⟨hlen', A', cap', hcap', rfl, h7'⟩ := hy
  have H7 := Lib.hid h7
  have H7' := Lib.hid h7'
  clear h7 h7'
  have hl : l.length ≤ 140737488351232 := by omega
  have hl' : m.length ≤ 140737488351232 := by omega
  obtain ⟨T, hT⟩ : ∃ T, T = sameNs l m := ⟨_, rfl⟩
  rw [← hT]
  have HTT := Lib.hid hT
  clear hT
  by_cases gl : l.length = m.length
  · have HLL := Lib.hid gl
    have gl' : ((l.length : Int) != m.length) = false := by rw [gl]; simp
    clear gl
    go_enter Try.func25, Try.ntmps25
    go_wp2_with fail
    clear gl'
    go_loopw [5] (fun i wr => ∃ j : Nat, j ≤ l.length ∧ i = .int .i64 j ∧ sameNs (l.drop j) (m.drop j) = T ∧ Below w.heap.size w wr) (fun i _ => l.length - (intOf i).toNat)
    case atStart => exact ⟨0, by omega, rfl, HTT.out.symm, Below.refl _ _⟩
    case round =>
      obtain ⟨j, hj, rfl, ht, hu⟩ := hrel
      have HT := Lib.hid ht
      have HU := Lib.hid hu
      clear ht hu
      by_cases hlt : j < l.length
      · have hlt' : j < m.length := by have := HLL.out; omega
        obtain ⟨b, o, hbB, hA, hx⟩ := H7.out (by rintro rfl; simp at hlt)
        obtain ⟨b', o', hbB', hA', hx'⟩ := H7'.out (by rintro rfl; simp at hlt')
        subst hA hA'
        obtain ⟨hs0, k1, n1, s1, A1, len1, cap1, r1, hat, hx1⟩ := hx.at2 j hlt
        obtain ⟨hs0', k2, n2, s2, A2, len2, cap2, r2, hat2, hx2⟩ := hx'.at2 j hlt'
        have hat' := hat.keep hbB (fun b hb => HU.out.block b (by omega))
        have hat2' := hat2.keep hbB' (fun b hb => HU.out.block b (by omega))
        obtain ⟨e0, e1, e2, e3, e4, e5⟩ := hat'.six
        obtain ⟨f0, f1, f2, f3, f4, f5⟩ := hat2'.six
        have HD1 := Lib.hid (List.drop_eq_getElem_cons hlt)
        have HD2 := Lib.hid (List.drop_eq_getElem_cons hlt')
        have hcall := fun w' (hb : Below w.heap.size w w') => Same23_any l[j].2 m[j].2 w' B C _ _ (IsVa.keep (fun b hb' => hb.block b (by omega)) hx1) (IsVa.keep (fun b hb' => hb.block b (by omega)) hx2) (Nat.le_trans hB hb.size) (Nat.le_trans hC hb.size)
        obtain ⟨pp, hpp⟩ : ∃ pp, pp = sameV l[j].2 m[j].2 := ⟨_, rfl⟩
        rw [← hpp] at hcall
        have HPP := Lib.hid hpp
        have HCALL := Lib.hid hcall
        obtain ⟨sn, hsn⟩ : ∃ sn, sn = l[j].1 := ⟨_, rfl⟩
        obtain ⟨sm, hsm⟩ : ∃ sm, sm = m[j].1 := ⟨_, rfl⟩
        have HSN := Lib.hid hsn
        have HSM := Lib.hid hsm
        rw [← hsn] at e0 hs0
        rw [← hsm] at f0 hs0'
        clear hat hat' hat2 hat2' hx hx1 hx' hx2 hcall hpp hsn hsm
        cases heq : (sn.toList == sm.toList)
        · have HF : Hid (T = false) := Lib.hid (by rw [← HT.out, HD1.out, HD2.out, sameNs_cons, ← HSN.out, ← HSM.out, heq]; rfl)
          have heq2 : (sn.toList != sm.toList) = true := by rw [bne, heq]; rfl
          go_wp2_with fail
          go_quiet (fail)
          go_wp2_with fail
          go_ret
          rw [HF.out]
          exact ⟨rfl, belowN HU.out _⟩
        have heq2 : (sn.toList != sm.toList) = false := by rw [bne, heq]; rfl
        have HEQ := Lib.hid heq
        go_wp2_with fail
        refine RegT.region_seq (fun i => Nat.ble i 21) (fun W => (W.cell? ⟨b, o + j * 6, Option.none⟩ = some (.string sn) ∧ W.cell? ⟨b, o + j * 6 + 1, Option.none⟩ = some (.int .u8 k1) ∧ W.cell? ⟨b, o + j * 6 + 2, Option.none⟩ = some (.int .i64 n1) ∧ W.cell? ⟨b, o + j * 6 + 3, Option.none⟩ = some (.string s1) ∧ W.cell? ⟨b, o + j * 6 + 4, Option.none⟩ = some (.slice A1 len1 cap1) ∧ W.cell? ⟨b, o + j * 6 + 5, Option.none⟩ = some (.int .i64 r1)) ∧ (W.cell? ⟨b', o' + j * 6, Option.none⟩ = some (.string sm) ∧ W.cell? ⟨b', o' + j * 6 + 1, Option.none⟩ = some (.int .u8 k2) ∧ W.cell? ⟨b', o' + j * 6 + 2, Option.none⟩ = some (.int .i64 n2) ∧ W.cell? ⟨b', o' + j * 6 + 3, Option.none⟩ = some (.string s2) ∧ W.cell? ⟨b', o' + j * 6 + 4, Option.none⟩ = some (.slice A2 len2 cap2) ∧ W.cell? ⟨b', o' + j * 6 + 5, Option.none⟩ = some (.int .i64 r2))) [0, 1, 2, 3, 4, 5, 6, 7, 8, 9, 10, 11, 12, 13, 14, 15, 16, 17, 18, 19, 20, 21] [22, 23, 24] (by kernel_rfl) (by kernel_rfl) (by decide +kernel) (by decide) ⟨⟨e0, e1, e2, e3, e4, e5⟩, ⟨f0, f1, f2, f3, f4, f5⟩⟩ ?_
        refine RegT.quiet_step rfl (fun _ _ _ h => h) (by kernel_rfl) (v := .slice (some ⟨b, o, Option.none⟩) l.length cap) (fun w' hS => ?_) ?_
        · go_simp
        refine RegT.quiet_step rfl (fun _ _ _ h => h) (by kernel_rfl) (v := .int .i64 j) (fun w' hS => ?_) ?_
        · go_simp
        refine RegT.quiet_step rfl (fun _ _ _ h => h) (by kernel_rfl) (v := .pointer (some ⟨b, o + j * 6, Option.none⟩)) (fun w' hS => ?_) ?_
        · go_simp
        refine RegT.quiet_step rfl (fun _ _ _ h => h) (by kernel_rfl) (v := .pointer (some ⟨b, o + j * 6, Option.none⟩)) (fun w' hS => ?_) ?_
        · go_simp
        refine RegT.quiet_step rfl (fun _ _ _ h => h) (by kernel_rfl) (v := .string sn) (fun w' hS => ?_) ?_
        · obtain ⟨⟨t0, t1, t2, t3, t4, t5⟩, ⟨u0, u1, u2, u3, u4, u5⟩⟩ := hS; go_simp
        refine RegT.quiet_step rfl (fun _ _ _ h => h) (by kernel_rfl) (v := (.slice (some ⟨b', o', Option.none⟩) m.length cap')) (fun w' hS => ?_) ?_
        · go_simp
        refine RegT.quiet_step rfl (fun _ _ _ h => h) (by kernel_rfl) (v := .int .i64 j) (fun w' hS => ?_) ?_
        · go_simp
        refine RegT.quiet_step rfl (fun _ _ _ h => h) (by kernel_rfl) (v := (.pointer (some ⟨b', o' + j * 6, Option.none⟩))) (fun w' hS => ?_) ?_
        · go_simp
        refine RegT.quiet_step rfl (fun _ _ _ h => h) (by kernel_rfl) (v := (.pointer (some ⟨b', o' + j * 6, Option.none⟩))) (fun w' hS => ?_) ?_
        · go_simp
        refine RegT.quiet_step rfl (fun _ _ _ h => h) (by kernel_rfl) (v := .string sm) (fun w' hS => ?_) ?_
        · obtain ⟨⟨t0, t1, t2, t3, t4, t5⟩, ⟨u0, u1, u2, u3, u4, u5⟩⟩ := hS; go_simp
        refine RegT.quiet_step rfl (fun _ _ _ h => h) (by kernel_rfl) (v := .bool false) (fun w' hS => ?_) ?_
        · go_simp
        refine RegT.quiet_step rfl (fun _ _ _ h => h) (by kernel_rfl) (v := .bool false) (fun w' hS => ?_) ?_
        · go_simp
        refine RegT.quiet_step rfl (fun _ _ _ h => h) (by kernel_rfl) (v := .slice (some ⟨b, o, Option.none⟩) l.length cap) (fun w' hS => ?_) ?_
        · go_simp
        refine RegT.quiet_step rfl (fun _ _ _ h => h) (by kernel_rfl) (v := .int .i64 j) (fun w' hS => ?_) ?_
        · go_simp
        refine RegT.quiet_step rfl (fun _ _ _ h => h) (by kernel_rfl) (v := .pointer (some ⟨b, o + j * 6, Option.none⟩)) (fun w' hS => ?_) ?_
        · go_simp
        refine RegT.quiet_step rfl (fun _ _ _ h => h) (by kernel_rfl) (v := .pointer (some ⟨b, o + j * 6 + 1, Option.none⟩)) (fun w' hS => ?_) ?_
        · go_simp
        refine RegT.quiet_step rfl (fun _ _ _ h => h) (by kernel_rfl) (v := .agg #[.int .u8 k1, .int .i64 n1, .string s1, .slice A1 len1 cap1, .int .i64 r1]) (fun w' hS => ?_) ?_
        · obtain ⟨⟨t0, t1, t2, t3, t4, t5⟩, ⟨u0, u1, u2, u3, u4, u5⟩⟩ := hS; go_simp
        refine RegT.quiet_step rfl (fun _ _ _ h => h) (by kernel_rfl) (v := (.slice (some ⟨b', o', Option.none⟩) m.length cap')) (fun w' hS => ?_) ?_
        · go_simp
        refine RegT.quiet_step rfl (fun _ _ _ h => h) (by kernel_rfl) (v := .int .i64 j) (fun w' hS => ?_) ?_
        · go_simp
        refine RegT.quiet_step rfl (fun _ _ _ h => h) (by kernel_rfl) (v := (.pointer (some ⟨b', o' + j * 6, Option.none⟩))) (fun w' hS => ?_) ?_
        · go_simp
        refine RegT.quiet_step rfl (fun _ _ _ h => h) (by kernel_rfl) (v := (.pointer (some ⟨b', o' + j * 6 + 1, Option.none⟩))) (fun w' hS => ?_) ?_
        · go_simp
        refine RegT.quiet_step rfl (fun _ _ _ h => h) (by kernel_rfl) (v := .agg #[.int .u8 k2, .int .i64 n2, .string s2, .slice A2 len2 cap2, .int .i64 r2]) (fun w' hS => ?_) ?_
        · obtain ⟨⟨t0, t1, t2, t3, t4, t5⟩, ⟨u0, u1, u2, u3, u4, u5⟩⟩ := hS; go_simp
        refine seqQ_nil (RegT.seqT_tail [22, 23, 24] [_, _, _] rfl rfl _ _ ?_)
        have HD := Lib.hid (HU.out.drew)
        clear e0 e1 e2 e3 e4 e5 f0 f1 f2 f3 f4 f5
        cases pp
        · have HF : Hid (T = false) := Lib.hid (by rw [← HT.out, HD1.out, HD2.out, sameNs_cons, ← HPP.out]; simp)
          go_wp2_with (go_at_call 23; refine (HCALL.out _ HD.out).mono ?_; rintro e w1 ⟨rfl, hb1⟩)
          simp only [RegT.NP]
          go_wp2_with fail
          go_ret
          rw [HF.out]
          exact ⟨rfl, bnext HD.out hb1⟩
        · go_wp2_with (go_at_call 23; refine (HCALL.out _ HD.out).mono ?_; rintro e w1 ⟨rfl, hb1⟩)
          simp only [RegT.NP]
          go_wp2_with fail
          go_roundw
          case rel => exact ⟨j + 1, by omega, by go_num, by rw [← HT.out, HD1.out, HD2.out, sameNs_cons, ← HPP.out, ← HSN.out, ← HSM.out, HEQ.out]; rfl, bnext HD.out hb1⟩
          case measure => simp [intOf]; omega
      · obtain rfl : j = l.length := by omega
        have HF : Hid (T = true) := Lib.hid (by rw [← HT.out, List.drop_length, HLL.out, List.drop_length]; rfl)
        go_wp2_with fail
        go_ret
        rw [HF.out]
        exact ⟨rfl, HU.out⟩
  · have gl' : ((l.length : Int) != m.length) = true := by simp; omega
    have HF : Hid (T = false) := Lib.hid (by
      rw [HTT.out]
      cases hs : sameNs l m
      · rfl
      · exact absurd (sameNs_len l m hs) gl)
    clear H7 H7' HTT gl
    go_enter Try.func25, Try.ntmps25
    go_wp2_with fail
    go_ret
    rw [HF.out]
    exact ⟨rfl, Below.refl _ _⟩
end Go.Proofs.Ytnknefdpglnbnaa
