/- CodeMany, walked. -/
import Derived.Test.YtnknefdpglnbnaaEa
namespace Go.Proofs.Ytnknefdpglnbnaa
open Go.RowKit

attribute [local go_sem] SV.g0 SV.g1 SV.g2 SV.g3 SV.g4 SV.g5 SV.g6 SV.g7 SV.g8 SV.g9 SV.g10 SV.g11 SV.g12 SV.g13 SV.g14 SV.g15 SV.g16
attribute [local irreducible] wpList
theorem number_x (n : Int) (w : World) : Calls Try.prog 50 #[.int .i64 n] w fun e w' => e = .returned (.agg #[.int .u8 1, .int .i64 n, .string ⟨#[]⟩, .slice Option.none 0 0]) ∧ Below w.heap.size w w' := number_any n w
theorem let_x (n : Nat) (w : World) : Calls Try.prog 49 #[.string ⟨#[120]⟩, .agg #[.int .u8 1, .int .i64 n, .string ⟨#[]⟩, .slice Option.none 0 0]] w fun e w' => e = .returned (.agg (svX n).arr) ∧ Below w.heap.size w w' := let_any ⟨#[120]⟩ 1 n ⟨#[]⟩ Option.none 0 0 w
set_option maxRecDepth 100000 in
set_option maxHeartbeats 4000000 in
theorem many_walk (w : World) : Calls Try.prog 10 #[] w fun e w' => e = .returned (.bool true) ∧ Below w.heap.size w w' := by
  obtain ⟨i0, hi, hz0, hz1, hz2⟩ := info_parts info58
  have HIN := Lib.hid hi
  go_enter Try.func10, Try.ntmps10
  go_wp2_with (refine wpList_make_full w rfl (.const (.int .i64 512)) (.const (.int .i64 512)) 42 rfl w.heap.size 58 i0 (.agg SV.zero.arr) 17 Try.underlying42 HIN.out hz0 hz1 .i64 .i64 512 512 512 rfl rfl rfl rfl (by rw [hz2]; decide) (by unfold maxLen; omega) (Nat.le_refl _) ?_; intro w1 hown hgrow)
  have hb1 : Below w.heap.size w w1 := ⟨hgrow.os, hgrow.tape, hgrow.output, hgrow.size, fun k hk => hgrow.block k hk (by simp)⟩
  have hv1 : NRg 58 17 w1 w.heap.size (.slice (some ⟨w.heap.size, 0, Option.none⟩) 512 512) 512 (fun i cs => i < 0 → cs = (svX i).arr.toList) := by
    refine ⟨_, hown, fun i hi => ⟨((madeCells (Value.agg SV.zero.arr).cells (512 * 17)).toList.drop (i * 17)).take 17, ?_, fun q u hu => ?_, fun h => absurd h (by omega)⟩⟩
    · rw [List.length_take, List.length_drop, Array.length_toList, size_madeCells]; omega
    · rw [List.getElem?_take] at hu
      split at hu
      · rw [List.getElem?_drop] at hu; exact hu
      · cases hu
  have HV1 := Lib.hid hv1
  have HB1 := Lib.hid hb1
  obtain ⟨g, hg⟩ : ∃ g, g = w.heap.size := ⟨_, rfl⟩
  rw [← hg] at HV1 ⊢
  have HG := Lib.hid hg
  clear hown hgrow hv1 hb1 hg
  go_loopw [2] (fun i wr => ∃ j : Nat, j ≤ 512 ∧ i = .int .i64 j ∧ NRg 58 17 wr g (.slice (some ⟨g, 0, Option.none⟩) 512 512) 512 (fun i cs => i < j → cs = (svX i).arr.toList) ∧ Below w.heap.size w wr) (fun i _ => 512 - (intOf i).toNat)
  case atStart => exact ⟨0, by omega, rfl, HV1.out, HB1.out⟩
  case round =>
    obtain ⟨j, hj, rfl, hv, hu⟩ := hrel
    have HV := Lib.hid hv
    have HU := Lib.hid hu
    by_cases hlt : j < 512
    · obtain ⟨g', cap', cur, he, hlo, hcur, hcapc, hcs, _⟩ := hv.open (by omega)
      simp only [Value.slice.injEq, Option.some.injEq, Addr.mk.injEq, and_true, true_and] at he
      obtain ⟨rfl, rfl⟩ := he
      have HCU := Lib.hid hcur
      have hgl := hcur.lt
      clear hv hu hcur
      go_wp2_with (first | (go_at_call 50; (with_reducible refine (number_x _ _).mono ?_); rintro e w2 ⟨rfl, hb2⟩) | (go_at_call 49; (with_reducible refine (let_x _ _).mono ?_); rintro e w3 ⟨rfl, hb3⟩; have hgc : BlkN w3 g 58 cur := (HCU.out.below hb2).below hb3; have hgl3 := hgc.lt) | (refine wpList_store_part rfl 58 (.tmp 29) (.tmp 28) rfl i0 HIN.out g (j * 17) (.agg (svX j).arr) (svX j).arr.toList rfl rfl rfl 58 cur (cur.toList.take (j * 17) ++ (svX j).arr.toList ++ cur.toList.drop (j * 17 + (svX j).arr.toList.length)).toArray hgc (by rw [hz1]; rfl) (show j * 17 + 17 ≤ cur.size by omega) (SV.one _) rfl ?_; intro w4 hB4 hbut))
      have hb23 : Below w.heap.size w w3 := bnext (bnext HU.out hb2) hb3
      have hV4 : NRg 58 17 w4 g (.slice (some ⟨g, 0, Option.none⟩) 512 512) 512 (fun i cs => i < j + 1 → cs = (svX i).arr.toList) := by
        refine NRg.store ((HV.out.below hb2).below hb3) j hlt rfl hgc hB4 rfl (fun i ds hij hi hp hlt' => hp (by omega)) (fun _ => rfl)
      have HV4 := Lib.hid hV4
      have HU4 := Lib.hid (hbut.below (by rw [HG.out]; exact Nat.le_refl _) hb23)
      clear hV4 hbut hB4 hb23 hb2 hb3 hgc hgl3
      go_wp2_with fail
      go_roundw
      case rel => exact ⟨j + 1, by omega, by go_num, HV4.out, HU4.out⟩
      case measure => simp [intOf]; omega
    obtain rfl : j = 512 := by omega
    have hrow : LR (fun b _ => b < wr.heap.size) 256 (some ⟨g, 0, Option.none⟩) 512 512 rowX (fun b o => IsSts wr wr.heap.size b o rowX) := by
      have hl : rowX.length = 512 := by simp [rowX]
      refine ⟨hl.symm, Nat.le_refl _, by rw [hl]; omega, fun _ => ?_⟩
      obtain ⟨g', cap', cur, he, hlo, hcur, hcapc, hcs, hel⟩ := hv.open (by omega)
      simp only [Value.slice.injEq, Option.some.injEq, Addr.mk.injEq, and_true, true_and] at he
      obtain ⟨rfl, rfl⟩ := he
      refine ⟨g, 0, hcur.lt, rfl, RdS.list fun i hi => ?_⟩
      rw [hl] at hi
      obtain ⟨cs, hcl, hat, hp⟩ := hel i hi
      refine ⟨cs, hcl, by rw [Nat.zero_add]; exact hat, svX i, hp hi, ?_⟩
      have e : rowX[i]'(by rw [hl]; exact hi) = stX i := by simp [rowX]
      rw [e]
      exact isX _ _ i
    rw [show ((512 : Nat) : Int) = 512 from rfl]
    obtain ⟨W, rfl⟩ : ∃ W : World, W = wr := ⟨_, rfl⟩
    have HRW := Lib.hid hrow
    have HBW := Lib.hid hu
    clear hv hu hrow HV HU HV1 HB1
    go_upto_region 7 with (fail)
    obtain ⟨W2, hW2⟩ : ∃ W2, W2 = W.alloc (.cells #[.int .u8 8, .string ⟨#[]⟩, .string ⟨#[]⟩, .int .u8 0, .int .u8 0, .int .u8 0, .int .i64 0, .string ⟨#[]⟩, .slice Option.none 0 0, .int .u8 0, .int .i64 0, .string ⟨#[]⟩, .slice Option.none 0 0, .slice Option.none 0 0, .slice Option.none 0 0, .slice Option.none 0 0, .slice Option.none 0 0] 58) := ⟨_, rfl⟩
    have hF2 : BlkN W2 W.heap.size 58 svF.arr := by rw [hW2]; exact BlkN.at_ rfl 58 svF.arr
    have hB2 : Below W.heap.size W W2 := by rw [hW2]; exact (Below.refl _ _).alloc (Nat.le_refl _) _
    rw [← hW2]
    have HD2 : Hid (LR (fun b _ => b < W2.heap.size) 256 (some ⟨W.heap.size, 0, Option.none⟩) 1 1 (deepX 0) (fun b o => IsSts W2 W2.heap.size b o (deepX 0))) := Lib.hid (LR_one hF2 hF2.lt (isF _ _))
    have HB2 := Lib.hid hB2
    clear hW2 hF2 hB2
    go_wp2_with fail
    go_loopw [3, 4] (fun sl i wr => ∃ j : Nat, j ≤ 511 ∧ i = .int .i64 j ∧ ∃ A, sl = .slice A 1 1 ∧ LR (fun b _ => b < wr.heap.size) 256 A 1 1 (deepX j) (fun b o => IsSts wr wr.heap.size b o (deepX j)) ∧ Below W.heap.size W wr) (fun _ i _ => 511 - (intOf i).toNat)
    case atStart => exact ⟨0, by omega, rfl, _, rfl, HD2.out, HB2.out⟩
    case round =>
      obtain ⟨j, hj, rfl, Ad, rfl, hd, hu⟩ := hrel
      have HD := Lib.hid hd
      have HU := Lib.hid hu
      have hus := hu.size
      clear hd hu
      by_cases hlt : j < 511
      · go_upto_region 11 with (go_at_call 47; (with_reducible refine (name_any _ _).mono ?_); rintro e w5 ⟨rfl, hb5⟩)
        obtain ⟨W6, hW6⟩ : ∃ W6, W6 = w5.alloc (.cells #[.int .u8 6, .string ⟨#[]⟩, .string ⟨#[]⟩, .int .u8 64, .int .u8 0, .int .u8 4, .int .i64 0, .string ⟨#[120]⟩, .slice Option.none 0 0, .int .u8 0, .int .i64 0, .string ⟨#[]⟩, .slice Option.none 0 0, .slice Ad 1 1, .slice Option.none 0 0, .slice Option.none 0 0, .slice Option.none 0 0] 58) := ⟨_, rfl⟩
        have hs5 := hb5.size
        have hC6 : BlkN W6 w5.heap.size 58 (svC 64 Ad).arr := by rw [hW6]; exact BlkN.at_ rfl 58 (svC 64 Ad).arr
        have hB6 : Below wr.heap.size wr W6 := by rw [hW6]; exact hb5.alloc hs5 _
        rw [← hW6]
        have hk6 : LR (fun b _ => b < wr.heap.size) 256 Ad 1 1 (deepX j) (fun b o => IsSts W6 wr.heap.size b o (deepX j)) := HD.out.imp fun b o hr hp => ⟨hr, IsSts.keep (fun b hb => hB6.block b hb) hr hp⟩
        have hs6 := hB6.size
        have p3 := hC6.cell 3 rfl
        have f3 := hC6.free 3
        have hlt6 := hC6.lt
        have HC6 := Lib.hid hC6
        have HB6 := Lib.hid (bnext HU.out hB6)
        have HK6 := Lib.hid hk6
        clear hW6 hC6 hB6 hk6 hb5 HD
        by_cases hp : j % 2 = 0
        · have hr : (j : Int).tmod 2 = 0 := by rw [Int.tmod_eq_emod_of_nonneg (by omega)]; omega
          obtain ⟨W7, hW7⟩ : ∃ W7, W7 = W6.setCell ⟨w5.heap.size, 3, Option.none⟩ (.int .u8 1) := ⟨_, rfl⟩
          have hC7 : BlkN W7 w5.heap.size 58 (svC 1 Ad).arr := by rw [hW7]; exact HC6.out.set 3 _
          have hU7 : Upd w5.heap.size W6 W7 := by rw [hW7]; exact (Upd.refl _ _).set 3 _
          have HC7 := Lib.hid hC7
          have hlt7 := hC7.lt
          have hsz7 := hU7.size
          have hk7 : LR (fun b _ => b < wr.heap.size) 256 Ad 1 1 (deepX j) (fun b o => IsSts W7 wr.heap.size b o (deepX j)) := HK6.out.imp fun b o hr hp => ⟨hr, IsSts.keep (fun b hb => hU7.block b (by omega) (by omega)) hr hp⟩
          have HK7 : Hid (LR (fun b _ => b < W7.heap.size) 256 Ad 1 1 (deepX j) (fun b o => IsSts W7 W7.heap.size b o (deepX j))) := Lib.hid (hk7.imp fun b o hr hp => ⟨by omega, IsStsR.mono (fun b o hr => by omega) hp⟩)
          clear hk7
          have HB7 : Hid (Below W.heap.size W W7) := Lib.hid (by rw [hW7]; exact HB6.out.setCell (show W.heap.size ≤ w5.heap.size by omega) _)
          clear hC7 hU7
          go_wp2_with fail
          rw [← hW7]
          clear hW7
          go_roundw
          case rel => exact ⟨j + 1, by omega, by go_num, _, rfl, by rw [deepX, abX, if_pos hp]; exact LR_one HC7.out hlt7 (isC (by decide) (by decide) HK7.out), HB7.out⟩
          case measure => simp [intOf]; omega
        · have hr : (j : Int).tmod 2 = 1 := by rw [Int.tmod_eq_emod_of_nonneg (by omega)]; omega
          go_wp2_with fail
          go_roundw
          case rel => exact ⟨j + 1, by omega, by go_num, _, rfl, by rw [deepX, abX, if_neg hp]; exact LR_one HC6.out hlt6 (isC (by decide) (by decide) (HK6.out.imp fun b o hr hp => ⟨by omega, IsStsR.mono (fun b o hr => by omega) hp⟩)), HB6.out⟩
          case measure => simp [intOf]; omega
      · obtain rfl : j = 511 := by omega
        rw [show ((511 : Nat) : Int) = 511 from rfl]
        obtain ⟨V, rfl⟩ : ∃ V : World, V = wr := ⟨_, rfl⟩
        have HBV : Hid (Below w.heap.size w V) := Lib.hid (HBW.out.trans (HU.out.mono HBW.out.size))
        have kr : ∀ w', Below V.heap.size V w' → LR (fun b _ => b < W.heap.size) 256 (some ⟨g, 0, Option.none⟩) 512 512 rowX (fun b o => IsSts w' W.heap.size b o rowX) := fun w' hb => HRW.out.imp fun b o hr hp => ⟨hr, IsSts.keep (fun b hb' => (bnext HU.out hb).block b hb') hr hp⟩
        have kd : ∀ w', Below V.heap.size V w' → LR (fun b _ => b < V.heap.size) 256 Ad 1 1 (deepX 511) (fun b o => IsSts w' V.heap.size b o (deepX 511)) := fun w' hb => HD.out.imp fun b o hr hp => ⟨hr, IsSts.keep (fun b hb' => hb.block b hb') hr hp⟩
        have CR := Lib.hid (fun w' hb => Check_any rowX _ 512 512 w' W.heap.size (Nat.le_trans hus (Below.size hb)) (kr w' hb))
        have CD := Lib.hid (fun w' hb => Check_any (deepX 511) Ad 1 1 w' V.heap.size (Below.size hb) (kd w' hb))
        have SR := Lib.hid (fun w' hb => Size_any rowX _ 512 512 w' W.heap.size (Nat.le_trans hus (Below.size hb)) (kr w' hb))
        have KR := Lib.hid kr
        rw [m1] at CR
        rw [m3] at CD
        rw [m4] at SR
        clear kr kd HD HD2 HB2 hlt hj HRW
        go_upto_region 14 with (go_at_call 28; (with_reducible refine (CR.out _ (Below.refl _ _)).mono ?_); rintro e v1 ⟨rfl, hb1⟩)
        have HV1 := Lib.hid hb1
        have hv1 := hb1.size
        clear hb1
        refine wp_region_lit ?_
        refine wpList_move rfl (.tmp 1) rfl ?_
        refine wpList_append_lr rfl (.const (.slice Option.none 0 0)) (.tmp 52) rfl v1.heap.size W.heap.size (.slice Option.none 0 0) 0 [] rfl (World.ownsRow_nil _ _ _ _) (some ⟨g, 0, Option.none⟩) 512 512 rowX rfl (fun h => nomatch h) (KR.out _ HV1.out) (by unfold maxLen; omega) (by omega) (Nat.le_refl _) ?_
        intro x1 v2 ss hs1 hst1 hown1 hg1 hloc1
        have hb2 : Below v1.heap.size v1 v2 := ⟨hg1.os, hg1.tape, hg1.output, hg1.size, fun k hk => hg1.block k hk (by simp [Value.ownBlock])⟩
        have hrl : rowX.length = 512 := by simp [rowX]
        have hxb : ∀ g, x1.ownBlock = some g → v1.heap.size ≤ g := fun g hg => by
          rcases hloc1 with h | ⟨g', h, h2⟩
          · rw [h] at hg; simp [Value.ownBlock] at hg
          · rw [h] at hg; simp at hg; omega
        refine wpList_build rfl 58 _ rfl #[(0, .int .u8 8)] rfl (.agg svF.arr) (by kernel_rfl) ?_
        refine wpList_buildS rfl 42 1 _ rfl #[(0, .agg svF.arr)] rfl _ (buildS42 svF v2) ?_
        have hAl : Below v2.heap.size v2 (v2.alloc (.cells svF.arr 58)) := (Below.refl _ _).alloc (Nat.le_refl _) _
        have hown2 : (v2.alloc (.cells svF.arr 58)).ownsRow v1.heap.size 58 17 x1 512 (cellsOf ss) := own_below (by rw [hrl] at hown1; simpa using hown1) hAl
        have hv2 := hb2.size
        refine wpList_append_row _ rfl (.tmp 53) (.tmp 55) 42 rfl v1.heap.size 58 i0 (.agg SV.zero.arr) 17 256 Try.underlying42 HIN.out hz0 hz1 hz2 rfl (by decide) x1 512 (cellsOf ss) rfl hown2 ⟨v2.heap.size, 0, Option.none⟩ 1 1 svF.arr.toList rfl rfl (row_new _ _ _) (SV.one _) (by unfold maxLen; omega) (by omega) (by simp; omega) ?_
        intro x2 v3 hown3 hg3 hor3
        have hb3 : Below v1.heap.size v1 v3 := (bnext hb2 hAl).grown hg3 (by simp; omega) (fun g hg => hxb g hg)
        obtain ⟨A3, cap3, rfl, hl3⟩ := LR_of_row (w := v3) (base := v1.heap.size) (B := W.heap.size) (v := x2) (l := rowX ++ [stF]) (ss := ss ++ [svF]) (by
            have e1 : (rowX ++ [stF]).length = 512 + 1 := by simp [hrl]
            have e2 : cellsOf (ss ++ [svF]) = cellsOf ss ++ svF.arr.toList := by simp [cellsOf]
            rw [e1, e2]; exact hown3) (by simp [hs1]) (by have := hb3.size; omega) (fun i hi hs => by
              by_cases hlt : i < rowX.length
              · rw [List.getElem_append_left hlt, List.getElem_append_left (by omega)]
                exact (hst1 i hlt (by omega)).keep fun b hb => hb3.block b (by omega)
              · rw [List.getElem_append_right (by omega), List.getElem_append_right (by omega)]
                simp only [List.getElem_singleton]
                exact isF _ _) (by simp [hrl])
        have HV3 := Lib.hid (bnext HV1.out hb3)
        have hl3len : (rowX ++ [stF]).length = 513 := by simp [hrl]
        have C3 := Lib.hid (Check_any (rowX ++ [stF]) A3 _ cap3 v3 v3.heap.size (Nat.le_refl _) hl3)
        rw [m2] at C3
        clear hl3 hown1 hown2 hown3 hg1 hg3 hor3 hloc1 hst1 hs1 hb2 hb3 hAl hxb hrl hv2
        rw [hl3len] at C3 ⊢
        go_upto_region 16 with (first | (go_at_call 28; (with_reducible refine C3.out.mono ?_); rintro e v4 ⟨rfl, hb4⟩; have HV4 := Lib.hid (bnext HV3.out hb4); clear hb4) | (go_at_call 28; (with_reducible refine (CD.out _ HV4.out).mono ?_); rintro e v5 ⟨rfl, hb5⟩))
        have HV5 := Lib.hid (bnext HV4.out hb5)
        clear hb5 hl3len CR CD KR HV1 hv1 HV3 HV4
        go_wp2_with fail
        obtain ⟨i1, hi1, hy0, hy1, hy2⟩ := info_parts info73
        have HI1 := Lib.hid hi1
        clear hi1
        go_loopw [11, 12] (fun sl i wr => ∃ j : Nat, j ≤ 64 ∧ i = .int .i64 j ∧ Own73 RdN wr 0 v5.heap.size sl (nsM j) ∧ Below v5.heap.size v5 wr) (fun _ i _ => 64 - (intOf i).toNat)
        case atStart => exact ⟨0, by omega, rfl, own73_nil _ _ _ _, Below.refl _ _⟩
        case round =>
          obtain ⟨j, hj, rfl, hv, hu⟩ := hrel
          by_cases hlt : j < 64
          · obtain ⟨xs, hv⟩ := hv
            have hvl : (nsM j).length = j := by simp [nsM]
            obtain ⟨A0, cap0, hsl, hcap0⟩ : ∃ A0 cap0, u11 = .slice A0 j cap0 ∧ j ≤ cap0 := by
              obtain ⟨A0, cap0, h1, h2, _⟩ := hv.list
              exact ⟨A0, cap0, by rw [h1, hvl], by omega⟩
            subst hsl
            have HV := Lib.hid hv
            have HU := Lib.hid hu
            clear hv hu
            have hcv : (convert 77 9 (.slice (some ⟨wr.heap.size, 0, Option.none⟩) 2 2)).run Try.prog (wr.alloc (.cells #[.int .u8 (97 + (j : Int) / 8), .int .u8 (97 + (j : Int) % 8)] 5)) = .ok (.string ⟨#[UInt8.ofNat (97 + j / 8), UInt8.ofNat (97 + j % 8)]⟩) (wr.alloc (.cells #[.int .u8 (97 + (j : Int) / 8), .int .u8 (97 + (j : Int) % 8)] 5)) := by
              have h := conv2 wr (97 + j / 8) (97 + j % 8) (by omega) (by omega)
              rw [show ((97 + j / 8 : Nat) : Int) = 97 + (j : Int) / 8 from by omega, show ((97 + j % 8 : Nat) : Int) = 97 + (j : Int) % 8 from by omega] at h
              exact h
            have hnm : nmX j = (⟨#[97]⟩ : ByteArray) ++ (⟨#[97 + UInt8.ofNat (j / 8), 97 + UInt8.ofNat (j % 8)]⟩ : ByteArray) := rfl
            have HNM := Lib.hid hnm
            clear hnm
            go_wp2_with (refine wpList_append_row _ rfl (.tmp 69) (.tmp 82) 22 rfl v5.heap.size 73 i1 _ 6 80 Try.underlying22 HI1.out hy0 hy1 hy2 rfl (by decide) (.slice A0 j cap0) j xs rfl ?hz1 ⟨wr.heap.size + 1, 0, Option.none⟩ 1 1 [.string (nmX j), .int .u8 0, .int .i64 0, .string ⟨#[]⟩, .slice Option.none 0 0, .int .i64 0] rfl rfl ?hz2 ?hz3 ?hz4 ?hz5 ?hz6 ?_)
            case hz1 =>
              have hVR := (HV.out.below ((Below.refl wr.heap.size wr).alloc (Nat.le_refl _) (.cells #[.int .u8 (97 + (j : Int) / 8), .int .u8 (97 + (j : Int) % 8)] 5))).below ((Below.refl _ _).alloc (Nat.le_refl _) (.cells #[.string (nmX j), .int .u8 0, .int .i64 0, .string ⟨#[]⟩, .slice Option.none 0 0, .int .i64 0] 73))
              have := hVR.1
              rw [hvl] at this
              exact this
            case hz2 => have h := row_new (wr.alloc (.cells #[.int .u8 (97 + (j : Int) / 8), .int .u8 (97 + (j : Int) % 8)] 5)) [.string (nmX j), .int .u8 0, .int .i64 0, .string ⟨#[]⟩, .slice Option.none 0 0, .int .i64 0] 73; rw [World.size_alloc] at h; exact h
            case hz3 => intro u hu; simp only [List.mem_cons, List.not_mem_nil, or_false] at hu; rcases hu with rfl | rfl | rfl | rfl | rfl | rfl <;> rfl
            case hz4 => unfold maxLen; omega
            case hz5 => omega
            case hz6 => have := HU.out.size; simp; omega
            intro sl' w3 hown' hgrow hor
            rw [← HNM.out] at hgrow
            have hA2 : Below wr.heap.size wr ((wr.alloc (.cells #[.int .u8 (97 + (j : Int) / 8), .int .u8 (97 + (j : Int) % 8)] 5)).alloc (.cells #[.string (nmX j), .int .u8 0, .int .i64 0, .string ⟨#[]⟩, .slice Option.none 0 0, .int .i64 0] 73)) := ((Below.refl _ _).alloc (Nat.le_refl _) _).alloc (by simp) _
            have hVR := HV.out.below hA2
            have hU2 := bnext HU.out hA2
            have hsu := HU.out.size
            have hob : ∀ g, (Value.slice A0 j cap0).ownBlock = some g → v5.heap.size ≤ g ∧ g < wr.heap.size := fun g hg => HV.out.blk hg
            have hpush := GRow.push (x := (nmX j, vaZ)) (cs := [.string (nmX j), .int .u8 0, .int .i64 0, .string ⟨#[]⟩, .slice Option.none 0 0, .int .i64 0]) (lo2 := wr.heap.size) hVR rfl ⟨nmX_size j, _, _, _, _, _, rfl, isVaZ _ _⟩ hsu (by omega) (fun g hg => (hob g hg).2) (by rw [hvl]; exact hown') hgrow (by simpa using hor)
            have HV3 : Hid (Own73 RdN w3 0 v5.heap.size sl' (nsM (j + 1))) := Lib.hid (by
              have e : nsM (j + 1) = nsM j ++ [(nmX j, vaZ)] := by simp [nsM, List.range_succ]
              rw [e]
              exact ⟨_, hpush⟩)
            have HU3 : Hid (Below v5.heap.size v5 w3) := Lib.hid (hU2.grown hgrow hU2.size (fun g hg => (hob g hg).1))
            clear hown' hgrow hor hob hU2 hVR hA2 hpush hcv HNM
            go_wp2_with fail
            go_roundw
            case rel => exact ⟨j + 1, by omega, by go_num, HV3.out, HU3.out⟩
            case measure => simp [intOf]; omega
          · obtain rfl : j = 64 := by omega
            rw [show ((64 : Nat) : Int) = 64 from rfl]
            obtain ⟨U, rfl⟩ : ∃ U : World, U = wr := ⟨_, rfl⟩
            have hns : IsNs U U.heap.size u11 (nsM 64) := Own73.names (fun h => h) hv (by simp [nsM])
            have kn : ∀ w', Below U.heap.size U w' → IsNs w' U.heap.size u11 (nsM 64) := fun w' hb => hns.keep fun b hl => hb.block b hl
            have S1 := Lib.hid (fun w' (hb : Below U.heap.size U w') => Set45_any (B := U.heap.size) ⟨#[109, 111, 114, 101]⟩ w' (kn w' hb) (isVaZ w' (fun b _ => b < U.heap.size)) (by decide) hb.size)
            have S2 := Lib.hid (fun w' (hb : Below U.heap.size U w') => Set45_any (B := U.heap.size) ⟨#[97, 97, 97]⟩ w' (kn w' hb) (isVaZ w' (fun b _ => b < U.heap.size)) (by decide) hb.size)
            have M1 := Lib.hid (fun w' (hb : Below U.heap.size U w') => MayNames_any (B := U.heap.size) w' (kn w' hb) hb.size)
            rw [m6] at S1
            rw [m7] at S2
            rw [m5] at M1
            have HVU := Lib.hid (bnext HV5.out hu)
            clear hns kn hv hu C3 HV5
            go_upto_region 23 with (first | (go_at_call 45; (with_reducible refine (S1.out _ (Below.refl _ _)).mono ?_); rintro e u1 ⟨y1, rfl, _, hb1⟩; have HU1 := Lib.hid hb1; clear hb1) | (go_at_call 45; (with_reducible refine (S2.out _ HU1.out).mono ?_); rintro e u2 ⟨y2, rfl, _, hb2⟩))
            have HU2 := Lib.hid (bnext HU1.out hb2)
            clear hb2 S1 S2
            go_wp2_with (first
              | (go_at_call 32; (with_reducible refine (SR.out _ (bnext HVU.out HU2.out)).mono ?_); rintro e u3 ⟨rfl, hb3⟩; have HU3 := Lib.hid (bnext HU2.out hb3); clear hb3)
              | (go_at_call 40; (with_reducible refine (M1.out _ HU3.out).mono ?_); rintro e u4 ⟨rfl, hb4⟩; have HU4 := Lib.hid (bnext HU3.out hb4); clear hb4)
              | (go_at_call 17; refine (lives_any _).mono ?_; rintro e u5 ⟨rfl, hb5⟩))
            go_ret
            exact ⟨rfl, bnext HBV.out (bnext HVU.out (bnext HU4.out hb5))⟩
end Go.Proofs.Ytnknefdpglnbnaa
