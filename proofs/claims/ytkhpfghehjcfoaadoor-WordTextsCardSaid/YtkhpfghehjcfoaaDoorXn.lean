/- package word: Row; the document's MayAll and Row. -/
import Derived.Test.YtkhpfghehjcfoaaDoorXm
import Derived.Test.YtkhpfghehjcfoaaDoorXl
namespace Go.Proofs.YtkhpfghehjcfoaaDoor
open Go.RowKit

/-- What Row answers. -/
def rowR (l : List Va) : L8 × Int := if l.all mayV then (textsL l, 0) else ([], 2)
theorem szVs_may : ∀ (l : List Va), l.all mayV = true → szVs l ≤ 544768 * l.length
  | [], _ => by simp [szVs]
  | x :: l, h => by
    simp only [List.all_cons, Bool.and_eq_true] at h
    have h1 := mayV_sz x h.1
    have h2 := szVs_may l h.2
    simp only [szVs, List.length_cons]
    omega
theorem szVs_take_le (l : List Va) (j : Nat) : szVs (l.take j) ≤ szVs l := by
  conv => rhs; rw [← List.take_append_drop j l]
  rw [szVs_append]; omega
set_option maxRecDepth 100000 in
set_option maxHeartbeats 4000000 in
theorem rmayall_any {B : Nat} {v : Value} {l : List Va} (w : World) (h : IsVl w B v l) (hB : B ≤ w.heap.size) :
    Calls Tryd.prog 61 #[v] w fun e w' => e = .returned (.bool (l.all mayV)) ∧ Below w.heap.size w w' := by
  obtain ⟨hln, A, cap, hcap, rfl, h7⟩ := h
  have H7 := Lib.hid h7
  clear h7
  obtain ⟨R, hR⟩ : ∃ R, R = l.all mayV := ⟨_, rfl⟩
  rw [← hR]
  have HR := Lib.hid hR
  clear hR
  go_enter Tryd.func61, Tryd.ntmps61
  go_wp2_with fail
  go_loopw [3] (fun ix wr => ∃ j : Nat, ix = .int .i64 j ∧ j ≤ l.length ∧ (l.take j).all mayV = true ∧ Below w.heap.size w wr) (fun ix _ => l.length - (intOf ix).toNat)
  case atStart => exact ⟨0, rfl, by omega, rfl, Below.refl _ _⟩
  case round =>
    obtain ⟨j, rfl, hj, hall, hb⟩ := hrel
    have HALL := Lib.hid hall
    have HB := Lib.hid hb
    clear hall hb
    by_cases hlt : j < l.length
    · obtain ⟨b, o, hbB, hA, hx⟩ := H7.out (by rintro rfl; simp at hlt)
      subst hA
      obtain ⟨k1, n1, s1, A1, len1, cap1, r1, hat, hx1⟩ := hx.at2 j hlt
      have hat' := hat.keep hbB (fun b hb => HB.out.block b (by omega))
      obtain ⟨e0, e1, e2, e3, e4⟩ := hat'.five
      have hji : (j : Int) < l.length := by omega
      have C55 := Lib.hid (rmay_val wr (IsVa.keep (fun b hb' => HB.out.block b (by omega)) hx1) (Nat.le_trans hB HB.out.size))
      obtain ⟨m, hm⟩ : ∃ m, m = mayV l[j] := ⟨_, rfl⟩
      rw [← hm] at C55
      have HM := Lib.hid hm
      clear hat hat' hx hx1 hm
      cases m
      · have HF : Hid (R = false) := Lib.hid (by
          rw [HR.out]
          cases h : l.all mayV with
          | false => rfl
          | true =>
            have := List.all_eq_true.1 h l[j] (List.getElem_mem hlt)
            rw [← HM.out] at this; cases this)
        go_wp2_with (first | (go_at_call 55; refine C55.out.mono ?_; rintro e w1 ⟨rfl, hb1⟩))
        go_ret
        exact ⟨ret_bool HF.out.symm, bnext HB.out hb1⟩
      · go_wp2_with (first | (go_at_call 55; refine C55.out.mono ?_; rintro e w1 ⟨rfl, hb1⟩))
        go_roundw
        case rel => exact ⟨j + 1, by go_num, by omega, by
          have he : l.take (j + 1) = l.take j ++ [l[j]] := by rw [List.take_add_one, List.getElem?_eq_getElem hlt]; rfl
          rw [he, List.all_append, HALL.out]; simp [← HM.out], bnext HB.out hb1⟩
        case measure => simp only [intOf]; omega
    · have hji : ¬ (j : Int) < l.length := by omega
      have HF : Hid (R = true) := Lib.hid (by
        have := HALL.out
        rw [List.take_of_length_le (by omega)] at this
        rw [HR.out, this])
      go_wp2_with fail
      go_ret
      exact ⟨ret_bool HF.out.symm, HB.out⟩
set_option maxRecDepth 100000 in
set_option maxHeartbeats 4000000 in
theorem rrow_any {B : Nat} {v : Value} {l : List Va} (w : World) (h : IsVl w B v l) (hB : B ≤ w.heap.size) (hfit : Fits l) (hlen : l.length ≤ 20000) (hT : TabI w) :
    Calls Tryd.prog 35 #[v] w fun e w' => Below w.heap.size w w' ∧ e = .returned (.tuple #[.string (txtV (rowR l).1), .int .i64 (rowR l).2]) := by
  have C61 := Lib.hid (rmayall_any w h hB)
  obtain ⟨hln, A, cap, hcap, rfl, h7⟩ := h
  have H7 := Lib.hid h7
  have HF := Lib.hid hfit
  have HT := Lib.hid hT
  clear h7 hfit hT
  cases hall : l.all mayV with
  | false =>
    rw [hall] at C61
    have HR : Hid (rowR l = ([], 2)) := Lib.hid (by unfold rowR; rw [hall]; rfl)
    clear hall
    go_enter Tryd.func35, Tryd.ntmps35
    go_wp2_with (first | (go_at_call 61; refine C61.out.mono ?_; rintro e w1 ⟨rfl, hb1⟩))
    go_ret2
    exact ⟨hb1, by rw [HR.out]; rfl⟩
  | true =>
    rw [hall] at C61
    have HR : Hid (rowR l = (textsL l, 0)) := Lib.hid (by unfold rowR; rw [hall]; rfl)
    have hszl := szVs_may l hall
    have HALL := Lib.hid hall
    clear hall
    go_enter Tryd.func35, Tryd.ntmps35
    go_wp2_with (first | (go_at_call 61; refine C61.out.mono ?_; rintro e w1 ⟨rfl, hb1⟩; have HB1 := Lib.hid hb1; clear hb1))
    go_loopw [4, 5] (fun sx ix wr => ∃ (j : Nat) (S : ByteArray), sx = .string S ∧ ix = .int .i64 j ∧ j ≤ l.length ∧ S = txtV (textsL (l.take j)) ∧ Below w.heap.size w wr) (fun _ ix _ => l.length - (intOf ix).toNat)
    case atStart => exact ⟨0, _, rfl, rfl, by omega, rfl, HB1.out⟩
    case round =>
      obtain ⟨j, S, rfl, rfl, hj, hS, hb⟩ := hrel
      have hSl : S.size ≤ 10895360000 := by
        rw [hS]
        show (textsL (l.take j)).length ≤ _
        have h1 := textsL_len (l.take j) (HF.out.take j)
        have h2 := szVs_take_le l j
        omega
      have HSE := Lib.hid hS
      have HBJ := Lib.hid hb
      clear hb hS
      by_cases hlt : j < l.length
      rotate_left
      · have hji : ¬ (j : Int) < l.length := by omega
        have HE : Hid (S = txtV (textsL l)) := Lib.hid (by rw [HSE.out, List.take_of_length_le (by omega)])
        go_wp2_with fail
        go_ret2
        refine ⟨HBJ.out, ?_⟩
        rw [HR.out, ← HE.out]
        rfl
      have hji : (j : Int) < l.length := by omega
      obtain ⟨b, o, hbB, hA, hx⟩ := H7.out (by rintro rfl; simp at hlt)
      subst hA
      obtain ⟨k1, n1, s1, A1, len1, cap1, r1, hat, hx1⟩ := hx.at2 j hlt
      have hat' := hat.keep hbB (fun b hb => HBJ.out.block b (by omega))
      obtain ⟨e0, e1, e2, e3, e4⟩ := hat'.five
      have hmj : mayV l[j] = true := List.all_eq_true.1 HALL.out _ (List.getElem_mem hlt)
      obtain ⟨q2, htk1⟩ : ∃ q2, takeV l[j] 512 16 = some q2 := by
        unfold mayV at hmj
        cases e : takeV l[j] 512 16 with
        | none => rw [e] at hmj; cases hmj
        | some q => exact ⟨q, rfl⟩
      have C60 := Lib.hid (rtext_any l[j] wr B _ 512 16 q2 (IsVa.keep (fun b hb' => HBJ.out.block b (by omega)) hx1) (Nat.le_trans hB HBJ.out.size) (HF.out.at _ (List.getElem_mem hlt)) htk1 (Nat.le_refl _) (HT.out.on HBJ.out))
      obtain ⟨Y, hY⟩ : ∃ Y, Y = txtV (textL l[j]) := ⟨_, rfl⟩
      rw [← hY] at C60
      have hYl : Y.size ≤ 544768 := by
        rw [hY]
        show (textL l[j]).length ≤ _
        have h1 := textL_len l[j] (HF.out.at _ (List.getElem_mem hlt))
        have h2 := takeV_sz _ _ _ _ htk1
        omega
      have htke : l.take (j + 1) = l.take j ++ [l[j]] := by rw [List.take_add_one, List.getElem?_eq_getElem hlt]; rfl
      have HNX : Hid (txtV (textsL (l.take (j + 1))) = if j = 0 then S ++ Y else S ++ txtV [32] ++ Y) := Lib.hid (by
        rw [htke, textsL_snoc]
        by_cases hj0 : j = 0
        · subst hj0
          rw [if_pos rfl, hY, cat_txt1 S _ _ HSE.out]
          rfl
        · have hne : l.take j ≠ [] := by
            intro e
            have := congrArg List.length e
            rw [List.length_take, List.length_nil] at this
            omega
          rw [if_neg hj0, if_neg hne, hY, cat_txt1 (S ++ txtV [32]) _ _ (cat_txt1 S _ [32] HSE.out)]
          simp)
      clear hat hat' hx hx1 htk1 hY htke hmj
      by_cases hj0 : j = 0
      · have hjn : ¬ (0 : Int) < j := by omega
        have HNX : Hid (txtV (textsL (l.take (j + 1))) = S ++ Y) := Lib.hid (by rw [HNX.out, if_pos hj0])
        have hil : ¬ 9223372036854775807 < S.size + Y.size := by omega
        clear hj0
        go_wp2_with (first | (go_at_call 60; refine C60.out.mono ?_; rintro e w1 ⟨hb1, rfl⟩))
        go_roundw
        case rel => exact ⟨j + 1, _, rfl, by go_num, by omega, HNX.out.symm, bnext HBJ.out hb1⟩
        case measure => simp only [intOf]; omega
      · have hjn : (0 : Int) < j := by omega
        have HNX : Hid (txtV (textsL (l.take (j + 1))) = S ++ txtV [32] ++ Y) := Lib.hid (by rw [HNX.out, if_neg hj0])
        have hil : ¬ 9223372036854775807 < S.size + 1 := by omega
        have hil2 : ¬ 9223372036854775807 < S.size + 1 + Y.size := by omega
        clear hj0
        go_wp2_with (first | (go_at_call 60; refine C60.out.mono ?_; rintro e w1 ⟨hb1, rfl⟩))
        go_roundw
        case rel => exact ⟨j + 1, _, rfl, by go_num, by omega, HNX.out.symm, bnext HBJ.out hb1⟩
        case measure => simp only [intOf]; omega
set_option maxRecDepth 100000 in
set_option maxHeartbeats 4000000 in
theorem row_any {B : Nat} {v : Value} {l : List Va} (w : World) (h : IsVl w B v l) (hB : B ≤ w.heap.size) (hfit : Fits l) (hlen : l.length ≤ 20000) (hT : TabI w) :
    Calls Tryd.prog 34 #[v] w fun e w' => Below w.heap.size w w' ∧ e = .returned (.tuple #[.string (txtV (rowR l).1), .int .i64 (rowR l).2]) := by
  obtain ⟨hln, A, cap, hcap, rfl, h7⟩ := h
  have H7 := Lib.hid h7
  have HF := Lib.hid hfit
  have HT := Lib.hid (Lib.tabBelow_of_tabIs hT)
  clear h7 hfit hT
  obtain ⟨R, hRR⟩ : ∃ R, R = rowR l := ⟨_, rfl⟩
  rw [← hRR]
  have HR : Hid (R = if l.all mayV then (textsL l, 0) else ([], 2)) := Lib.hid hRR
  clear hRR
  go_enter Tryd.func34, Tryd.ntmps34
  go_wp2_with fail
  go_loopw [4, 9] (fun _ ix wr => ∃ j : Nat, ix = .int .i64 j ∧ j ≤ l.length ∧ (l.take j).all mayV = true ∧ Below w.heap.size w wr) (fun _ ix _ => l.length - (intOf ix).toNat)
  case atStart => exact ⟨0, rfl, by omega, rfl, Below.refl _ _⟩
  case round =>
    obtain ⟨j, rfl, hj, hall, hb⟩ := hrel
    have HALL := Lib.hid hall
    have HB := Lib.hid hb
    clear hall hb
    by_cases hlt : j < l.length
    · obtain ⟨b, o, hbB, hA, hx⟩ := H7.out (by rintro rfl; simp at hlt)
      subst hA
      obtain ⟨k1, n1, s1, A1, len1, cap1, r1, hat, hx1⟩ := hx.at2 j hlt
      have hat' := hat.keep hbB (fun b hb => HB.out.block b (by omega))
      obtain ⟨e0, e1, e2, e3, e4⟩ := hat'.five
      have hji : (j : Int) < l.length := by omega
      have C53 := Lib.hid (vmay_any wr (IsVa.keep (fun b hb' => HB.out.block b (by omega)) hx1) (Nat.le_trans hB HB.out.size))
      obtain ⟨m, hm⟩ : ∃ m, m = mayV l[j] := ⟨_, rfl⟩
      rw [← hm] at C53
      have HM := Lib.hid hm
      clear hat hat' hx hx1 hm
      cases m
      · have HFF : Hid (R = ([], 2)) := Lib.hid (by
          rw [HR.out, if_neg]
          intro h
          have := List.all_eq_true.1 h l[j] (List.getElem_mem hlt)
          rw [← HM.out] at this; cases this)
        go_wp2_with (first | (go_at_call 53; refine C53.out.mono ?_; rintro e w1 ⟨rfl, hb1⟩))
        go_ret2
        exact ⟨bnext HB.out hb1, by rw [HFF.out]; rfl⟩
      · go_wp2_with (first | (go_at_call 53; refine C53.out.mono ?_; rintro e w1 ⟨rfl, hb1⟩))
        go_roundw
        case rel => exact ⟨j + 1, by go_num, by omega, by
          have he : l.take (j + 1) = l.take j ++ [l[j]] := by rw [List.take_add_one, List.getElem?_eq_getElem hlt]; rfl
          rw [he, List.all_append, HALL.out]; simp [← HM.out], bnext HB.out hb1⟩
        case measure => simp only [intOf]; omega
    have hji : ¬ (j : Int) < l.length := by omega
    have hall : l.all mayV = true := by
      have := HALL.out
      rw [List.take_of_length_le (by omega)] at this
      exact this
    have HR2 : Hid (R = (textsL l, 0)) := Lib.hid (by rw [HR.out, if_pos hall])
    have hszl := szVs_may l hall
    have HB1 := HB
    clear HALL hall hlt hj
    go_wp2_with fail
    go_loopw [5, 6, 21] (fun v _ ix wr => ∃ (j : Nat) (b : L8), ix = .int .i64 j ∧ j ≤ l.length ∧ Grt w w.heap.size wr v b ∧ b = textsL (l.take j)) (fun _ _ ix _ => l.length - (intOf ix).toNat)
    case atStart => exact ⟨0, [], rfl, by omega, ⟨BRow.nil _ _, HB1.out, fun k o hk _ _ => (HB1.out.block k (by exact (Array.getElem?_eq_some_iff.1 hk).1)).trans hk⟩, rfl⟩
    case round =>
      obtain ⟨j, b, rfl, hj, hg, hbe⟩ := hrel
      have hbl : b.length ≤ 10895360000 := by
        rw [hbe]
        have h1 := textsL_len (l.take j) (HF.out.take j)
        have h2 := szVs_take_le l j
        omega
      have HG := Lib.hid hg
      have HBE := Lib.hid hbe
      obtain ⟨A2, cap2, rfl, hcap2⟩ := hg.row.slice
      have hlw := hg.low (Nat.le_refl _)
      clear hg hbe
      by_cases hlt : j < l.length
      rotate_left
      · have hji : ¬ (j : Int) < l.length := by omega
        have HE : Hid (b = textsL l) := Lib.hid (by rw [HBE.out, List.take_of_length_le (by omega)])
        have hconv := brow_string HG.out.row
        go_wp2_with fail
        go_ret2
        exact ⟨HG.out.below, by rw [HR2.out, ← HE.out]; rfl⟩
      have hji : (j : Int) < l.length := by omega
      obtain ⟨ab, ao, hbB, hA, hx⟩ := H7.out (by rintro rfl; simp at hlt)
      subst hA
      obtain ⟨k1, n1, s1, A1, len1, cap1, r1, hat, hx1⟩ := hx.at2 j hlt
      have HAT := Lib.hid hat
      have HX1 := Lib.hid hx1
      have hszj : szV l[j] ≤ szVs l := by have := szVs_take l j hlt; omega
      have htke : l.take (j + 1) = l.take j ++ [l[j]] := by rw [List.take_add_one, List.getElem?_eq_getElem hlt]; rfl
      have HNX : Hid (textsL (l.take (j + 1)) = b ++ ((if j = 0 then [] else [32]) ++ textL l[j])) := Lib.hid (by
        rw [htke, textsL_snoc, HBE.out]
        by_cases hj0 : j = 0
        · subst hj0; rfl
        · have hne : l.take j ≠ [] := by
            intro e
            have := congrArg List.length e
            rw [List.length_take, List.length_nil] at this
            omega
          rw [if_neg hj0, if_neg hne])
      clear hat hx hx1 htke
      by_cases hj0 : j = 0
      · have hjn : ¬ (0 : Int) < j := by omega
        have HNX : Hid (textsL (l.take (j + 1)) = b ++ textL l[j]) := Lib.hid (by rw [HNX.out, if_pos hj0]; rfl)
        clear hj0
        have hat' := HAT.out.keep hbB (fun b hb => HG.out.below.block b (by omega))
        obtain ⟨e0, e1, e2, e3, e4⟩ := hat'.five
        have C54 := Lib.hid (text_any l[j] wr w.heap.size B _ _ b HG.out.row hlw (IsVa.keep (fun b hb' => HG.out.below.block b (by omega)) HX1.out) hB (HF.out.at _ (List.getElem_mem hlt)) (by omega) (HT.out.on HG.out.below))
        clear hat'
        go_wp2_with (first | (go_at_call 54; refine C54.out.mono ?_; rintro e w2 ⟨v2, rfl, hg2⟩; have HG2 := Lib.hid (HG.out.trans hg2); clear hg2))
        go_roundw
        case rel => exact ⟨j + 1, _, by go_num, by omega, HG2.out, HNX.out.symm⟩
        case measure => simp only [intOf]; omega
      · have hjn : (0 : Int) < j := by omega
        have HNX : Hid (textsL (l.take (j + 1)) = b ++ ([32] ++ textL l[j])) := Lib.hid (by rw [HNX.out, if_neg hj0])
        clear hj0
        go_upto_region 13 with (first
          | (refine wpList_append_byte _ rfl (.tmp 26) (.tmp 27) rfl rfl w.heap.size (.slice A2 b.length cap2) b rfl (own_below HG.out.row ((Below.refl _ _).alloc (Nat.le_refl _) (.cells #[byt 32] 5))) wr.heap.size 1 1 [32] rfl rfl (row_new wr [byt 32] 5) (by simp; omega) (by simp; omega) ?_
             intro v3 w3 hv3 hg3 ho3
             obtain ⟨b3, hb3⟩ : ∃ b3, b3 = b ++ [32] := ⟨_, rfl⟩
             rw [← hb3] at hv3
             have HB3E := Lib.hid hb3
             have hb3l : b3.length ≤ 10895360001 := by rw [hb3]; simp; omega
             clear hb3
             have HG3 := Lib.hid (Grt.step (HG.out.add hlw (.cells #[byt 32] 5)) (by simp; omega) hv3 hg3)
             obtain ⟨A3, cap3, rfl, hcap3⟩ := hv3.slice
             clear hv3 hg3 ho3))
        have hlw3 := HG3.out.low (Nat.le_refl _)
        have hat' := HAT.out.keep hbB (fun b hb => HG3.out.below.block b (by omega))
        obtain ⟨e0, e1, e2, e3, e4⟩ := hat'.five
        have C54 := Lib.hid (text_any l[j] w3 w.heap.size B _ _ b3 HG3.out.row hlw3 (IsVa.keep (fun b hb' => HG3.out.below.block b (by omega)) HX1.out) hB (HF.out.at _ (List.getElem_mem hlt)) (by omega) (HT.out.on HG3.out.below))
        clear hat'
        go_wp2_with (first | (go_at_call 54; refine C54.out.mono ?_; rintro e w2 ⟨v2, rfl, hg2⟩; have HG2 := Lib.hid (HG3.out.trans hg2); clear hg2))
        go_roundw
        case rel => exact ⟨j + 1, _, by go_num, by omega, HG2.out, by rw [HNX.out, HB3E.out]; simp⟩
        case measure => simp only [intOf]; omega
end Go.Proofs.YtkhpfghehjcfoaaDoor
