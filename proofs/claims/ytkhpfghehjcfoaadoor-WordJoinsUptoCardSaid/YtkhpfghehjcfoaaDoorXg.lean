/- The document's Join. -/
import Derived.Test.YtkhpfghehjcfoaaDoorXf
namespace Go.Proofs.YtkhpfghehjcfoaaDoor
open Go.RowKit

theorem Grt.stepStr {w w1 w2 : World} {lo : Nat} {v1 v2 : Value} {b1 b2 : L8} (h : Grt w lo w1 v1 b1) (hlo : lo ≤ w1.heap.size) (hr : BRow w2 lo v2 b2) (hg : w1.grownBy w2 v1.ownBlock) : Grt w lo w2 v2 b2 := Grt.step h hlo hr hg
set_option maxRecDepth 100000 in
set_option maxHeartbeats 8000000 in
theorem rjoin_any {B : Nat} {v : Value} {l : List Tk} (w : World) (h : IsTks w B v l) (hB : B ≤ w.heap.size) (hok : ∀ t ∈ l, TkOk t) (hT : TabI w) :
    Calls Tryd.prog 29 #[v] w fun e w' => Below w.heap.size w w' ∧ e = .returned (.tuple #[.string (txtV (joinR l).1), .int .i64 (joinR l).2]) := by
  obtain ⟨hl48, A, cap, hcap, rfl, h7⟩ := h
  have H7 := Lib.hid h7
  have HOK := Lib.hid hok
  have HT := Lib.hid hT
  clear h7 hok hT
  have hR : joinR l = if l.all tokMay then joinO (joinG true [] l) else ([], 2) := rfl
  obtain ⟨R, hRR⟩ : ∃ R, R = joinR l := ⟨_, rfl⟩
  rw [← hRR] at hR ⊢
  have HR := Lib.hid hR
  clear hR hRR
  go_enter Tryd.func29, Tryd.ntmps29
  go_wp2_with fail
  go_loopw [4] (fun ix wr => ∃ j : Nat, ix = .int .i64 j ∧ j ≤ l.length ∧ (l.take j).all tokMay = true ∧ Below w.heap.size w wr) (fun ix _ => l.length - (intOf ix).toNat)
  case atStart => exact ⟨0, rfl, by omega, rfl, Below.refl _ _⟩
  case round =>
    obtain ⟨j, rfl, hj, hall, hb⟩ := hrel
    have HALL := Lib.hid hall
    have HB := Lib.hid hb
    clear hall hb
    by_cases hlt : j < l.length
    · obtain ⟨ab, ao, hbB, hA, hx⟩ := H7.out (by rintro rfl; simp at hlt)
      subst hA
      obtain ⟨t, ht⟩ : ∃ t, t = l[j] := ⟨_, rfl⟩
      have hat := (hx j hlt).keep hbB (fun b hb => HB.out.block b (by omega))
      rw [← ht] at hat
      obtain ⟨e0, e1, e2, e3, e4⟩ := At.five (c0 := .int .u8 t.k) (c1 := .int .i64 t.at_) (c2 := .int .i64 t.n) (c3 := .string (txtV t.s)) (c4 := .int .i64 t.r) hat
      obtain ⟨mb, hmb⟩ : ∃ mb, mb = tokMay t := ⟨_, rfl⟩
      have C58 := Lib.hid (rtmay_any t (by rw [ht]; have := (HOK.out _ (List.getElem_mem hlt)).1; omega) wr)
      rw [← hmb] at C58
      have HMB := Lib.hid hmb
      have HTT := Lib.hid ht
      have hji : (j : Int) < l.length := by omega
      clear hat hx hmb ht
      cases mb
      · have HF : Hid (R = ([], 2)) := Lib.hid (by
          rw [HR.out, if_neg]
          intro hh
          have := List.all_eq_true.1 hh l[j] (List.getElem_mem hlt)
          rw [← HTT.out, ← HMB.out] at this
          cases this)
        go_wp2_with (first | (go_at_call 58; refine C58.out.mono ?_; rintro e w1 ⟨hb1, rfl⟩))
        go_ret2
        exact ⟨bnext HB.out hb1, by rw [HF.out]; rfl⟩
      · go_wp2_with (first | (go_at_call 58; refine C58.out.mono ?_; rintro e w1 ⟨hb1, rfl⟩))
        go_roundw
        case rel => exact ⟨j + 1, by go_num, by omega, by
          have he : l.take (j + 1) = l.take j ++ [l[j]] := by rw [List.take_add_one, List.getElem?_eq_getElem hlt]; rfl
          rw [he, List.all_append, HALL.out, ← HTT.out]; simp [← HMB.out], bnext HB.out hb1⟩
        case measure => simp only [intOf]; omega
    obtain rfl : j = l.length := by omega
    have HF : Hid (R = joinO (joinG true [] l)) := Lib.hid (by
      have := HALL.out
      rw [List.take_length] at this
      rw [HR.out, if_pos this])
    have HB1 := HB
    clear HALL
    obtain ⟨G, hG⟩ : ∃ G, G = joinG true [] l := ⟨_, rfl⟩
    rw [← hG] at HF
    have HG0 := Lib.hid hG
    clear hG
    go_wp2_with fail
    go_loopw [5, 6] (fun v ix wr => ∃ (j : Nat) (b : L8), ix = .int .i64 j ∧ j ≤ l.length ∧ BRow wr w.heap.size v b ∧ Below w.heap.size w wr ∧ b.length ≤ 1048576 ∧ joinG (decide (j = 0)) b (l.drop j) = G) (fun _ ix _ => l.length - (intOf ix).toNat)
    case atStart => exact ⟨0, [], rfl, by omega, BRow.nil _ _, HB1.out, by simp, by rw [HG0.out]; rfl⟩
    case round =>
      obtain ⟨j, b, rfl, hj, hg, hb, hbl, hjg⟩ := hrel
      have HG := Lib.hid hg
      have HBW := Lib.hid hb
      have HJG := Lib.hid hjg
      obtain ⟨A2, cap2, rfl, hcap2⟩ := hg.slice
      have hlw := hb.size
      clear hg hb hjg
      by_cases hlt : j < l.length
      rotate_left
      · have HF2 : Hid (R = (b, 0)) := Lib.hid (by
          have := HJG.out
          rw [List.drop_of_length_le (by omega)] at this
          rw [HF.out, ← this]; rfl)
        have hconv := brow_string HG.out
        go_wp2_with fail
        go_ret2
        exact ⟨HBW.out, by rw [HF2.out]; rfl⟩
      obtain ⟨ab, ao, hbB, hA, hx⟩ := H7.out (by rintro rfl; simp at hlt)
      subst hA
      obtain ⟨t, ht⟩ : ∃ t, t = l[j] := ⟨_, rfl⟩
      have hat0 := hx j hlt
      rw [← ht] at hat0
      have HAT := Lib.hid hat0
      have HTT := Lib.hid ht
      have HTO : Hid (TkOk t) := Lib.hid (by rw [ht]; exact HOK.out _ (List.getElem_mem hlt))
      have hfl := formL_len t HTO.out
      have hts := HTO.out.1
      have hji : (j : Int) < l.length := by omega
      have HST : Hid (∀ (b' : L8), b' = b ++ ((if decide (j = 0) then [] else [32]) ++ formL t) → (if 1048576 < b'.length then Option.none else joinG (decide (j + 1 = 0)) b' (l.drop (j + 1))) = G) := Lib.hid (by
        rintro b' rfl
        have := HJG.out
        rw [List.drop_eq_getElem_cons hlt, ← HTT.out, joinG] at this
        exact this)
      clear hx hat0 ht
      obtain ⟨T, hTe⟩ : ∃ T, T = b ++ (if decide (j = 0) then [] else [32]) := ⟨_, rfl⟩
      have hTl : T.length ≤ 1048577 := by rw [hTe]; split <;> simp <;> omega
      have HTE := Lib.hid hTe
      by_cases hj0 : j = 0
      · have hjn : ¬ (0 : Int) < j := by omega
        have hbb : T = b := by rw [hTe, hj0]; simp
        clear hTe hj0
        go_upto_region 12 with fail
        obtain ⟨W4, hW4⟩ : ∃ W4, W4 = wr := ⟨_, rfl⟩
        have HG4 : Hid (BRow W4 w.heap.size (.slice A2 T.length cap2) T) := Lib.hid (by rw [hW4]; have := HG.out; rw [← hbb] at this; exact this)
        have HB4 : Hid (Below w.heap.size w W4) := Lib.hid (by rw [hW4]; exact HBW.out)
        rw [← hW4]
        rw [show b.length = T.length by rw [hbb]]
        clear hbb
        clear hW4
        have hlw4 := HB4.out.size
        obtain ⟨e0, e1, e2, e3, e4⟩ := At.five (c0 := .int .u8 t.k) (c1 := .int .i64 t.at_) (c2 := .int .i64 t.n) (c3 := .string (txtV t.s)) (c4 := .int .i64 t.r) (HAT.out.keep hbB (fun b hb => HB4.out.block b (by omega)))
        have C59 := Lib.hid (rform_any t HTO.out W4 (HT.out.on HB4.out))
        go_upto_region 13 with (first
          | (go_at_call 59; refine C59.out.mono ?_; rintro e w5 ⟨hb5, rfl⟩; have HB5 := Lib.hid (bnext HB4.out hb5); have HG5 := Lib.hid (own_below HG4.out hb5); have hlw5 := HB5.out.size; clear hb5)
          | (refine wpList_append_str _ rfl (.tmp 30) (.tmp 35) rfl w.heap.size (.slice A2 T.length cap2) T rfl HG5.out (formL t) rfl (by omega) (by omega) ?_
             intro v6 w6 hv6 hg6
             obtain ⟨b6, hb6⟩ : ∃ b6, b6 = T ++ formL t := ⟨_, rfl⟩
             rw [← hb6] at hv6
             have HB6E := Lib.hid hb6
             clear hb6
             obtain ⟨A6, cap6, rfl, hcap6⟩ := hv6.slice
             have HG6 := Lib.hid hv6
             have HB6 : Hid (Below w.heap.size w w6) := Lib.hid (HB5.out.grown hg6 (by omega) (fun g hg => (HG4.out.lt g hg).1))
             clear hv6 hg6))
        have HN := Lib.hid (HST.out b6 (by rw [HB6E.out, HTE.out, List.append_assoc]))
        clear e0 e1 e2 e3 e4 C59
        by_cases hlong : 1048576 < b6.length
        · have hl2 : (1048576 : Int) < (b6.length : Nat) := by omega
          have HRN : Hid (R = ([], 4)) := Lib.hid (by
            have := HN.out
            rw [if_pos hlong] at this
            rw [HF.out, ← this]; rfl)
          go_wp2_with fail
          go_ret2
          exact ⟨HB6.out, by rw [HRN.out]; rfl⟩
        · have hl2 : ¬ (1048576 : Int) < (b6.length : Nat) := by omega
          have HRN : Hid (joinG (decide (j + 1 = 0)) b6 (l.drop (j + 1)) = G) := Lib.hid (by
            have := HN.out
            rw [if_neg hlong] at this
            exact this)
          go_wp2_with fail
          go_roundw
          case rel => exact ⟨j + 1, b6, by go_num, by omega, HG6.out, HB6.out, by omega, HRN.out⟩
          case measure => simp only [intOf]; omega
      · have hjn : (0 : Int) < j := by omega
        have HBB : Hid (T = b ++ [32]) := Lib.hid (by rw [hTe]; simp [hj0])
        clear hTe hj0
        go_upto_region 12 with (first
          | (refine wpList_append_byte _ rfl (.tmp 27) (.tmp 28) rfl rfl w.heap.size (.slice A2 b.length cap2) b rfl (own_below HG.out ((Below.refl _ _).alloc (Nat.le_refl _) (.cells #[byt 32] 5))) wr.heap.size 1 1 [32] rfl rfl (row_new wr [byt 32] 5) (by simp; omega) (by simp; omega) ?_
             intro v3 w3 hv3 hg3 ho3
             rw [← HBB.out] at hv3
             obtain ⟨A3, cap3, rfl, hcap3⟩ := hv3.slice
             have HG3 := Lib.hid hv3
             have HBW3 : Hid (Below w.heap.size w w3) := Lib.hid ((HBW.out.alloc hlw _).grown hg3 (by simp; omega) (fun g hg => (HG.out.lt g hg).1))
             clear hv3 hg3 ho3))
        obtain ⟨W4, hW4⟩ : ∃ W4, W4 = w3 := ⟨_, rfl⟩
        have HG4 : Hid (BRow W4 w.heap.size (.slice A3 T.length cap3) T) := Lib.hid (by rw [hW4]; exact HG3.out)
        have HB4 : Hid (Below w.heap.size w W4) := Lib.hid (by rw [hW4]; exact HBW3.out)
        rw [← hW4]
        clear hW4
        have hlw4 := HB4.out.size
        obtain ⟨e0, e1, e2, e3, e4⟩ := At.five (c0 := .int .u8 t.k) (c1 := .int .i64 t.at_) (c2 := .int .i64 t.n) (c3 := .string (txtV t.s)) (c4 := .int .i64 t.r) (HAT.out.keep hbB (fun b hb => HB4.out.block b (by omega)))
        have C59 := Lib.hid (rform_any t HTO.out W4 (HT.out.on HB4.out))
        go_upto_region 13 with (first
          | (go_at_call 59; refine C59.out.mono ?_; rintro e w5 ⟨hb5, rfl⟩; have HB5 := Lib.hid (bnext HB4.out hb5); have HG5 := Lib.hid (own_below HG4.out hb5); have hlw5 := HB5.out.size; clear hb5)
          | (refine wpList_append_str _ rfl (.tmp 30) (.tmp 35) rfl w.heap.size (.slice A3 T.length cap3) T rfl HG5.out (formL t) rfl (by omega) (by omega) ?_
             intro v6 w6 hv6 hg6
             obtain ⟨b6, hb6⟩ : ∃ b6, b6 = T ++ formL t := ⟨_, rfl⟩
             rw [← hb6] at hv6
             have HB6E := Lib.hid hb6
             clear hb6
             obtain ⟨A6, cap6, rfl, hcap6⟩ := hv6.slice
             have HG6 := Lib.hid hv6
             have HB6 : Hid (Below w.heap.size w w6) := Lib.hid (HB5.out.grown hg6 (by omega) (fun g hg => (HG4.out.lt g hg).1))
             clear hv6 hg6))
        have HN := Lib.hid (HST.out b6 (by rw [HB6E.out, HTE.out, List.append_assoc]))
        clear e0 e1 e2 e3 e4 C59
        by_cases hlong : 1048576 < b6.length
        · have hl2 : (1048576 : Int) < (b6.length : Nat) := by omega
          have HRN : Hid (R = ([], 4)) := Lib.hid (by
            have := HN.out
            rw [if_pos hlong] at this
            rw [HF.out, ← this]; rfl)
          go_wp2_with fail
          go_ret2
          exact ⟨HB6.out, by rw [HRN.out]; rfl⟩
        · have hl2 : ¬ (1048576 : Int) < (b6.length : Nat) := by omega
          have HRN : Hid (joinG (decide (j + 1 = 0)) b6 (l.drop (j + 1)) = G) := Lib.hid (by
            have := HN.out
            rw [if_neg hlong] at this
            exact this)
          go_wp2_with fail
          go_roundw
          case rel => exact ⟨j + 1, b6, by go_num, by omega, HG6.out, HB6.out, by omega, HRN.out⟩
          case measure => simp only [intOf]; omega
end Go.Proofs.YtkhpfghehjcfoaaDoor
