/- The document's text and Text. -/
import Derived.Test.YtjmelamllapmiaaGreatDoorXj
import Derived.Test.YtjmelamllapmiaaGreatDoorXf
import Derived.Test.YtjmelamllapmiaaGreatDoorZc
namespace Go.Proofs.YtjmelamllapmiaaGreatDoor
open Go.RowKit

theorem cat_size (a b : ByteArray) : (a ++ b).size = a.size + b.size := by rw [ByteArray.size_append]
theorem take_forms {k n : Int} {s : ByteArray} {l : List Va} {r : Int} {q m q' : Nat} (h : takeV (.mk k n s l r) q m = some q') : k = 0 ∨ k = 1 ∨ k = 2 ∨ k = 4 ∨ k = 3 := by
  cases q with
  | zero => rw [takeV] at h; cases h
  | succ q =>
    by_cases h0 : k = 0
    · exact .inl h0
    by_cases h1 : k = 1
    · exact .inr (.inl h1)
    by_cases h2 : k = 2
    · exact .inr (.inr (.inl h2))
    by_cases h4 : k = 4
    · exact .inr (.inr (.inr (.inl h4)))
    by_cases h3 : k = 3
    · exact .inr (.inr (.inr (.inr h3)))
    exfalso
    have b0 : (k == 0) = false := by simpa using h0
    have b1 : (k == 1) = false := by simpa using h1
    have b2 : (k == 2) = false := by simpa using h2
    have b3 : (k == 3) = false := by simpa using h3
    have b4 : (k == 4) = false := by simpa using h4
    unfold takeV at h
    simp only [b0, b1, b2, b3, b4, Bool.false_eq_true, if_false] at h
    cases h
theorem take_elem : ∀ (l : List Va) (q m q' : Nat), takeVs l q m = some q' → ∀ x ∈ l, ∃ q1 q2, q1 ≤ q ∧ takeV x q1 m = some q2
  | x :: l, q, m, q', h, y, hy => by
    rw [takeVs] at h
    cases hx : takeV x q m with
    | none => rw [hx] at h; cases h
    | some q2 =>
      rw [hx] at h
      rcases List.mem_cons.1 hy with rfl | hy
      · exact ⟨q, q2, Nat.le_refl _, hx⟩
      · obtain ⟨q1, q3, h1, h2⟩ := take_elem l q2 m q' h y hy
        have := takeV_lt hx
        exact ⟨q1, q3, by omega, h2⟩
def RTextC (x : Va) : Prop := ∀ (w : World) (B : Nat) (v : Value) (q m q' : Nat), IsVa w B v x → B ≤ w.heap.size → Fit x → takeV x q m = some q' → q ≤ 512 → TabI w →
  Calls Tryz.prog 109 #[v] w fun e w' => Below w.heap.size w w' ∧ e = .returned (.string (txtV (textL x)))
theorem cat_txt1 (T : ByteArray) (b c : L8) (h : T = txtV b) : T ++ txtV c = txtV (b ++ c) := by rw [h]; exact cat_txt b c
set_option maxRecDepth 100000 in
set_option maxHeartbeats 4000000 in
theorem rtext_any (x : Va) : RTextC x := by
  induction x using Va.ind with
  | h k n s l r IH =>
  intro w B v q m q' h hB hfit htk hq hT
  have hff := take_forms htk
  have hsz := takeV_sz _ _ _ _ htk
  obtain ⟨h1, h2, h3, h4, A, cap, h5, rfl, h7⟩ := h.form
  have HT := Lib.hid hT
  have HI := Lib.hid IH
  have H7 := Lib.hid h7
  have hln := h.len
  unfold Fit at hfit
  obtain ⟨⟨hn0, hn1⟩, ⟨hr0, hr1⟩, hfl⟩ := hfit
  have HFL := Lib.hid hfl
  have HB := Lib.hid (fun o => (Below.refl w.heap.size w).alloc (Nat.le_refl _) o)
  have C85 := Lib.hid (fun w' (hb : Below w.heap.size w w') => Tryz.strconv_FormatInt_10 n hn0 hn1 w' (HT.out.on hb))
  have C86 := Lib.hid (fun w' (hb : Below w.heap.size w w') => Tryz.strconv_Itoa r hr0 hr1 w' (HT.out.on hb))
  have hss : 4 * s.size + 40 ≤ szV (.mk k n s l r) := by simp [szV]
  have C19 := Lib.hid (fun w' => rQuote_any s (by omega) w')
  have HTK := Lib.hid htk
  clear h h7 IH hfl hT htk
  rcases hff with rfl | rfl | rfl | rfl | rfl
  · have HX : Hid (textL (.mk 0 n s l r) = [95]) := Lib.hid (by unfold textL; rfl)
    clear C85 C86 C19 HI H7 HFL hsz hss
    go_enter Tryz.func109, Tryz.ntmps109
    go_wp2_with fail
    go_ret
    exact ⟨HB.out _, by rw [HX.out]; rfl⟩
  · have HX : Hid (textL (.mk 1 n s l r) = Lib.itoa n) := Lib.hid (by unfold textL; rfl)
    clear HI H7 HFL hsz hss
    go_enter Tryz.func109, Tryz.ntmps109
    go_wp2_with (first | (go_at_call 166; refine (C85.out _ (HB.out _)).mono ?_; rintro e w1 ⟨rfl, p, os, rfl⟩))
    go_ret
    exact ⟨(HB.out _).trans (Lib.below_grow _ _ (by simp) _ _), by rw [HX.out]; rfl⟩
  · have HX : Hid (textL (.mk 2 n s l r) = quoteL s.data.toList) := Lib.hid (by unfold textL; rfl)
    clear HI H7 HFL hsz hss
    go_enter Tryz.func109, Tryz.ntmps109
    go_wp2_with (first | (go_at_call 167; refine (C19.out _).mono ?_; rintro e w1 ⟨hb1, rfl⟩))
    go_ret
    exact ⟨bnext (HB.out _) hb1, by rw [HX.out]; rfl⟩
  · have HX : Hid (textL (.mk 4 n s l r) = 35 :: Lib.itoa r) := Lib.hid (by unfold textL; rfl)
    have hil : ¬ 9223372036854775807 < 1 + (Lib.itoa r).length := by have := Lib.itoa_length_le r hr0 hr1; omega
    clear HI H7 HFL hsz hss
    go_enter Tryz.func109, Tryz.ntmps109
    go_wp2_with (first | (go_at_call 168; refine (C86.out _ (HB.out _)).mono ?_; rintro e w1 ⟨rfl, p, os, rfl⟩))
    go_ret
    refine ⟨(HB.out _).trans (Lib.below_grow _ _ (by simp) _ _), ?_⟩
    show Ending.returned (.string (_ ++ _)) = _
    rw [HX.out]
    exact congrArg (fun x => Ending.returned (.string x)) (cat_txt [35] (Lib.itoa r))
  · have HX : Hid (textL (.mk 3 n s l r) = 91 :: (textsL l ++ [93])) := Lib.hid (by unfold textL; rfl)
    have htl := textsL_len l HFL.out
    have hszl : szVs l ≤ 544768 := by
      have : szVs l ≤ szV (.mk 3 n s l r) := by simp [szV]
      omega
    have HEL : Hid (∀ x ∈ l, ∃ q1 q2, q1 ≤ 512 ∧ ∃ m1, takeV x q1 m1 = some q2) := Lib.hid (fun x hx => by
      have ht := HTK.out
      cases q with
      | zero => rw [takeV] at ht; cases ht
      | succ q =>
        cases m with
        | zero => rw [takeV] at ht; cases ht
        | succ m =>
          rw [takeV_3] at ht
          split at ht
          · cases ht
          · cases hts : takeVs l q m with
            | none => rw [hts] at ht; cases ht
            | some q2 =>
              obtain ⟨q1, q3, h1, h2⟩ := take_elem l q m q2 hts x hx
              exact ⟨q1, q3, by omega, m, h2⟩)
    clear C85 C86 C19 hsz hss HTK
    go_enter Tryz.func109, Tryz.ntmps109
    go_wp2_with fail
    go_loopw [3, 4] (fun sx ix wr => ∃ (j : Nat) (S : ByteArray), sx = .string S ∧ ix = .int .i64 j ∧ j ≤ l.length ∧ S = txtV (91 :: textsL (l.take j)) ∧ Below w.heap.size w wr ∧ BlkN wr w.heap.size 27 #[.int .u8 3, .int .i64 n, .string s, .slice A l.length cap, .int .i64 r]) (fun _ ix _ => l.length - (intOf ix).toNat)
    case atStart => exact ⟨0, _, rfl, rfl, by omega, rfl, HB.out _, BlkN.at_ rfl _ _⟩
    case round =>
      obtain ⟨j, S, rfl, rfl, hj, hS, hb, hz⟩ := hrel
      have hSl : S.size ≤ 544769 := by
        rw [hS]
        show (91 :: textsL (l.take j)).length ≤ _
        have h1 := textsL_len (l.take j) (HFL.out.take j)
        have h2 : szVs (l.take j) ≤ szVs l := by
          conv => rhs; rw [← List.take_append_drop j l]
          rw [szVs_append]; omega
        simp; omega
      have HSE := Lib.hid hS
      have HBJ := Lib.hid hb
      have HZ := Lib.hid hz
      have hzl := hz.lt
      have z3 := hz.cell 3 rfl
      clear hb hz hS
      by_cases hlt : j < l.length
      rotate_left
      · have hji : ¬ (j : Int) < l.length := by omega
        have HE : Hid (S ++ txtV [93] = txtV (textL (.mk 3 n s l r))) := Lib.hid (by
          have := cat_txt1 S _ [93] HSE.out
          rw [this, HX.out, List.take_of_length_le (by omega)]; rfl)
        have hil : ¬ 9223372036854775807 < S.size + 1 := by omega
        go_wp2_with fail
        go_ret
        refine ⟨HBJ.out, ?_⟩
        rw [← HE.out]
        rfl
      have hji : (j : Int) < l.length := by omega
      obtain ⟨b, o, hbB, hA, hx⟩ := H7.out (by rintro rfl; simp at hlt)
      subst hA
      obtain ⟨k1, n1, s1, A1, len1, cap1, r1, hat, hx1⟩ := hx.at2 j hlt
      have hat' := hat.keep hbB (fun b hb => HBJ.out.block b (by omega))
      obtain ⟨e0, e1, e2, e3, e4⟩ := hat'.five
      have hel := HEL.out l[j] (List.getElem_mem hlt)
      obtain ⟨q1, q2, hq1, m1, htk1⟩ := hel
      have C60 := Lib.hid (HI.out l[j] (List.getElem_mem hlt) wr B _ q1 m1 q2 (IsVa.keep (fun b hb' => HBJ.out.block b (by omega)) hx1) (Nat.le_trans hB HBJ.out.size) (HFL.out.at _ (List.getElem_mem hlt)) htk1 hq1 (HT.out.on HBJ.out))
      obtain ⟨Y, hY⟩ : ∃ Y, Y = txtV (textL l[j]) := ⟨_, rfl⟩
      rw [← hY] at C60
      have hYl : Y.size ≤ 544768 := by
        rw [hY]
        show (textL l[j]).length ≤ _
        have h1 := textL_len l[j] (HFL.out.at _ (List.getElem_mem hlt))
        have h2 := takeV_sz _ _ _ _ htk1
        omega
      have htke : l.take (j + 1) = l.take j ++ [l[j]] := by rw [List.take_add_one, List.getElem?_eq_getElem hlt]; rfl
      have HNX : Hid (txtV (91 :: textsL (l.take (j + 1))) = if j = 0 then S ++ Y else S ++ txtV [32] ++ Y) := Lib.hid (by
        rw [htke, textsL_snoc]
        by_cases hj0 : j = 0
        · subst hj0
          rw [if_pos rfl, hY, cat_txt1 S _ _ HSE.out]
          rfl
        · have hne : l.take j ≠ [] := by
            intro e
            have := congrArg List.length e
            rw [List.length_take, List.length_nil] at this
            omega
          rw [if_neg hj0, if_neg hne, hY, cat_txt1 (S ++ txtV [32]) _ _ (cat_txt1 S _ [32] HSE.out)]
          simp)
      clear hat hat' hx hx1 htk1 hY htke
      by_cases hj0 : j = 0
      · have hjn : ¬ (0 : Int) < j := by omega
        have HNX : Hid (txtV (91 :: textsL (l.take (j + 1))) = S ++ Y) := Lib.hid (by rw [HNX.out, if_pos hj0])
        have hil : ¬ 9223372036854775807 < S.size + Y.size := by omega
        clear hj0
        go_wp2_with (first | (go_at_call 109; refine C60.out.mono ?_; rintro e w1 ⟨hb1, rfl⟩))
        go_roundw
        case rel => exact ⟨j + 1, _, rfl, by go_num, by omega, HNX.out.symm, bnext HBJ.out hb1, HZ.out.below hb1⟩
        case measure => simp only [intOf]; omega
      · have hjn : (0 : Int) < j := by omega
        have HNX : Hid (txtV (91 :: textsL (l.take (j + 1))) = S ++ txtV [32] ++ Y) := Lib.hid (by rw [HNX.out, if_neg hj0])
        have hil : ¬ 9223372036854775807 < S.size + 1 := by omega
        have hil2 : ¬ 9223372036854775807 < S.size + 1 + Y.size := by omega
        clear hj0
        go_wp2_with (first | (go_at_call 109; refine C60.out.mono ?_; rintro e w1 ⟨hb1, rfl⟩))
        go_roundw
        case rel => exact ⟨j + 1, _, rfl, by go_num, by omega, HNX.out.symm, bnext HBJ.out hb1, HZ.out.below hb1⟩
        case measure => simp only [intOf]; omega
set_option maxRecDepth 100000 in
set_option maxHeartbeats 1000000 in
theorem rText_any {B : Nat} {v : Value} {x : Va} (w : World) (h : IsVa w B v x) (hB : B ≤ w.heap.size) (hfit : Fit x) (hT : TabI w) :
    Calls Tryz.prog 57 #[v] w fun e w' => Below w.heap.size w w' ∧ e = .returned (.tuple #[.string (txtV (textR x).1), .int .i64 (textR x).2]) := by
  have HH := Lib.hid h
  obtain ⟨k, n, s, A, len, cap, r, rfl⟩ := h.shape
  have HB0 : Hid (Below w.heap.size w (w.alloc (.cells #[.int .u8 k, .int .i64 n, .string s, .slice A len cap, .int .i64 r] 27))) := Lib.hid ((Below.refl _ _).alloc (Nat.le_refl _) _)
  have C55 := Lib.hid (fun w' (hb : Below w.heap.size w w') => rmay_val w' (HH.out.keep fun b hl => hb.block b (by omega)) (Nat.le_trans hB hb.size))
  have HF := Lib.hid hfit
  have HT := Lib.hid hT
  clear h hfit hT
  cases htk : takeV x 512 16 with
  | none =>
    have hm : mayV x = false := by unfold mayV; rw [htk]; rfl
    rw [hm] at C55
    have HR : Hid (textR x = ([], 2)) := Lib.hid (by unfold textR; rw [hm]; rfl)
    clear hm htk
    go_enter Tryz.func57, Tryz.ntmps57
    go_wp2_with (first | (go_at_call 108; refine (C55.out _ HB0.out).mono ?_; rintro e w1 ⟨rfl, hb1⟩))
    go_ret2
    exact ⟨bnext HB0.out hb1, by rw [HR.out]; rfl⟩
  | some q =>
    have hm : mayV x = true := by unfold mayV; rw [htk]; rfl
    rw [hm] at C55
    have HR : Hid (textR x = (textL x, 0)) := Lib.hid (by unfold textR; rw [hm]; rfl)
    have C60 := Lib.hid (fun w' (hb : Below w.heap.size w w') => rtext_any x w' B _ 512 16 q (HH.out.keep fun b hl => hb.block b (by omega)) (Nat.le_trans hB hb.size) HF.out htk (Nat.le_refl _) (HT.out.on hb))
    clear hm htk
    go_enter Tryz.func57, Tryz.ntmps57
    go_wp2_with (first
      | (go_at_call 108; refine (C55.out _ HB0.out).mono ?_; rintro e w1 ⟨rfl, hb1⟩; have HB1 := Lib.hid (bnext HB0.out hb1); have hc : BlkN w1 w.heap.size 27 #[.int .u8 k, .int .i64 n, .string s, .slice A len cap, .int .i64 r] := (BlkN.at_ rfl _ _).below hb1; have d0 := hc.cell 0 rfl; have d1 := hc.cell 1 rfl; have d2 := hc.cell 2 rfl; have d3 := hc.cell 3 rfl; have d4 := hc.cell 4 rfl; have hl := hc.lt; clear hc hb1)
      | (go_at_call 109; refine (C60.out _ HB1.out).mono ?_; rintro e w2 ⟨hb2, rfl⟩))
    go_ret2
    exact ⟨bnext HB1.out hb2, by rw [HR.out]; rfl⟩
end Go.Proofs.YtjmelamllapmiaaGreatDoor
