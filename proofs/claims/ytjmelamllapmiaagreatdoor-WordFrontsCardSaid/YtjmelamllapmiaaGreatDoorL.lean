/- package word: text: a value's text onto a row of bytes. -/
import Derived.Test.YtjmelamllapmiaaGreatDoorK
import Derived.Test.YtjmelamllapmiaaGreatDoorShelf
import Derived.Lib.ItoaLen
namespace Go.Proofs.YtjmelamllapmiaaGreatDoor
open Go.RowKit

/-- A row of bytes of the call's own that a call has lengthened; of what lies above its base all that is no row of bytes is as it was. -/
structure Grt (w : World) (lo : Nat) (w' : World) (v' : Value) (b' : L8) : Prop where
  row : BRow w' lo v' b'
  below : Below lo w w'
  others : Lib.OthersKept 5 Option.none w w'
theorem Grw.toT {w w' : World} {lo : Nat} {v v' : Value} {b b' : L8} (h : Grw w lo v w' v' b') (hb : BRow w lo v b) (hlo : lo ≤ w.heap.size) : Grt w lo w' v' b' :=
  ⟨h.row, (Below.refl lo w).grown h.grow hlo (fun k hk => (World.ownsRow.lt hb k hk).1), (Lib.OthersKept.refl _ _ w).grown h.grow (Lib.ownsRow_kind hb)⟩
theorem Grt.refl {w : World} {lo : Nat} {v : Value} {b : L8} (h : BRow w lo v b) : Grt w lo w v b := ⟨h, Below.refl _ _, Lib.OthersKept.refl _ _ _⟩
theorem Grt.trans {w w1 w2 : World} {lo : Nat} {v1 v2 : Value} {b1 b2 : L8} (h : Grt w lo w1 v1 b1) (k : Grt w1 lo w2 v2 b2) : Grt w lo w2 v2 b2 := ⟨k.row, h.below.trans k.below, h.others.trans k.others⟩
theorem Grt.add {w w1 : World} {lo : Nat} {v1 : Value} {b1 : L8} (h : Grt w lo w1 v1 b1) (hlo : lo ≤ w1.heap.size) (o : Obj) : Grt w lo (w1.alloc o) v1 b1 :=
  ⟨own_below h.row ((Below.refl _ _).alloc (Nat.le_refl _) o), h.below.alloc hlo o, h.others.alloc o⟩
theorem Grt.drew {w w1 : World} {lo : Nat} {v1 : Value} {b1 : L8} (h : Grt w lo w1 v1 b1) : Grt w lo w1.drew v1 b1 := ⟨own_below h.row (Below.refl _ _).drew, h.below.drew, h.others.drew⟩
theorem Grt.step {w w1 w2 : World} {lo : Nat} {v1 v2 : Value} {b1 b2 : L8} (h : Grt w lo w1 v1 b1) (hlo : lo ≤ w1.heap.size) (hr : BRow w2 lo v2 b2) (hg : w1.grownBy w2 v1.ownBlock) : Grt w lo w2 v2 b2 :=
  ⟨hr, h.below.grown hg hlo (fun k hk => (World.ownsRow.lt h.row k hk).1), h.others.grown hg (Lib.ownsRow_kind h.row)⟩
theorem Grt.low {w w1 : World} {lo : Nat} {v1 : Value} {b1 : L8} (h : Grt w lo w1 v1 b1) (hlo : lo ≤ w.heap.size) : lo ≤ w1.heap.size := Nat.le_trans hlo h.below.size
/-- A block of other cells than bytes is kept. -/
theorem BlkN.others {w w' : World} {b : Nat} {T : TypeId} {cs : Array Value} (h : BlkN w b T cs) (hT : T ≠ 5) (ho : Lib.OthersKept 5 Option.none w w') : BlkN w' b T cs :=
  ho b _ h (by simp) (fun c fz e => hT (by injection e))
mutual
/-- A value's text. -/
def textL : Va → L8
  | .mk k n s l r => if k = 1 then Lib.itoa n else if k = 2 then quoteL s.data.toList else if k = 4 then 35 :: Lib.itoa r else if k = 3 then 91 :: (textsL l ++ [93]) else [95]
/-- Values' texts, a blank between each two. -/
def textsL : List Va → L8
  | [] => []
  | x :: l => textL x ++ textsT l
def textsT : List Va → L8
  | [] => []
  | x :: l => 32 :: (textL x ++ textsT l)
end
theorem textsT_snoc : ∀ (l : List Va) (x : Va), textsT (l ++ [x]) = textsT l ++ (32 :: textL x)
  | [], x => by simp [textsT]
  | y :: l, x => by simp [textsT, textsT_snoc l x]
theorem textsL_snoc (l : List Va) (x : Va) : textsL (l ++ [x]) = textsL l ++ ((if l = [] then [] else [32]) ++ textL x) := by
  cases l with
  | nil => simp [textsL, textsT]
  | cons y l => simp [textsL, textsT_snoc]
mutual
/-- A bound on a text's length. -/
def szV : Va → Nat
  | .mk _ _ s l _ => 4 * s.size + 40 + szVs l
def szVs : List Va → Nat
  | [] => 0
  | x :: l => szV x + szVs l
end
mutual
/-- The numbers fit. -/
def Fit : Va → Prop
  | .mk _ n _ l r => (-9223372036854775808 ≤ n ∧ n ≤ 9223372036854775807) ∧ (-9223372036854775808 ≤ r ∧ r ≤ 9223372036854775807) ∧ Fits l
def Fits : List Va → Prop
  | [] => True
  | x :: l => Fit x ∧ Fits l
end
theorem Fits.at : ∀ {l : List Va}, Fits l → ∀ x ∈ l, Fit x
  | y :: l, h, x, hx => by
    unfold Fits at h
    rcases List.mem_cons.1 hx with rfl | hx
    · exact h.1
    · exact Fits.at h.2 x hx
theorem Fits.take : ∀ {l : List Va}, Fits l → ∀ i, Fits (l.take i)
  | [], _, i => by simp [Fits]
  | x :: l, h, 0 => by simp [Fits]
  | x :: l, h, i + 1 => by unfold Fits at h; rw [List.take_succ_cons]; unfold Fits; exact ⟨h.1, Fits.take h.2 i⟩
theorem szVs_append : ∀ (a b : List Va), szVs (a ++ b) = szVs a + szVs b
  | [], b => by simp [szVs]
  | x :: a, b => by simp [szVs, szVs_append a b]; omega
theorem szV_ge (x : Va) : 40 ≤ szV x := by cases x; simp [szV]; omega
theorem szVs_take (l : List Va) (i : Nat) (hi : i < l.length) : szVs (l.take i) + szV l[i] ≤ szVs l := by
  have e : l = l.take i ++ (l[i] :: l.drop (i + 1)) := by rw [← List.drop_eq_getElem_cons hi, List.take_append_drop]
  have h := congrArg szVs e
  rw [szVs_append] at h
  simp only [szVs] at h
  omega
theorem quoteL_len (b : L8) : (quoteL b).length ≤ 4 * b.length + 2 := by have := qbs_len b; simp [quoteL]; omega
mutual
theorem textL_len : ∀ (x : Va), Fit x → (textL x).length + 2 ≤ szV x
  | .mk k n s l r, h => by
    unfold Fit at h
    obtain ⟨⟨h1, h2⟩, ⟨h3, h4⟩, h5⟩ := h
    unfold textL szV
    split
    · have := Lib.itoa_length_le n h1 h2; omega
    · split
      · have := quoteL_len s.data.toList
        have e : s.data.toList.length = s.size := by simp
        rw [e] at this
        omega
      · split
        · have := Lib.itoa_length_le r h3 h4; simp; omega
        · split
          · have := textsL_len l h5; simp; omega
          · simp; omega
theorem textsL_len : ∀ (l : List Va), Fits l → (textsL l).length ≤ szVs l
  | [], _ => by simp [textsL]
  | x :: l, h => by
    unfold Fits at h
    have a := textL_len x h.1
    have b := textsT_len l h.2
    simp [textsL, szVs]; omega
theorem textsT_len : ∀ (l : List Va), Fits l → (textsT l).length ≤ szVs l
  | [], _ => by simp [textsT]
  | x :: l, h => by
    unfold Fits at h
    have a := textL_len x h.1
    have b := textsT_len l h.2
    simp [textsT, szVs]; omega
end
abbrev Tab (lo : Nat) (w : World) : Prop := Lib.TabBelow Tryz.prog lo w "internal/strconv.uint64pow10" .u64 Lib.pow10Tab
theorem appendInt_any {lo : Nat} {v : Value} {b : L8} {w : World} (i : Int) (h0 : -9223372036854775808 ≤ i) (h1 : i ≤ 9223372036854775807) (hb : BRow w lo v b) (hlo : lo ≤ w.heap.size) (hl : b.length + 21 ≤ 140737488355328) (ht : Tab lo w) :
    Calls Tryz.prog 84 #[v, .int .i64 i, .int .i64 10] w fun e w' => ∃ v', e = .returned v' ∧ Grt w lo w' v' (b ++ Lib.itoa i) :=
  (Tryz.strconv_AppendInt_10 lo b.length i h0 h1 v (b.map byt) w hb hlo hl ht).mono fun e w' ⟨v', he, hr, hbl, ho⟩ => ⟨v', he, by unfold BRow; rw [List.length_append, List.map_append]; exact hr, hbl, ho⟩
theorem quote_t {lo : Nat} {v : Value} {b : L8} {w : World} (s : ByteArray) (hb : BRow w lo v b) (hlo : lo ≤ w.heap.size) (hl : b.length + 4 * s.size + 2 ≤ 140737488355328) :
    Calls Tryz.prog 85 #[v, .string s] w fun e w' => ∃ v', e = .returned v' ∧ Grt w lo w' v' (b ++ quoteL s.data.toList) :=
  (quote_any s lo v b w hb hlo hl).mono fun _e _w' ⟨v', he, hg⟩ => ⟨v', he, hg.toT hb hlo⟩
/-- text's contract at a value. -/
def TextC (x : Va) : Prop := ∀ (w : World) (lo B : Nat) (v xv : Value) (b : L8), BRow w lo v b → lo ≤ w.heap.size → IsVa w B xv x → B ≤ lo → Fit x → b.length + szV x ≤ 140737488355328 → Tab lo w →
  Calls Tryz.prog 103 #[v, xv] w fun e w' => ∃ v', e = .returned v' ∧ Grt w lo w' v' (b ++ textL x)
set_option maxRecDepth 100000 in
set_option maxHeartbeats 4000000 in
theorem text_step (k n : Int) (s : ByteArray) (l : List Va) (r : Int) (IH : ∀ x ∈ l, TextC x) : TextC (.mk k n s l r) := by
  intro w lo B v xv b hb hlo hx hB hfit hlen htab
  obtain ⟨hk0, hk256, hs, hl, A, cap, hcap, rfl, h7⟩ := hx.form
  obtain ⟨Av, capv, rfl, hcapv⟩ := hb.slice
  have hfit' := hfit
  unfold Fit at hfit'
  obtain ⟨⟨hn1, hn2⟩, ⟨hr1, hr2⟩, hfl⟩ := hfit'
  have hsz : szV (.mk k n s l r) = 4 * s.size + 40 + szVs l := by unfold szV; rfl
  rw [hsz] at hlen
  obtain ⟨W, hW⟩ : ∃ W, W = w.alloc (.cells #[.int .u8 k, .int .i64 n, .string s, .slice A l.length cap, .int .i64 r] 27) := ⟨_, rfl⟩
  have HG : Hid (Grt w lo W (.slice Av b.length capv) b) := Lib.hid (by rw [hW]; exact (Grt.refl hb).add hlo _)
  have HP : Hid (BlkN W w.heap.size 27 #[.int .u8 k, .int .i64 n, .string s, .slice A l.length cap, .int .i64 r]) := Lib.hid (by rw [hW]; exact BlkN.at_ rfl _ _)
  have HT := Lib.hid htab
  have HX := Lib.hid hx
  have HFL := Lib.hid hfl
  have hlow := HG.out.low hlo
  have hpW := HP.out.lt
  clear hsz hb hx hfit htab hfl
  go_enter Tryz.func103, Tryz.ntmps103
  go_upto_region 1 with fail
  rw [← hW]
  have d0 := HP.out.cell 0 rfl
  have d1 := HP.out.cell 1 rfl
  have d2 := HP.out.cell 2 rfl
  have d3 := HP.out.cell 3 rfl
  have d4 := HP.out.cell 4 rfl
  by_cases k1 : k = 1
  · have C := Lib.hid (appendInt_any n hn1 hn2 HG.out.row hlow (by omega) (HT.out.on HG.out.below))
    subst k1
    clear hW
    go_wp2_with (first | (go_at_call 84; refine C.out.mono ?_; rintro e w2 ⟨v2, rfl, hg2⟩))
    go_ret
    exact ⟨_, rfl, by simpa [textL] using HG.out.trans hg2⟩
  have n1 : (k == 1) = false := by simpa using k1
  by_cases k2 : k = 2
  · have C := Lib.hid (quote_t s HG.out.row hlow (by omega))
    subst k2
    clear hW
    go_wp2_with (first | (go_at_call 85; refine C.out.mono ?_; rintro e w2 ⟨v2, rfl, hg2⟩))
    go_ret
    exact ⟨_, rfl, by simpa [textL] using HG.out.trans hg2⟩
  have n2 : (k == 2) = false := by simpa using k2
  by_cases k4 : k = 4
  · subst k4
    clear hW
    go_upto_region 7 with fail
    refine RegT.region_seq (fun i => Nat.ble i 4) (fun V => V.cell? ⟨w.heap.size, 4, Option.none⟩ = some (.int .i64 r)) [0, 3, 4] [1, 2, 5, 6] (by kernel_rfl) (by kernel_rfl) (by decide +kernel) (by decide) d4 ?_
    refine RegT.quiet_step rfl (fun _ _ _ h => h) (by kernel_rfl) (v := .slice Av b.length capv) (fun w' hS => ?_) ?_
    · go_simp
    refine RegT.quiet_step rfl (fun _ _ _ h => h) (by kernel_rfl) (v := .pointer (some ⟨w.heap.size, 4, Option.none⟩)) (fun w' hS => ?_) ?_
    · go_simp
    refine RegT.quiet_step rfl (fun _ _ _ h => h) (by kernel_rfl) (v := .int .i64 r) (fun w' hS => ?_) ?_
    · go_simp
    refine RegT.seqT_held rfl ?_
    go_wp2_with fail
    refine ⟨by go_simp, RegT.seqT_held rfl ?_⟩
    have hgd := HG.out.add hlow (.cells #[byt 35] 5)
    have HGD := Lib.hid hgd.drew
    clear hgd
    go_wp2_with (first
      | (refine wpList_append_byte _ rfl (.tmp 22) (.tmp 23) rfl rfl lo (.slice Av b.length capv) b rfl HGD.out.row W.heap.size 1 1 [35] rfl rfl (fun j u hu => row_new W [byt 35] 5 j u hu) (by simp; omega) (by simp; omega) ?_
         intro v2 w2 hv2 hg2 ho2
         have HG2 := Lib.hid (HGD.out.step (by simp; omega) hv2 hg2)
         have hd4 : w2.cell? ⟨w.heap.size, 4, Option.none⟩ = some (.int .i64 r) := by
           have hp2 := (BlkN.alloc HP.out (.cells #[byt 35] 5)).others (by decide) ((Lib.OthersKept.refl 5 Option.none (W.alloc (.cells #[byt 35] 5)).drew).grown hg2 (Lib.ownsRow_kind HGD.out.row))
           exact hp2.cell 4 rfl
         clear hv2 hg2 ho2))
    refine ⟨hd4, RegT.seqT_tail [5, 6] [_, _] rfl rfl _ _ ?_⟩
    have C := Lib.hid (appendInt_any r hr1 hr2 HG2.out.row (HG2.out.low hlo) (by simp; omega) (HT.out.on HG2.out.below))
    clear hd4
    go_wp2_with (first | (go_at_call 84; refine C.out.mono ?_; rintro e w3 ⟨v3, rfl, hg3⟩))
    simp only [RegT.NP]
    go_wp2_with fail
    go_ret
    exact ⟨_, rfl, by simpa [textL] using HG2.out.trans hg3⟩
  have n4 : (k == 4) = false := by simpa using k4
  by_cases k3 : k = 3
  rotate_left
  · have n3 : (k == 3) = false := by simpa using k3
    clear hW
    go_wp2_with (first
      | (refine wpList_append_byte _ rfl (.tmp 55) (.tmp 56) rfl rfl lo (.slice Av b.length capv) b rfl (HG.out.add hlow (.cells #[byt 95] 5)).row W.heap.size 1 1 [95] rfl rfl (row_new W [byt 95] 5) (by simp; omega) (by simp; omega) ?_
         intro v2 w2 hv2 hg2 ho2
         have HG2 := Lib.hid ((HG.out.add hlow (.cells #[byt 95] 5)).step (by simp; omega) hv2 hg2)
         clear hv2 hg2 ho2))
    go_ret
    exact ⟨_, rfl, by simpa [textL, k1, k2, k3, k4] using HG2.out⟩
  subst k3
  clear hW
  have HI := Lib.hid IH
  have H7 := Lib.hid h7
  clear IH h7
  go_wp2_with (first
      | (refine wpList_append_byte _ rfl (.tmp 30) (.tmp 31) rfl rfl lo (.slice Av b.length capv) b rfl (HG.out.add hlow (.cells #[byt 91] 5)).row W.heap.size 1 1 [91] rfl rfl (row_new W [byt 91] 5) (by simp; omega) (by simp; omega) ?_
         intro v2 w2 hv2 hg2 ho2
         have HG2 := Lib.hid ((HG.out.add hlow (.cells #[byt 91] 5)).step (by simp; omega) hv2 hg2)
         have HP2 := Lib.hid ((BlkN.alloc HP.out (.cells #[byt 91] 5)).others (by decide) ((Lib.OthersKept.refl 5 Option.none _).grown hg2 (Lib.ownsRow_kind (HG.out.add hlow (.cells #[byt 91] 5)).row)))
         have q3 := HP2.out.cell 3 rfl
         clear hv2 hg2 ho2))
  have hlo2 := HG2.out.low hlo
  clear d0 d1 d2 d3 d4
  go_loopw [0, 5, 36] (fun v i ix wr => ∃ j : Nat, ix = .int .i64 j ∧ j ≤ l.length ∧ Grt w lo wr v (b ++ (91 :: textsL (l.take j))) ∧ BlkN wr w.heap.size 27 #[.int .u8 3, .int .i64 n, .string s, .slice A l.length cap, .int .i64 r]) (fun _ _ ix _ => l.length - (intOf ix).toNat)
  case atStart => exact ⟨0, rfl, by omega, by simpa [textsL] using HG2.out, HP2.out⟩
  case round =>
    obtain ⟨j, rfl, hj, hg, hp⟩ := hrel
    obtain ⟨A2, cap2, rfl, hcap2⟩ := hg.row.slice
    have htl := textsL_len (l.take j) (Fits.take HFL.out j)
    have hBl : (b ++ (91 :: textsL (l.take j))).length ≤ b.length + 1 + szVs (l.take j) := by simp; omega
    obtain ⟨T, hT⟩ : ∃ T, T = b ++ (91 :: textsL (l.take j)) := ⟨_, rfl⟩
    rw [← hT] at hg hBl hcap2 ⊢
    have HTE := Lib.hid hT
    have HG3 := Lib.hid hg
    have HP3 := Lib.hid hp
    have hlw := hg.low hlo
    have hp3 := hp.lt
    have q3 := hp.cell 3 rfl
    clear hT hg hp
    by_cases hlt : j < l.length
    rotate_left
    · have hsl : szVs (l.take j) = szVs l := by rw [List.take_of_length_le (by omega)]
      go_wp2_with (first
        | (refine wpList_append_byte _ rfl (.tmp 52) (.tmp 53) rfl rfl lo (.slice A2 T.length cap2) T rfl (HG3.out.add hlw (.cells #[byt 93] 5)).row wr.heap.size 1 1 [93] rfl rfl (row_new wr [byt 93] 5) (by simp; omega) (by simp; omega) ?_
           intro v4 w4 hv4 hg4 ho4
           have HG4 := Lib.hid ((HG3.out.add hlw (.cells #[byt 93] 5)).step (by simp; omega) hv4 hg4)
           clear hv4 hg4 ho4))
      go_ret
      refine ⟨_, rfl, ?_⟩
      have e : b ++ textL (.mk 3 n s l r) = T ++ [93] := by rw [HTE.out, List.take_of_length_le (by omega)]; simp [textL]
      rw [e]; exact HG4.out
    obtain ⟨ab, ao, hbB, hA, hx⟩ := H7.out (by rintro rfl; simp at hlt)
    subst hA
    have hwk := HG3.out.below
    obtain ⟨k', n', s', A', len', cap', r', hat, hx1⟩ := hx.at2 j hlt
    have hat' := hat.keep hbB (fun b hb => hwk.block b (by omega))
    obtain ⟨e0, e1, e2, e3, e4⟩ := hat'.five
    have HX1 := Lib.hid (IsVa.keep (fun b hb => hwk.block b (by omega)) hx1)
    have hst := szVs_take l j hlt
    have HAT := Lib.hid hat
    have HXW := Lib.hid hx1
    clear hat hat' hx hx1 hwk
    have Hstep : ∀ (w' : World) (v' : Value), Grt w lo w' v' (T ++ ((if l.take j = [] then [] else [32]) ++ textL l[j])) → Grt w lo w' v' (b ++ (91 :: textsL (l.take (j + 1)))) := fun w' v' h => by
      have e : l.take (j + 1) = l.take j ++ [l[j]] := by rw [List.take_add_one, List.getElem?_eq_getElem hlt]; rfl
      rw [e, textsL_snoc]
      rw [HTE.out] at h
      simpa using h
    have HSTEP := Lib.hid Hstep
    clear Hstep
    by_cases hj0 : j = 0
    · have C := Lib.hid (HI.out _ (List.getElem_mem hlt) wr lo B _ _ T HG3.out.row hlw HX1.out hB (Fits.at HFL.out _ (List.getElem_mem hlt)) (by omega) (HT.out.on HG3.out.below))
      have hjn : ¬ (0 : Int) < j := by omega
      have HJ0 := Lib.hid hj0
      clear hj0
      go_wp2_with (first | (go_at_call 103; refine C.out.mono ?_; rintro e w5 ⟨v5, rfl, hg5⟩; have HG5 := Lib.hid (HG3.out.trans hg5); have HP5 := Lib.hid (HP3.out.others (by decide) hg5.others); clear hg5))
      go_roundw
      case rel => exact ⟨j + 1, by go_num, by omega, HSTEP.out _ _ (by rw [if_pos (by rw [HJ0.out]; rfl)]; simpa using HG5.out), HP5.out⟩
      case measure => simp [intOf]; omega
    · have hjp : (0 : Int) < j := by omega
      clear e0 e1 e2 e3 e4
      go_wp2_with (first
        | (refine wpList_append_byte _ rfl (.tmp 41) (.tmp 42) rfl rfl lo (.slice A2 T.length cap2) T rfl (HG3.out.add hlw (.cells #[byt 32] 5)).row wr.heap.size 1 1 [32] rfl rfl (row_new wr [byt 32] 5) (by simp; omega) (by simp; omega) ?_
           intro v4 w4 hv4 hg4 ho4
           have hgg := (HG3.out.add hlw (.cells #[byt 32] 5)).step (by simp; omega) hv4 hg4
           have hpp := (BlkN.alloc HP3.out (.cells #[byt 32] 5)).others (by decide) ((Lib.OthersKept.refl 5 Option.none _).grown hg4 (Lib.ownsRow_kind (HG3.out.add hlw (.cells #[byt 32] 5)).row))
           have p3 := hpp.cell 3 rfl
           have hlp := hpp.lt
           have HG4 := Lib.hid hgg
           have HP4 := Lib.hid hpp
           obtain ⟨e0, e1, e2, e3, e4⟩ := (HAT.out.keep hbB (fun b hb => HG4.out.below.block b (by omega))).five
           have C := Lib.hid (HI.out _ (List.getElem_mem hlt) w4 lo B _ _ (T ++ [32]) HG4.out.row (HG4.out.low hlo) (IsVa.keep (fun b hb => HG4.out.below.block b (by omega)) HXW.out) hB (Fits.at HFL.out _ (List.getElem_mem hlt)) (by simp; omega) (HT.out.on HG4.out.below))
           clear hv4 hg4 ho4 hgg hpp)
        | (go_at_call 103; refine C.out.mono ?_; rintro e w5 ⟨v5, rfl, hg5⟩; have HG5 := Lib.hid (HG4.out.trans hg5); have HP5 := Lib.hid (HP4.out.others (by decide) hg5.others); clear hg5))
      go_roundw
      case rel => exact ⟨j + 1, by go_num, by omega, HSTEP.out _ _ (by rw [if_neg (fun e => by rcases List.take_eq_nil_iff.1 e with h | h; exact hj0 h; rw [h] at hlt; simp at hlt)]; simpa using HG5.out), HP5.out⟩
      case measure => simp [intOf]; omega
theorem text_any (x : Va) : TextC x := Va.ind (fun k n s l r IH => text_step k n s l r IH) x
end Go.Proofs.YtjmelamllapmiaaGreatDoor
