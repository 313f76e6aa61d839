/- The walk of WordTokens. -/
import Derived.Test.YtkhpfghehjcfoaaDoorT
import Derived.Test.YtkhpfghehjcfoaaDoorW
import Derived.Test.YtkhpfghehjcfoaaDoorXw
import Derived.Test.YtkhpfghehjcfoaaDoorXh
import Derived.Test.YtkhpfghehjcfoaaDoorXi
import Derived.Test.YtkhpfghehjcfoaaDoorXk
import Derived.Test.YtkhpfghehjcfoaaDoorXl
import Derived.Test.YtkhpfghehjcfoaaDoorZl
namespace Go.Proofs.YtkhpfghehjcfoaaDoor
open Go.RowKit

attribute [local irreducible] wpList
set_option maxRecDepth 100000 in
set_option maxHeartbeats 8000000 in
theorem tokens_law (l : List Tk) (v : Value) (s : ByteArray) (hs : s.size ≤ 1048576) (x : Va) (vx : Value) (w : World) (h : IsTks w w.heap.size v l) (hok : ∀ t ∈ l, t.s.length ≤ 1048576 ∧ (-9223372036854775808 ≤ t.n ∧ t.n ≤ 9223372036854775807) ∧ (-9223372036854775808 ≤ t.r ∧ t.r ≤ 9223372036854775807)) (hl : l.length ≤ 1048576)
    (hx : IsVa w w.heap.size vx x) (hf : Fit x) (hv : Vars w) : Calls Tryd.prog 11 #[v, .string s, vx] w fun e w' => e = .returned (.bool true) ∧ Below w.heap.size w w' := by
  have hh := h
  obtain ⟨hl48, A, cap, hcap, rfl, h7⟩ := h
  have KT : Hid (∀ w', Below w.heap.size w w' → IsTks w' w.heap.size (.slice A l.length cap) l) := Lib.hid (fun w' hb => hh.keep fun b h => hb.block b h)
  have HOK := Lib.hid hok
  have HTK : Hid (∀ t ∈ l, TkOk t) := Lib.hid (fun t ht => ⟨by have := (hok t ht).1; omega, (hok t ht).2.1, (hok t ht).2.2⟩)
  have HV := Lib.hid hv
  have HF := Lib.hid hf
  obtain ⟨tp, qv, hqv⟩ := hv.err
  have HE := Lib.hid hqv
  have HX := Lib.hid hx
  obtain ⟨kx, nx, sx, Ax, lenx, capx, rx, rfl⟩ := hx.shape
  have KX : Hid (∀ w', Below w.heap.size w w' → IsVa w' w.heap.size (.agg #[.int .u8 kx, .int .i64 nx, .string sx, .slice Ax lenx capx, .int .i64 rx]) x) := Lib.hid (fun w' hb => HX.out.keep fun b h => hb.block b h)
  have H7 := Lib.hid h7
  clear h7 hh hok hv hf hx hqv HX
  obtain ⟨g, hg⟩ : ∃ g, g = greatL x 20000 := ⟨_, rfl⟩
  have HGE := Lib.hid hg
  go_enter Tryd.func11, Tryd.ntmps11
  go_upto_region 1 with fail
  obtain ⟨W, hW⟩ : ∃ W, W = w.alloc (.cells #[.int .u8 kx, .int .i64 nx, .string sx, .slice Ax lenx capx, .int .i64 rx] 26) := ⟨_, rfl⟩
  have HBW : Hid (Below w.heap.size w W) := Lib.hid (by rw [hW]; exact (Below.refl _ w).alloc (Nat.le_refl _) _)
  have H0 : Hid (BlkN W w.heap.size 26 #[.int .u8 kx, .int .i64 nx, .string sx, .slice Ax lenx capx, .int .i64 rx]) := Lib.hid (by rw [hW]; exact BlkN.at_ rfl _ _)
  have KT : Hid (∀ w', Below W.heap.size W w' → IsTks w' w.heap.size (.slice A l.length cap) l) := Lib.hid (fun w' hb => KT.out w' (bnext HBW.out hb))
  have KX : Hid (∀ w', Below W.heap.size W w' → IsVa w' w.heap.size (.agg #[.int .u8 kx, .int .i64 nx, .string sx, .slice Ax lenx capx, .int .i64 rx]) x) := Lib.hid (fun w' hb => KX.out w' (bnext HBW.out hb))
  have HVW : Hid (Vars W) := Lib.hid (HV.out.on HBW.out)
  have HV := HVW
  have HE : Hid (W.var? Tryd.prog "strconv.ErrRange" = some #[.iface tp qv]) := Lib.hid (varB HE.out HBW.out)
  have KS : Hid (∀ w', Below W.heap.size W w' → w.heap.size ≤ w'.heap.size) := Lib.hid (fun w' hb => (bnext HBW.out hb).size)
  have PX : Hid (∀ w', Below W.heap.size W w' → w'.cell? ⟨w.heap.size, 0, Option.none⟩ = some (.int .u8 kx) ∧ w'.cell? ⟨w.heap.size, 1, Option.none⟩ = some (.int .i64 nx) ∧ w'.cell? ⟨w.heap.size, 2, Option.none⟩ = some (.string sx) ∧ w'.cell? ⟨w.heap.size, 3, Option.none⟩ = some (.slice Ax lenx capx) ∧ w'.cell? ⟨w.heap.size, 4, Option.none⟩ = some (.int .i64 rx) ∧ w.heap.size < w'.heap.size) := Lib.hid (fun w' hb => by
    have h := H0.out.below hb
    exact ⟨h.cell 0 rfl, h.cell 1 rfl, h.cell 2 rfl, h.cell 3 rfl, h.cell 4 rfl, h.lt⟩)
  have H7 : Hid (l ≠ [] → ∃ b o, b < w.heap.size ∧ A = some ⟨b, o, Option.none⟩ ∧ ∀ (i : Nat) (hi : i < l.length), At W b (o + i * 5) (l[i]).arr.toList) := Lib.hid (fun hne => by
    obtain ⟨_, A', cap', _, e, h4⟩ := KT.out W (Below.refl _ _)
    injection e with e1 e2 e3
    subst e1
    exact h4 hne)
  have C15 := Lib.hid (fun w' (hb : Below W.heap.size W w') => awake_any w' (HV.out.on hb))
  have C23 := Lib.hid (fun w' (hb : Below W.heap.size W w') => great_any x w' w.heap.size _ 20000 (KX.out w' hb) (KS.out w' hb) (by omega) (by omega))
  rw [← hg] at C23
  rw [← hW]
  clear hW hg
  go_wp2_with fail
  go_loopw [7, 8] (fun nx ix wr => ∃ j m : Nat, nx = .int .i64 m ∧ ix = .int .i64 j ∧ j ≤ l.length ∧ s.size ≤ m ∧ m ≤ s.size + j * 1048576 ∧ wr = W) (fun _ ix _ => l.length - (intOf ix).toNat)
  case atStart => exact ⟨0, s.size, rfl, rfl, by omega, by omega, by omega, rfl⟩
  case round =>
    obtain ⟨j, m, rfl, rfl, hj, hsm, hm, rfl⟩ := hrel
    by_cases hlt : j < l.length
    · obtain ⟨ab, ao, hbB, hA, hx⟩ := H7.out (by rintro rfl; simp at hlt)
      subst hA
      obtain ⟨e0, e1, e2, e3, e4⟩ := At.five' (hx j hlt)
      have hts := (HOK.out _ (List.getElem_mem hlt)).1
      have hts2 : (txtV l[j].s).size ≤ 1048576 := hts
      have hji : (j : Int) < l.length := by omega
      clear hx
      go_wp2_with fail
      go_roundw
      case rel => exact ⟨j + 1, m + (txtV l[j].s).size, by go_num, by go_num, by omega, by omega, by omega, trivial⟩
      case measure => simp only [intOf]; omega
    have hji : ¬ (j : Int) < l.length := by omega
    have hjl : j = l.length := by omega
    clear hlt hj
    obtain ⟨x0, x1, x2, x3, x4, hxl⟩ := PX.out wr (Below.refl _ _)
    by_cases hbig : 100000 < m ∨ 20000 < l.length ∨ g < 0
    · have hb : (100000 : Int) < m ∨ (¬ (100000 : Int) < m ∧ (20000 : Int) < l.length) ∨ (¬ (100000 : Int) < m ∧ ¬ (20000 : Int) < l.length ∧ g < 0) := by omega
      clear hbig
      rcases hb with hb | ⟨hb, hb2⟩ | ⟨hb, hb2, hb3⟩
      · go_wp2_with (first | (go_at_call 15; refine (C15.out _ (Below.refl _ _)).mono ?_; rintro e w5 ⟨rfl, hb5⟩))
        go_ret
        exact ⟨rfl, bnext HBW.out hb5⟩
      · go_wp2_with (first | (go_at_call 15; refine (C15.out _ (Below.refl _ _)).mono ?_; rintro e w5 ⟨rfl, hb5⟩))
        go_ret
        exact ⟨rfl, bnext HBW.out hb5⟩
      · go_wp2_with (first | (go_at_call 23; refine (C23.out _ (Below.refl _ _)).mono ?_; rintro e w4 ⟨⟨rfl, hg0⟩, hb4⟩; have HB4 := Lib.hid hb4; clear hb4) | (go_at_call 15; refine (C15.out _ HB4.out).mono ?_; rintro e w5 ⟨rfl, hb5⟩))
        go_ret
        exact ⟨rfl, bnext HBW.out (bnext HB4.out hb5)⟩
    have hb1 : ¬ (100000 : Int) < m := by omega
    have hb2 : ¬ (20000 : Int) < l.length := by omega
    have hb3 : ¬ g < 0 := by omega
    have hls : s.size ≤ 100000 := by omega
    have hll : l.length ≤ 20000 := by omega
    have HG : Hid (0 ≤ greatL x 20000) := Lib.hid (by rw [← HGE.out]; omega)
    clear hbig
    go_upto_region 8 with (first | (go_at_call 23; refine (C23.out _ (Below.refl _ _)).mono ?_; rintro e w4 ⟨⟨rfl, hg0⟩, hb4⟩; have HB4 := Lib.hid hb4; clear hb4))
    clear x0 x1 x2 x3 x4 hxl C23 hb1 hb2 hb3
    obtain ⟨S, eJ, hJ⟩ : ∃ S e, joinR l = (S, e) := ⟨_, _, rfl⟩
    have C28 := join_any w4 (KT.out w4 HB4.out) (KS.out w4 HB4.out) HTK.out (HV.out.tab.on HB4.out)
    have hje := joinR_e l
    rw [hJ] at C28 hje
    have C28 := Lib.hid C28
    by_cases h0 : eJ = 0
    · subst h0
      obtain ⟨m1, hq1, hq2, hq3⟩ := cutY_join l HTK.out S hJ
      have hml : m1.length ≤ 1048577 := by have := cutY_len (txtV S); rw [hq1] at this; exact this
      have HQ2 := Lib.hid hq2
      have HQ1 := Lib.hid hq1
      have hSs : (txtV S).size ≤ 1048576 := hq3
      clear hq1 hq2 hq3 hJ hje
      go_upto_region 10 with (first | (go_at_call 28; refine C28.out.mono ?_; rintro e w5 ⟨hb5, rfl⟩; have HB5 := Lib.hid (bnext HB4.out hb5); clear hb5))
      have CS := cut_any (txtV S) (by omega) w5 _ _ (varB HE.out HB5.out)
      have CS := CS.mono fun e w' h => And.intro h.1 h.2.y
      rw [HQ1.out] at CS
      have CS := Lib.hid CS
      go_upto_region 13 with (first
        | (go_at_call 20; refine CS.out.mono ?_; rintro e w6 ⟨hb6, A6, cap6, rfl, hv6⟩; have HB6 := Lib.hid (bnext HB5.out hb6); have HV6 := Lib.hid hv6; clear hb6 hv6)
        | (go_at_call 36; refine (places_any m1 l (txtV S) w6 w6.heap.size w.heap.size _ _ (HV6.out.tks (by omega) (fun g hg => (HV6.out.blk hg).2)) (KT.out w6 HB6.out) (Nat.le_refl _) (KS.out w6 HB6.out) HQ2.out).mono ?_; rintro e w7 ⟨rfl, hb7⟩; have HB7 := Lib.hid (bnext HB6.out hb7); clear hb7))
      obtain ⟨W8, hW8⟩ : ∃ W, W = w7 := ⟨_, rfl⟩
      have HB8 : Hid (Below wr.heap.size wr W8) := Lib.hid (by rw [hW8]; exact HB7.out)
      rw [← hW8]
      clear hW8 CS HV6 HQ1 HQ2 hSs hml C28
      have CL := cut_any s (by omega) W8 _ _ (varB HE.out HB8.out)
      have CL := Lib.hid (CL.mono fun e w' h => And.intro h.1 h.2.y)
      rcases cutY_line s hls with h30 | ⟨m, t, hm1, hm2, hm3, hm4, hm5⟩
      · rw [h30] at CL
        clear h30
        go_upto_region 21 with (first | (go_at_call 20; refine CL.out.mono ?_; rintro e w10 ⟨hb10, A10, cap10, rfl, hv10⟩; have HB10 := Lib.hid (bnext HB8.out hb10); clear hb10 hv10))
        obtain ⟨W10, hW10⟩ : ∃ W, W = w10 := ⟨_, rfl⟩
        have HB10 : Hid (Below wr.heap.size wr W10) := Lib.hid (by rw [hW10]; exact HB10.out)
        rw [← hW10]
        clear hW10 CL
        cases hmx : mayV x with
        | false =>
          have HTX := tokX_not x hmx
          have C37 := Lib.hid (Tokens_any W10 (KX.out W10 HB10.out) (KS.out W10 HB10.out) HF.out (HV.out.on HB10.out))
          rw [HTX] at C37
          clear HTX
          have C25 := Lib.hid (fun w' (hb : Below wr.heap.size wr w') => mayb_any w' (KX.out w' hb) (KS.out w' hb))
          have hmb : mayB x = false := by unfold mayB; rw [hmx, Bool.and_false]
          rw [hmb] at C25
          clear hmb hmx
          have p0 := PX.out W10 HB10.out
          obtain ⟨x0, x1, x2, x3, x4, hxl⟩ := p0
          go_wp2_with (first
            | (go_at_call 37; refine C37.out.mono ?_; rintro e w20 ⟨hb20, A20, cap20, rfl, hv20⟩; have HB20 := Lib.hid (bnext HB10.out hb20); clear hb20 hv20 x0 x1 x2 x3 x4 hxl; obtain ⟨x0, x1, x2, x3, x4, hxl⟩ := PX.out w20 HB20.out)
            | (go_at_call 25; refine (C25.out _ HB20.out).mono ?_; rintro e w21 ⟨rfl, hb21⟩; have HB21 := Lib.hid (bnext HB20.out hb21); clear hb21)
            | (go_at_call 15; refine (C15.out _ HB21.out).mono ?_; rintro e w22 ⟨rfl, hb22⟩))
          go_ret
          exact ⟨rfl, bnext HBW.out (bnext HB21.out hb22)⟩
        | true =>
          obtain ⟨TK, hTK⟩ : ∃ T, T = (tokX x).1 := ⟨_, rfl⟩
          have HTX := tokX_may x hmx HF.out
          have C37 := Tokens_any W10 (KX.out W10 HB10.out) (KS.out W10 HB10.out) HF.out (HV.out.on HB10.out)
          rw [HTX.1, ← hTK] at C37
          have C37 := Lib.hid C37
          rw [← hTK] at HTX
          obtain ⟨-, ht1, ht2, ht3⟩ := HTX
          have HT1 := Lib.hid ht1
          obtain ⟨kk, ht4⟩ := ht3 l
          have HT4 := Lib.hid ht4
          have C25 := Lib.hid (fun w' (hb : Below wr.heap.size wr w') => mayb_any w' (KX.out w' hb) (KS.out w' hb))
          have hmb : mayB x = true := by unfold mayB; rw [hmx, decide_eq_true HG.out]; rfl
          rw [hmb] at C25
          clear hmb hmx hTK ht1 ht3 ht4
          obtain ⟨x0, x1, x2, x3, x4, hxl⟩ := PX.out W10 HB10.out
          go_upto_region 22 with (first
            | (go_at_call 37; refine C37.out.mono ?_; rintro e w20 ⟨hb20, A20, cap20, rfl, hv20⟩; have HB20 := Lib.hid (bnext HB10.out hb20); have HV20 := Lib.hid hv20; clear hb20 hv20 x0 x1 x2 x3 x4 hxl))
          have h20 : ∀ g, (Value.slice A20 TK.length cap20).ownBlock = some g → g < w20.heap.size := fun g hg => (HV20.out.blk hg).2
          have hlo20 := HB10.out.size
          go_upto_region 25 with (first
            | (refine wpList_append_tks _ rfl (.tmp 136) (.tmp 137) rfl w20.heap.size w20.heap.size (.slice (some ⟨w20.heap.size, 0, Option.none⟩) 0 0) [] rfl (TRow.new0 w20) (.slice A20 TK.length cap20) TK rfl ((HV20.out.tks (by omega) h20).keep fun b hb => Below.heap_alloc _ _ _ (by omega)) (by simp; omega) (by simp) ?_
               intro v21 w21 hv21 hg21 ho21
               have hv21 : TRow w21 w20.heap.size v21 TK := by simpa using hv21
               have HB21 : Hid (Below w20.heap.size w20 w21) := Lib.hid (((Below.refl _ w20).alloc (Nat.le_refl _) _).grown hg21 (by simp) (fun g hg => by simp [Value.ownBlock] at hg; omega))
               have HV21 := Lib.hid hv21
               obtain ⟨A21, cap21, rfl, hcap21⟩ := hv21.slice
               have hs21 := HB21.out.size
               clear hv21 hg21 ho21)
            | (refine wpList_append_tks _ rfl (.tmp 138) (.tmp 139) rfl w20.heap.size w.heap.size (.slice A21 TK.length cap21) TK rfl HV21.out (.slice A l.length cap) l rfl (KT.out w21 (bnext HB20.out HB21.out)) (by omega) (by omega) ?_
               intro v22 w22 hv22 hg22 ho22
               have HB22 : Hid (Below w20.heap.size w20 w22) := Lib.hid (HB21.out.grown hg22 hs21 (fun g hg => (HV21.out.blk hg).1))
               have HV22 := Lib.hid hv22
               have HB23 : Hid (Below wr.heap.size wr w22) := Lib.hid (bnext HB20.out HB22.out)
               have C38 := front_any (TK ++ l) w22 w22.heap.size v22 (hv22.tks (by simp; omega) (fun g hg => (hv22.blk hg).2)) (Nat.le_refl _) (fun t ht => (List.mem_append.1 ht).elim (HT1.out t) (HTK.out t))
               have hfp : ∀ e w', FrontP (TK ++ l) w22.heap.size e w' → ∃ k n t A len cap r, e = .returned (.tuple #[.agg #[.int .u8 k, .int .i64 n, .string t, .slice A len cap, .int .i64 r], .int .i64 TK.length, .int .i64 0]) ∧ IsVaR w' (Own34 w' w22.heap.size) (.agg #[.int .u8 k, .int .i64 n, .string t, .slice A len cap, .int .i64 r]) x := fun e w' h => by
                 unfold FrontP at h
                 rw [HT4.out] at h
                 obtain ⟨v, rfl, h2⟩ := h
                 obtain ⟨k, n, t, A, len, cap, r, rfl⟩ := h2.shape
                 have e9 : (TK ++ l).length - l.length = TK.length := by simp
                 rw [e9]
                 exact ⟨_, _, _, _, _, _, _, rfl, h2⟩
               have C38 := Lib.hid (C38.mono fun e w' h => And.intro h.1 (hfp e w' h.2))
               clear hfp hv22 hg22 ho22)
            | (go_at_call 38; refine C38.out.mono ?_; rintro e w24 ⟨hb24, k24, n24, t24, A24, len24, cap24, r24, rfl, hv24⟩; have HB24 := Lib.hid hb24; have HV24 := Lib.hid hv24; clear hb24 hv24))
          obtain ⟨Y, hY⟩ : ∃ Y, Y = w24.alloc (.cells #[.int .u8 k24, .int .i64 n24, .string t24, .slice A24 len24 cap24, .int .i64 r24] 26) := ⟨_, rfl⟩
          have hay : Below w24.heap.size w24 Y := by rw [hY]; exact (Below.refl _ _).alloc (Nat.le_refl _) _
          have HBY : Hid (Below wr.heap.size wr Y) := Lib.hid (bnext HB23.out (bnext HB24.out hay))
          have hyb : BlkN Y w24.heap.size 26 #[.int .u8 k24, .int .i64 n24, .string t24, .slice A24 len24 cap24, .int .i64 r24] := by rw [hY]; exact BlkN.at_ rfl _ _
          have hvy : IsVa Y w24.heap.size (.agg #[.int .u8 k24, .int .i64 n24, .string t24, .slice A24 len24 cap24, .int .i64 r24]) x := (HV24.out.mono fun b o h => h.lt).keep fun b _ h => hay.block b h
          have HVY := Lib.hid hvy
          have HYB := Lib.hid hyb
          have hyl : w24.heap.size < Y.heap.size := hyb.lt
          rw [← hY]
          clear hY hay hvy hyb h20 hlo20 hs21 C37 C38 HV20 HV21 HV22
          obtain ⟨x0, x1, x2, x3, x4, hxl⟩ := PX.out Y HBY.out
          go_wp2_with (first
            | (go_at_call 25; refine (C25.out _ HBY.out).mono ?_; rintro e w25 ⟨rfl, hb25⟩; have HB25 := Lib.hid (bnext HBY.out hb25); have HC25 := Lib.hid hb25; clear x0 x1 x2 x3 x4 hxl; obtain ⟨x0, x1, x2, x3, x4, hxl⟩ := PX.out w25 HB25.out; have hyb := HYB.out.below hb25; have y0 := hyb.cell 0 rfl; have y1 := hyb.cell 1 rfl; have y2 := hyb.cell 2 rfl; have y3 := hyb.cell 3 rfl; have y4 := hyb.cell 4 rfl; clear hb25 hyb)
            | (go_at_call 26; refine (alike_any x x w25 w24.heap.size w.heap.size _ _ (HVY.out.keep fun b h => HC25.out.block b (by omega)) (KX.out w25 HB25.out) (by have := HC25.out.size; omega) (KS.out w25 HB25.out)).mono ?_; rw [sameV_refl]; rintro e w26 ⟨rfl, hb26⟩; have HB26 := Lib.hid (bnext HB25.out hb26); clear hb26)
            | (go_at_call 15; refine (C15.out _ HB26.out).mono ?_; rintro e w27 ⟨rfl, hb27⟩))
          go_ret
          exact ⟨rfl, bnext HBW.out (bnext HB26.out hb27)⟩
      · rw [hm1] at CL
        have HM2 := Lib.hid hm2
        have HM4 := Lib.hid hm4
        clear hm1 hm2 hm4
        go_upto_region 15 with (first | (go_at_call 20; refine CL.out.mono ?_; rintro e w10 ⟨hb10, A10, cap10, rfl, hv10⟩; have HB10 := Lib.hid (bnext HB8.out hb10); have HV10 := Lib.hid hv10; clear hb10 hv10))
        have HM : Hid (∀ w', Below w10.heap.size w10 w' → IsTks w' w10.heap.size (.slice A10 m.length cap10) m) := Lib.hid (fun w' hb => (HV10.out.tks (by omega) (fun g hg => (HV10.out.blk hg).2)).keep fun b h => hb.block b h)
        have CJ := join_any w10 (HM.out w10 (Below.refl _ _)) (Nat.le_refl _) HM4.out (HV.out.tab.on HB10.out)
        rw [HM2.out] at CJ
        have CJ := Lib.hid CJ
        have hts : (txtV t).size ≤ s.size + m.length := hm3
        have htl : (txtV t).size ≤ 1048576 := by omega
        clear CL hm3
        go_upto_region 18 with (first | (go_at_call 28; refine CJ.out.mono ?_; rintro e w11 ⟨hb11, rfl⟩; have HC11 := Lib.hid hb11; have HB11 := Lib.hid (bnext HB10.out hb11); clear hb11))
        obtain ⟨k, hk1, hk2, hk3⟩ := cutY_join m HM4.out t HM2.out
        have CT := cut_any (txtV t) (by omega) w11 _ _ (varB HE.out HB11.out)
        have CT := CT.mono fun e w' h => And.intro h.1 h.2.y
        rw [hk1] at CT
        have CT := Lib.hid CT
        have hkl : k.length ≤ 1048577 := by have := cutY_len (txtV t); rw [hk1] at this; exact this
        have HK2 := Lib.hid hk2
        clear hk1 hk2 hk3 hts htl CJ
        go_upto_region 21 with (first
          | (go_at_call 20; refine CT.out.mono ?_; rintro e w12 ⟨hb12, A12, cap12, rfl, hv12⟩; have HC12 := Lib.hid (bnext HC11.out hb12); have HB12 := Lib.hid (bnext HB11.out hb12); have HV12 := Lib.hid hv12; clear hb12 hv12)
          | (go_at_call 36; refine (places_any k m (txtV t) w12 w12.heap.size w10.heap.size _ _ (HV12.out.tks (by omega) (fun g hg => (HV12.out.blk hg).2)) (HM.out w12 HC12.out) (Nat.le_refl _) HC12.out.size HK2.out).mono ?_; rintro e w13 ⟨rfl, hb13⟩; have HB13 := Lib.hid (bnext HB12.out hb13); clear hb13))
        obtain ⟨W10, hW10⟩ : ∃ W, W = w13 := ⟨_, rfl⟩
        have HB10 : Hid (Below wr.heap.size wr W10) := Lib.hid (by rw [hW10]; exact HB13.out)
        rw [← hW10]
        clear hW10 CT HM HK2 HV12 HV10
        cases hmx : mayV x with
        | false =>
          have HTX := tokX_not x hmx
          have C37 := Lib.hid (Tokens_any W10 (KX.out W10 HB10.out) (KS.out W10 HB10.out) HF.out (HV.out.on HB10.out))
          rw [HTX] at C37
          clear HTX
          have C25 := Lib.hid (fun w' (hb : Below wr.heap.size wr w') => mayb_any w' (KX.out w' hb) (KS.out w' hb))
          have hmb : mayB x = false := by unfold mayB; rw [hmx, Bool.and_false]
          rw [hmb] at C25
          clear hmb hmx
          have p0 := PX.out W10 HB10.out
          obtain ⟨x0, x1, x2, x3, x4, hxl⟩ := p0
          go_wp2_with (first
            | (go_at_call 37; refine C37.out.mono ?_; rintro e w20 ⟨hb20, A20, cap20, rfl, hv20⟩; have HB20 := Lib.hid (bnext HB10.out hb20); clear hb20 hv20 x0 x1 x2 x3 x4 hxl; obtain ⟨x0, x1, x2, x3, x4, hxl⟩ := PX.out w20 HB20.out)
            | (go_at_call 25; refine (C25.out _ HB20.out).mono ?_; rintro e w21 ⟨rfl, hb21⟩; have HB21 := Lib.hid (bnext HB20.out hb21); clear hb21)
            | (go_at_call 15; refine (C15.out _ HB21.out).mono ?_; rintro e w22 ⟨rfl, hb22⟩))
          go_ret
          exact ⟨rfl, bnext HBW.out (bnext HB21.out hb22)⟩
        | true =>
          obtain ⟨TK, hTK⟩ : ∃ T, T = (tokX x).1 := ⟨_, rfl⟩
          have HTX := tokX_may x hmx HF.out
          have C37 := Tokens_any W10 (KX.out W10 HB10.out) (KS.out W10 HB10.out) HF.out (HV.out.on HB10.out)
          rw [HTX.1, ← hTK] at C37
          have C37 := Lib.hid C37
          rw [← hTK] at HTX
          obtain ⟨-, ht1, ht2, ht3⟩ := HTX
          have HT1 := Lib.hid ht1
          obtain ⟨kk, ht4⟩ := ht3 l
          have HT4 := Lib.hid ht4
          have C25 := Lib.hid (fun w' (hb : Below wr.heap.size wr w') => mayb_any w' (KX.out w' hb) (KS.out w' hb))
          have hmb : mayB x = true := by unfold mayB; rw [hmx, decide_eq_true HG.out]; rfl
          rw [hmb] at C25
          clear hmb hmx hTK ht1 ht3 ht4
          obtain ⟨x0, x1, x2, x3, x4, hxl⟩ := PX.out W10 HB10.out
          go_upto_region 22 with (first
            | (go_at_call 37; refine C37.out.mono ?_; rintro e w20 ⟨hb20, A20, cap20, rfl, hv20⟩; have HB20 := Lib.hid (bnext HB10.out hb20); have HV20 := Lib.hid hv20; clear hb20 hv20 x0 x1 x2 x3 x4 hxl))
          have h20 : ∀ g, (Value.slice A20 TK.length cap20).ownBlock = some g → g < w20.heap.size := fun g hg => (HV20.out.blk hg).2
          have hlo20 := HB10.out.size
          go_upto_region 25 with (first
            | (refine wpList_append_tks _ rfl (.tmp 136) (.tmp 137) rfl w20.heap.size w20.heap.size (.slice (some ⟨w20.heap.size, 0, Option.none⟩) 0 0) [] rfl (TRow.new0 w20) (.slice A20 TK.length cap20) TK rfl ((HV20.out.tks (by omega) h20).keep fun b hb => Below.heap_alloc _ _ _ (by omega)) (by simp; omega) (by simp) ?_
               intro v21 w21 hv21 hg21 ho21
               have hv21 : TRow w21 w20.heap.size v21 TK := by simpa using hv21
               have HB21 : Hid (Below w20.heap.size w20 w21) := Lib.hid (((Below.refl _ w20).alloc (Nat.le_refl _) _).grown hg21 (by simp) (fun g hg => by simp [Value.ownBlock] at hg; omega))
               have HV21 := Lib.hid hv21
               obtain ⟨A21, cap21, rfl, hcap21⟩ := hv21.slice
               have hs21 := HB21.out.size
               clear hv21 hg21 ho21)
            | (refine wpList_append_tks _ rfl (.tmp 138) (.tmp 139) rfl w20.heap.size w.heap.size (.slice A21 TK.length cap21) TK rfl HV21.out (.slice A l.length cap) l rfl (KT.out w21 (bnext HB20.out HB21.out)) (by omega) (by omega) ?_
               intro v22 w22 hv22 hg22 ho22
               have HB22 : Hid (Below w20.heap.size w20 w22) := Lib.hid (HB21.out.grown hg22 hs21 (fun g hg => (HV21.out.blk hg).1))
               have HV22 := Lib.hid hv22
               have HB23 : Hid (Below wr.heap.size wr w22) := Lib.hid (bnext HB20.out HB22.out)
               have C38 := front_any (TK ++ l) w22 w22.heap.size v22 (hv22.tks (by simp; omega) (fun g hg => (hv22.blk hg).2)) (Nat.le_refl _) (fun t ht => (List.mem_append.1 ht).elim (HT1.out t) (HTK.out t))
               have hfp : ∀ e w', FrontP (TK ++ l) w22.heap.size e w' → ∃ k n t A len cap r, e = .returned (.tuple #[.agg #[.int .u8 k, .int .i64 n, .string t, .slice A len cap, .int .i64 r], .int .i64 TK.length, .int .i64 0]) ∧ IsVaR w' (Own34 w' w22.heap.size) (.agg #[.int .u8 k, .int .i64 n, .string t, .slice A len cap, .int .i64 r]) x := fun e w' h => by
                 unfold FrontP at h
                 rw [HT4.out] at h
                 obtain ⟨v, rfl, h2⟩ := h
                 obtain ⟨k, n, t, A, len, cap, r, rfl⟩ := h2.shape
                 have e9 : (TK ++ l).length - l.length = TK.length := by simp
                 rw [e9]
                 exact ⟨_, _, _, _, _, _, _, rfl, h2⟩
               have C38 := Lib.hid (C38.mono fun e w' h => And.intro h.1 (hfp e w' h.2))
               clear hfp hv22 hg22 ho22)
            | (go_at_call 38; refine C38.out.mono ?_; rintro e w24 ⟨hb24, k24, n24, t24, A24, len24, cap24, r24, rfl, hv24⟩; have HB24 := Lib.hid hb24; have HV24 := Lib.hid hv24; clear hb24 hv24))
          obtain ⟨Y, hY⟩ : ∃ Y, Y = w24.alloc (.cells #[.int .u8 k24, .int .i64 n24, .string t24, .slice A24 len24 cap24, .int .i64 r24] 26) := ⟨_, rfl⟩
          have hay : Below w24.heap.size w24 Y := by rw [hY]; exact (Below.refl _ _).alloc (Nat.le_refl _) _
          have HBY : Hid (Below wr.heap.size wr Y) := Lib.hid (bnext HB23.out (bnext HB24.out hay))
          have hyb : BlkN Y w24.heap.size 26 #[.int .u8 k24, .int .i64 n24, .string t24, .slice A24 len24 cap24, .int .i64 r24] := by rw [hY]; exact BlkN.at_ rfl _ _
          have hvy : IsVa Y w24.heap.size (.agg #[.int .u8 k24, .int .i64 n24, .string t24, .slice A24 len24 cap24, .int .i64 r24]) x := (HV24.out.mono fun b o h => h.lt).keep fun b _ h => hay.block b h
          have HVY := Lib.hid hvy
          have HYB := Lib.hid hyb
          have hyl : w24.heap.size < Y.heap.size := hyb.lt
          rw [← hY]
          clear hY hay hvy hyb h20 hlo20 hs21 C37 C38 HV20 HV21 HV22
          obtain ⟨x0, x1, x2, x3, x4, hxl⟩ := PX.out Y HBY.out
          go_wp2_with (first
            | (go_at_call 25; refine (C25.out _ HBY.out).mono ?_; rintro e w25 ⟨rfl, hb25⟩; have HB25 := Lib.hid (bnext HBY.out hb25); have HC25 := Lib.hid hb25; clear x0 x1 x2 x3 x4 hxl; obtain ⟨x0, x1, x2, x3, x4, hxl⟩ := PX.out w25 HB25.out; have hyb := HYB.out.below hb25; have y0 := hyb.cell 0 rfl; have y1 := hyb.cell 1 rfl; have y2 := hyb.cell 2 rfl; have y3 := hyb.cell 3 rfl; have y4 := hyb.cell 4 rfl; clear hb25 hyb)
            | (go_at_call 26; refine (alike_any x x w25 w24.heap.size w.heap.size _ _ (HVY.out.keep fun b h => HC25.out.block b (by omega)) (KX.out w25 HB25.out) (by have := HC25.out.size; omega) (KS.out w25 HB25.out)).mono ?_; rw [sameV_refl]; rintro e w26 ⟨rfl, hb26⟩; have HB26 := Lib.hid (bnext HB25.out hb26); clear hb26)
            | (go_at_call 15; refine (C15.out _ HB26.out).mono ?_; rintro e w27 ⟨rfl, hb27⟩))
          go_ret
          exact ⟨rfl, bnext HBW.out (bnext HB26.out hb27)⟩
    · have hbe : (eJ == 0) = false := by rw [beq_eq_false_iff_ne]; exact h0
      clear h0 hJ hje
      go_upto_region 13 with (first | (go_at_call 28; refine C28.out.mono ?_; rintro e w5 ⟨hb5, rfl⟩; have HB5 := Lib.hid (bnext HB4.out hb5); clear hb5))
      obtain ⟨W8, hW8⟩ : ∃ W, W = w5 := ⟨_, rfl⟩
      have HB8 : Hid (Below wr.heap.size wr W8) := Lib.hid (by rw [hW8]; exact HB5.out)
      rw [← hW8]
      clear hW8 hbe C28
      have CL := cut_any s (by omega) W8 _ _ (varB HE.out HB8.out)
      have CL := Lib.hid (CL.mono fun e w' h => And.intro h.1 h.2.y)
      rcases cutY_line s hls with h30 | ⟨m, t, hm1, hm2, hm3, hm4, hm5⟩
      · rw [h30] at CL
        clear h30
        go_upto_region 21 with (first | (go_at_call 20; refine CL.out.mono ?_; rintro e w10 ⟨hb10, A10, cap10, rfl, hv10⟩; have HB10 := Lib.hid (bnext HB8.out hb10); clear hb10 hv10))
        obtain ⟨W10, hW10⟩ : ∃ W, W = w10 := ⟨_, rfl⟩
        have HB10 : Hid (Below wr.heap.size wr W10) := Lib.hid (by rw [hW10]; exact HB10.out)
        rw [← hW10]
        clear hW10 CL
        cases hmx : mayV x with
        | false =>
          have HTX := tokX_not x hmx
          have C37 := Lib.hid (Tokens_any W10 (KX.out W10 HB10.out) (KS.out W10 HB10.out) HF.out (HV.out.on HB10.out))
          rw [HTX] at C37
          clear HTX
          have C25 := Lib.hid (fun w' (hb : Below wr.heap.size wr w') => mayb_any w' (KX.out w' hb) (KS.out w' hb))
          have hmb : mayB x = false := by unfold mayB; rw [hmx, Bool.and_false]
          rw [hmb] at C25
          clear hmb hmx
          have p0 := PX.out W10 HB10.out
          obtain ⟨x0, x1, x2, x3, x4, hxl⟩ := p0
          go_wp2_with (first
            | (go_at_call 37; refine C37.out.mono ?_; rintro e w20 ⟨hb20, A20, cap20, rfl, hv20⟩; have HB20 := Lib.hid (bnext HB10.out hb20); clear hb20 hv20 x0 x1 x2 x3 x4 hxl; obtain ⟨x0, x1, x2, x3, x4, hxl⟩ := PX.out w20 HB20.out)
            | (go_at_call 25; refine (C25.out _ HB20.out).mono ?_; rintro e w21 ⟨rfl, hb21⟩; have HB21 := Lib.hid (bnext HB20.out hb21); clear hb21)
            | (go_at_call 15; refine (C15.out _ HB21.out).mono ?_; rintro e w22 ⟨rfl, hb22⟩))
          go_ret
          exact ⟨rfl, bnext HBW.out (bnext HB21.out hb22)⟩
        | true =>
          obtain ⟨TK, hTK⟩ : ∃ T, T = (tokX x).1 := ⟨_, rfl⟩
          have HTX := tokX_may x hmx HF.out
          have C37 := Tokens_any W10 (KX.out W10 HB10.out) (KS.out W10 HB10.out) HF.out (HV.out.on HB10.out)
          rw [HTX.1, ← hTK] at C37
          have C37 := Lib.hid C37
          rw [← hTK] at HTX
          obtain ⟨-, ht1, ht2, ht3⟩ := HTX
          have HT1 := Lib.hid ht1
          obtain ⟨kk, ht4⟩ := ht3 l
          have HT4 := Lib.hid ht4
          have C25 := Lib.hid (fun w' (hb : Below wr.heap.size wr w') => mayb_any w' (KX.out w' hb) (KS.out w' hb))
          have hmb : mayB x = true := by unfold mayB; rw [hmx, decide_eq_true HG.out]; rfl
          rw [hmb] at C25
          clear hmb hmx hTK ht1 ht3 ht4
          obtain ⟨x0, x1, x2, x3, x4, hxl⟩ := PX.out W10 HB10.out
          go_upto_region 22 with (first
            | (go_at_call 37; refine C37.out.mono ?_; rintro e w20 ⟨hb20, A20, cap20, rfl, hv20⟩; have HB20 := Lib.hid (bnext HB10.out hb20); have HV20 := Lib.hid hv20; clear hb20 hv20 x0 x1 x2 x3 x4 hxl))
          have h20 : ∀ g, (Value.slice A20 TK.length cap20).ownBlock = some g → g < w20.heap.size := fun g hg => (HV20.out.blk hg).2
          have hlo20 := HB10.out.size
          go_upto_region 25 with (first
            | (refine wpList_append_tks _ rfl (.tmp 136) (.tmp 137) rfl w20.heap.size w20.heap.size (.slice (some ⟨w20.heap.size, 0, Option.none⟩) 0 0) [] rfl (TRow.new0 w20) (.slice A20 TK.length cap20) TK rfl ((HV20.out.tks (by omega) h20).keep fun b hb => Below.heap_alloc _ _ _ (by omega)) (by simp; omega) (by simp) ?_
               intro v21 w21 hv21 hg21 ho21
               have hv21 : TRow w21 w20.heap.size v21 TK := by simpa using hv21
               have HB21 : Hid (Below w20.heap.size w20 w21) := Lib.hid (((Below.refl _ w20).alloc (Nat.le_refl _) _).grown hg21 (by simp) (fun g hg => by simp [Value.ownBlock] at hg; omega))
               have HV21 := Lib.hid hv21
               obtain ⟨A21, cap21, rfl, hcap21⟩ := hv21.slice
               have hs21 := HB21.out.size
               clear hv21 hg21 ho21)
            | (refine wpList_append_tks _ rfl (.tmp 138) (.tmp 139) rfl w20.heap.size w.heap.size (.slice A21 TK.length cap21) TK rfl HV21.out (.slice A l.length cap) l rfl (KT.out w21 (bnext HB20.out HB21.out)) (by omega) (by omega) ?_
               intro v22 w22 hv22 hg22 ho22
               have HB22 : Hid (Below w20.heap.size w20 w22) := Lib.hid (HB21.out.grown hg22 hs21 (fun g hg => (HV21.out.blk hg).1))
               have HV22 := Lib.hid hv22
               have HB23 : Hid (Below wr.heap.size wr w22) := Lib.hid (bnext HB20.out HB22.out)
               have C38 := front_any (TK ++ l) w22 w22.heap.size v22 (hv22.tks (by simp; omega) (fun g hg => (hv22.blk hg).2)) (Nat.le_refl _) (fun t ht => (List.mem_append.1 ht).elim (HT1.out t) (HTK.out t))
               have hfp : ∀ e w', FrontP (TK ++ l) w22.heap.size e w' → ∃ k n t A len cap r, e = .returned (.tuple #[.agg #[.int .u8 k, .int .i64 n, .string t, .slice A len cap, .int .i64 r], .int .i64 TK.length, .int .i64 0]) ∧ IsVaR w' (Own34 w' w22.heap.size) (.agg #[.int .u8 k, .int .i64 n, .string t, .slice A len cap, .int .i64 r]) x := fun e w' h => by
                 unfold FrontP at h
                 rw [HT4.out] at h
                 obtain ⟨v, rfl, h2⟩ := h
                 obtain ⟨k, n, t, A, len, cap, r, rfl⟩ := h2.shape
                 have e9 : (TK ++ l).length - l.length = TK.length := by simp
                 rw [e9]
                 exact ⟨_, _, _, _, _, _, _, rfl, h2⟩
               have C38 := Lib.hid (C38.mono fun e w' h => And.intro h.1 (hfp e w' h.2))
               clear hfp hv22 hg22 ho22)
            | (go_at_call 38; refine C38.out.mono ?_; rintro e w24 ⟨hb24, k24, n24, t24, A24, len24, cap24, r24, rfl, hv24⟩; have HB24 := Lib.hid hb24; have HV24 := Lib.hid hv24; clear hb24 hv24))
          obtain ⟨Y, hY⟩ : ∃ Y, Y = w24.alloc (.cells #[.int .u8 k24, .int .i64 n24, .string t24, .slice A24 len24 cap24, .int .i64 r24] 26) := ⟨_, rfl⟩
          have hay : Below w24.heap.size w24 Y := by rw [hY]; exact (Below.refl _ _).alloc (Nat.le_refl _) _
          have HBY : Hid (Below wr.heap.size wr Y) := Lib.hid (bnext HB23.out (bnext HB24.out hay))
          have hyb : BlkN Y w24.heap.size 26 #[.int .u8 k24, .int .i64 n24, .string t24, .slice A24 len24 cap24, .int .i64 r24] := by rw [hY]; exact BlkN.at_ rfl _ _
          have hvy : IsVa Y w24.heap.size (.agg #[.int .u8 k24, .int .i64 n24, .string t24, .slice A24 len24 cap24, .int .i64 r24]) x := (HV24.out.mono fun b o h => h.lt).keep fun b _ h => hay.block b h
          have HVY := Lib.hid hvy
          have HYB := Lib.hid hyb
          have hyl : w24.heap.size < Y.heap.size := hyb.lt
          rw [← hY]
          clear hY hay hvy hyb h20 hlo20 hs21 C37 C38 HV20 HV21 HV22
          obtain ⟨x0, x1, x2, x3, x4, hxl⟩ := PX.out Y HBY.out
          go_wp2_with (first
            | (go_at_call 25; refine (C25.out _ HBY.out).mono ?_; rintro e w25 ⟨rfl, hb25⟩; have HB25 := Lib.hid (bnext HBY.out hb25); have HC25 := Lib.hid hb25; clear x0 x1 x2 x3 x4 hxl; obtain ⟨x0, x1, x2, x3, x4, hxl⟩ := PX.out w25 HB25.out; have hyb := HYB.out.below hb25; have y0 := hyb.cell 0 rfl; have y1 := hyb.cell 1 rfl; have y2 := hyb.cell 2 rfl; have y3 := hyb.cell 3 rfl; have y4 := hyb.cell 4 rfl; clear hb25 hyb)
            | (go_at_call 26; refine (alike_any x x w25 w24.heap.size w.heap.size _ _ (HVY.out.keep fun b h => HC25.out.block b (by omega)) (KX.out w25 HB25.out) (by have := HC25.out.size; omega) (KS.out w25 HB25.out)).mono ?_; rw [sameV_refl]; rintro e w26 ⟨rfl, hb26⟩; have HB26 := Lib.hid (bnext HB25.out hb26); clear hb26)
            | (go_at_call 15; refine (C15.out _ HB26.out).mono ?_; rintro e w27 ⟨rfl, hb27⟩))
          go_ret
          exact ⟨rfl, bnext HBW.out (bnext HB26.out hb27)⟩
      · rw [hm1] at CL
        have HM2 := Lib.hid hm2
        have HM4 := Lib.hid hm4
        clear hm1 hm2 hm4
        go_upto_region 15 with (first | (go_at_call 20; refine CL.out.mono ?_; rintro e w10 ⟨hb10, A10, cap10, rfl, hv10⟩; have HB10 := Lib.hid (bnext HB8.out hb10); have HV10 := Lib.hid hv10; clear hb10 hv10))
        have HM : Hid (∀ w', Below w10.heap.size w10 w' → IsTks w' w10.heap.size (.slice A10 m.length cap10) m) := Lib.hid (fun w' hb => (HV10.out.tks (by omega) (fun g hg => (HV10.out.blk hg).2)).keep fun b h => hb.block b h)
        have CJ := join_any w10 (HM.out w10 (Below.refl _ _)) (Nat.le_refl _) HM4.out (HV.out.tab.on HB10.out)
        rw [HM2.out] at CJ
        have CJ := Lib.hid CJ
        have hts : (txtV t).size ≤ s.size + m.length := hm3
        have htl : (txtV t).size ≤ 1048576 := by omega
        clear CL hm3
        go_upto_region 18 with (first | (go_at_call 28; refine CJ.out.mono ?_; rintro e w11 ⟨hb11, rfl⟩; have HC11 := Lib.hid hb11; have HB11 := Lib.hid (bnext HB10.out hb11); clear hb11))
        obtain ⟨k, hk1, hk2, hk3⟩ := cutY_join m HM4.out t HM2.out
        have CT := cut_any (txtV t) (by omega) w11 _ _ (varB HE.out HB11.out)
        have CT := CT.mono fun e w' h => And.intro h.1 h.2.y
        rw [hk1] at CT
        have CT := Lib.hid CT
        have hkl : k.length ≤ 1048577 := by have := cutY_len (txtV t); rw [hk1] at this; exact this
        have HK2 := Lib.hid hk2
        clear hk1 hk2 hk3 hts htl CJ
        go_upto_region 21 with (first
          | (go_at_call 20; refine CT.out.mono ?_; rintro e w12 ⟨hb12, A12, cap12, rfl, hv12⟩; have HC12 := Lib.hid (bnext HC11.out hb12); have HB12 := Lib.hid (bnext HB11.out hb12); have HV12 := Lib.hid hv12; clear hb12 hv12)
          | (go_at_call 36; refine (places_any k m (txtV t) w12 w12.heap.size w10.heap.size _ _ (HV12.out.tks (by omega) (fun g hg => (HV12.out.blk hg).2)) (HM.out w12 HC12.out) (Nat.le_refl _) HC12.out.size HK2.out).mono ?_; rintro e w13 ⟨rfl, hb13⟩; have HB13 := Lib.hid (bnext HB12.out hb13); clear hb13))
        obtain ⟨W10, hW10⟩ : ∃ W, W = w13 := ⟨_, rfl⟩
        have HB10 : Hid (Below wr.heap.size wr W10) := Lib.hid (by rw [hW10]; exact HB13.out)
        rw [← hW10]
        clear hW10 CT HM HK2 HV12 HV10
        cases hmx : mayV x with
        | false =>
          have HTX := tokX_not x hmx
          have C37 := Lib.hid (Tokens_any W10 (KX.out W10 HB10.out) (KS.out W10 HB10.out) HF.out (HV.out.on HB10.out))
          rw [HTX] at C37
          clear HTX
          have C25 := Lib.hid (fun w' (hb : Below wr.heap.size wr w') => mayb_any w' (KX.out w' hb) (KS.out w' hb))
          have hmb : mayB x = false := by unfold mayB; rw [hmx, Bool.and_false]
          rw [hmb] at C25
          clear hmb hmx
          have p0 := PX.out W10 HB10.out
          obtain ⟨x0, x1, x2, x3, x4, hxl⟩ := p0
          go_wp2_with (first
            | (go_at_call 37; refine C37.out.mono ?_; rintro e w20 ⟨hb20, A20, cap20, rfl, hv20⟩; have HB20 := Lib.hid (bnext HB10.out hb20); clear hb20 hv20 x0 x1 x2 x3 x4 hxl; obtain ⟨x0, x1, x2, x3, x4, hxl⟩ := PX.out w20 HB20.out)
            | (go_at_call 25; refine (C25.out _ HB20.out).mono ?_; rintro e w21 ⟨rfl, hb21⟩; have HB21 := Lib.hid (bnext HB20.out hb21); clear hb21)
            | (go_at_call 15; refine (C15.out _ HB21.out).mono ?_; rintro e w22 ⟨rfl, hb22⟩))
          go_ret
          exact ⟨rfl, bnext HBW.out (bnext HB21.out hb22)⟩
        | true =>
          obtain ⟨TK, hTK⟩ : ∃ T, T = (tokX x).1 := ⟨_, rfl⟩
          have HTX := tokX_may x hmx HF.out
          have C37 := Tokens_any W10 (KX.out W10 HB10.out) (KS.out W10 HB10.out) HF.out (HV.out.on HB10.out)
          rw [HTX.1, ← hTK] at C37
          have C37 := Lib.hid C37
          rw [← hTK] at HTX
          obtain ⟨-, ht1, ht2, ht3⟩ := HTX
          have HT1 := Lib.hid ht1
          obtain ⟨kk, ht4⟩ := ht3 l
          have HT4 := Lib.hid ht4
          have C25 := Lib.hid (fun w' (hb : Below wr.heap.size wr w') => mayb_any w' (KX.out w' hb) (KS.out w' hb))
          have hmb : mayB x = true := by unfold mayB; rw [hmx, decide_eq_true HG.out]; rfl
          rw [hmb] at C25
          clear hmb hmx hTK ht1 ht3 ht4
          obtain ⟨x0, x1, x2, x3, x4, hxl⟩ := PX.out W10 HB10.out
          go_upto_region 22 with (first
            | (go_at_call 37; refine C37.out.mono ?_; rintro e w20 ⟨hb20, A20, cap20, rfl, hv20⟩; have HB20 := Lib.hid (bnext HB10.out hb20); have HV20 := Lib.hid hv20; clear hb20 hv20 x0 x1 x2 x3 x4 hxl))
          have h20 : ∀ g, (Value.slice A20 TK.length cap20).ownBlock = some g → g < w20.heap.size := fun g hg => (HV20.out.blk hg).2
          have hlo20 := HB10.out.size
          go_upto_region 25 with (first
            | (refine wpList_append_tks _ rfl (.tmp 136) (.tmp 137) rfl w20.heap.size w20.heap.size (.slice (some ⟨w20.heap.size, 0, Option.none⟩) 0 0) [] rfl (TRow.new0 w20) (.slice A20 TK.length cap20) TK rfl ((HV20.out.tks (by omega) h20).keep fun b hb => Below.heap_alloc _ _ _ (by omega)) (by simp; omega) (by simp) ?_
               intro v21 w21 hv21 hg21 ho21
               have hv21 : TRow w21 w20.heap.size v21 TK := by simpa using hv21
               have HB21 : Hid (Below w20.heap.size w20 w21) := Lib.hid (((Below.refl _ w20).alloc (Nat.le_refl _) _).grown hg21 (by simp) (fun g hg => by simp [Value.ownBlock] at hg; omega))
               have HV21 := Lib.hid hv21
               obtain ⟨A21, cap21, rfl, hcap21⟩ := hv21.slice
               have hs21 := HB21.out.size
               clear hv21 hg21 ho21)
            | (refine wpList_append_tks _ rfl (.tmp 138) (.tmp 139) rfl w20.heap.size w.heap.size (.slice A21 TK.length cap21) TK rfl HV21.out (.slice A l.length cap) l rfl (KT.out w21 (bnext HB20.out HB21.out)) (by omega) (by omega) ?_
               intro v22 w22 hv22 hg22 ho22
               have HB22 : Hid (Below w20.heap.size w20 w22) := Lib.hid (HB21.out.grown hg22 hs21 (fun g hg => (HV21.out.blk hg).1))
               have HV22 := Lib.hid hv22
               have HB23 : Hid (Below wr.heap.size wr w22) := Lib.hid (bnext HB20.out HB22.out)
               have C38 := front_any (TK ++ l) w22 w22.heap.size v22 (hv22.tks (by simp; omega) (fun g hg => (hv22.blk hg).2)) (Nat.le_refl _) (fun t ht => (List.mem_append.1 ht).elim (HT1.out t) (HTK.out t))
               have hfp : ∀ e w', FrontP (TK ++ l) w22.heap.size e w' → ∃ k n t A len cap r, e = .returned (.tuple #[.agg #[.int .u8 k, .int .i64 n, .string t, .slice A len cap, .int .i64 r], .int .i64 TK.length, .int .i64 0]) ∧ IsVaR w' (Own34 w' w22.heap.size) (.agg #[.int .u8 k, .int .i64 n, .string t, .slice A len cap, .int .i64 r]) x := fun e w' h => by
                 unfold FrontP at h
                 rw [HT4.out] at h
                 obtain ⟨v, rfl, h2⟩ := h
                 obtain ⟨k, n, t, A, len, cap, r, rfl⟩ := h2.shape
                 have e9 : (TK ++ l).length - l.length = TK.length := by simp
                 rw [e9]
                 exact ⟨_, _, _, _, _, _, _, rfl, h2⟩
               have C38 := Lib.hid (C38.mono fun e w' h => And.intro h.1 (hfp e w' h.2))
               clear hfp hv22 hg22 ho22)
            | (go_at_call 38; refine C38.out.mono ?_; rintro e w24 ⟨hb24, k24, n24, t24, A24, len24, cap24, r24, rfl, hv24⟩; have HB24 := Lib.hid hb24; have HV24 := Lib.hid hv24; clear hb24 hv24))
          obtain ⟨Y, hY⟩ : ∃ Y, Y = w24.alloc (.cells #[.int .u8 k24, .int .i64 n24, .string t24, .slice A24 len24 cap24, .int .i64 r24] 26) := ⟨_, rfl⟩
          have hay : Below w24.heap.size w24 Y := by rw [hY]; exact (Below.refl _ _).alloc (Nat.le_refl _) _
          have HBY : Hid (Below wr.heap.size wr Y) := Lib.hid (bnext HB23.out (bnext HB24.out hay))
          have hyb : BlkN Y w24.heap.size 26 #[.int .u8 k24, .int .i64 n24, .string t24, .slice A24 len24 cap24, .int .i64 r24] := by rw [hY]; exact BlkN.at_ rfl _ _
          have hvy : IsVa Y w24.heap.size (.agg #[.int .u8 k24, .int .i64 n24, .string t24, .slice A24 len24 cap24, .int .i64 r24]) x := (HV24.out.mono fun b o h => h.lt).keep fun b _ h => hay.block b h
          have HVY := Lib.hid hvy
          have HYB := Lib.hid hyb
          have hyl : w24.heap.size < Y.heap.size := hyb.lt
          rw [← hY]
          clear hY hay hvy hyb h20 hlo20 hs21 C37 C38 HV20 HV21 HV22
          obtain ⟨x0, x1, x2, x3, x4, hxl⟩ := PX.out Y HBY.out
          go_wp2_with (first
            | (go_at_call 25; refine (C25.out _ HBY.out).mono ?_; rintro e w25 ⟨rfl, hb25⟩; have HB25 := Lib.hid (bnext HBY.out hb25); have HC25 := Lib.hid hb25; clear x0 x1 x2 x3 x4 hxl; obtain ⟨x0, x1, x2, x3, x4, hxl⟩ := PX.out w25 HB25.out; have hyb := HYB.out.below hb25; have y0 := hyb.cell 0 rfl; have y1 := hyb.cell 1 rfl; have y2 := hyb.cell 2 rfl; have y3 := hyb.cell 3 rfl; have y4 := hyb.cell 4 rfl; clear hb25 hyb)
            | (go_at_call 26; refine (alike_any x x w25 w24.heap.size w.heap.size _ _ (HVY.out.keep fun b h => HC25.out.block b (by omega)) (KX.out w25 HB25.out) (by have := HC25.out.size; omega) (KS.out w25 HB25.out)).mono ?_; rw [sameV_refl]; rintro e w26 ⟨rfl, hb26⟩; have HB26 := Lib.hid (bnext HB25.out hb26); clear hb26)
            | (go_at_call 15; refine (C15.out _ HB26.out).mono ?_; rintro e w27 ⟨rfl, hb27⟩))
          go_ret
          exact ⟨rfl, bnext HBW.out (bnext HB26.out hb27)⟩
end Go.Proofs.YtkhpfghehjcfoaaDoor
