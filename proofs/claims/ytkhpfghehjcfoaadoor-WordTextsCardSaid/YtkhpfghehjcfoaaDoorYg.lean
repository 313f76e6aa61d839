/- The statement WordTexts: any values have the texts that the document says, one by one and in a row; they stay as they were. -/
import Derived.Test.YtkhpfghehjcfoaaDoorT
import Derived.Test.YtkhpfghehjcfoaaDoorXq
import Derived.Test.YtkhpfghehjcfoaaDoorXn
import Derived.Test.YtkhpfghehjcfoaaDoorXl
import Derived.Test.YtkhpfghehjcfoaaDoorXk
namespace Go.Proofs.YtkhpfghehjcfoaaDoor
open Go.ChangeShapes Go.WideShapes Go.ChangeAt Go.RowKit

theorem quiet_tail {P : Program} {ops : Array Oper} {Q : Exit → Act → World → Prop} {T : Nat → Bool} {S : World → Prop} (acts : List Nat) (os : List Oper) (he : acts.map (ops[·]?) = os.map some) (ht : acts.all (fun i => !T i) = true) {i : Nat} {oi : Oper} {v : Value} {a : Act} {w : World} (hi : ops[i]? = some oi) (hQ : ∀ c a w, Q (.panic c) (a.put oi.dst v) w → Q (.panic c) a w) (hw : Region.wanted oi (yielded ops a.tmps) = true) (hy : ∀ w, S w → (execOp a.eval oi).run P w = .ok (.value v) w)
    (h : wpList P ops Q os (a.put oi.dst v) w) : RegT.seqQ P ops Q T S acts [i] a w := RegT.quiet_step hi hQ hw hy (RegT.seqT_tail acts os he ht _ _ h)
theorem LRow.at2 {w : World} {lo : Nat} {A : Option Addr} {n cap : Nat} {vs : List Va} {xs : List Value} (h : LRow w lo (.slice A n cap) vs xs) (i : Nat) (hi : i < vs.length) :
    ∃ g o, A = some ⟨g, o, Option.none⟩ ∧ lo ≤ g ∧ g < w.heap.size ∧ ∃ k n' s A' len cap' r, At w g (o + i * 5) [.int .u8 k, .int .i64 n', .string s, .slice A' len cap', .int .i64 r] ∧ IsLtR w (fun b _ => b < w.heap.size) (.agg #[.int .u8 k, .int .i64 n', .string s, .slice A' len cap', .int .i64 r]) vs[i] := by
  have hb : ∀ g, (Value.slice A n cap).ownBlock = some g → lo ≤ g ∧ g < w.heap.size := fun g hg => h.blk hg
  obtain ⟨h1, h2⟩ := h
  rcases h1.2 with ⟨_, h0⟩ | ⟨g, cap', cur, he, hb', hg, hc, _, hcs, htake⟩
  · omega
  · simp only [Value.slice.injEq] at he
    obtain ⟨rfl, hn, rfl⟩ := he
    subst hn
    have hcell : ∀ j, j < vs.length * 5 → w.cell? ⟨g, j, Option.none⟩ = xs[j]? := fun j hj => h1.cellAt _ hj
    obtain ⟨c0, c1, c2, c3, c4, h3, h4⟩ := h2 i hi
    obtain ⟨k, n', s, A', len, cap', r, rfl, rfl, rfl, rfl, rfl⟩ := h4.cells
    refine ⟨g, 0, rfl, (hb g rfl).1, (hb g rfl).2, k, n', s, A', len, cap', r, fun j u hu => ?_, h4.mono fun b o hr => hr.1.lt⟩
    have hj : j < 5 := by have := (List.getElem?_eq_some_iff.1 hu).1; simpa using this
    rw [show 0 + i * 5 + j = i * 5 + j by omega, hcell _ (by omega)]
    exact h3 j u hu
theorem take_snoc {α : Type} (l : List α) (j : Nat) (h : j < l.length) : l.take j ++ [l[j]] = l.take (j + 1) := by
  rw [List.take_add_one, List.getElem?_eq_getElem h]; rfl
attribute [local irreducible] wpList
set_option maxRecDepth 100000 in
set_option maxHeartbeats 16000000 in
theorem texts_law (l : List Va) (v : Value) (w : World) (h : IsVl w w.heap.size v l) (hfit : Fits l) (hv : Vars w) :
    Calls Tryd.prog 10 #[v] w fun e w' => e = .returned (.bool true) ∧ Below w.heap.size w w' := by
  have HVL : Hid (∀ w', Below w.heap.size w w' → IsVl w' w.heap.size v l) := Lib.hid (fun w' hb => h.keep fun b hl => hb.block b hl)
  obtain ⟨hln, A, cap, hcap, rfl, h7⟩ := h
  have H7 := Lib.hid h7
  have HV := Lib.hid hv
  have HF := Lib.hid hfit
  have HFE : Hid (∀ x ∈ l, Fit x) := Lib.hid (fun x hx => hfit.at x hx)
  clear h7 hv hfit
  go_enter Tryd.func10, Tryd.ntmps10
  go_wp2_with fail
  go_loopw [3, 4, 5, 6, 7, 8, 9] (fun rv iv ix _ _ _ _ wr => ∃ (j : Nat) (rm : Int) (vs : List Va) (xs : List Value) (A2 : Option Addr) (cap2 : Nat), rv = .int .i64 rm ∧ iv = .slice A2 vs.length cap2 ∧ ix = .int .i64 j ∧ j ≤ l.length ∧ 0 ≤ rm ∧ rm + j ≤ 20000 ∧ vs = l.take j ∧ LRow wr w.heap.size (.slice A2 vs.length cap2) vs xs ∧ Below w.heap.size w wr) (fun _ _ ix _ _ _ _ _ => l.length - (intOf ix).toNat)
  case atStart => exact ⟨0, 20000, [], [], Option.none, 0, rfl, rfl, rfl, by omega, by omega, by omega, rfl, LRow.nil _ _, Below.refl _ _⟩
  case round =>
    obtain ⟨j, rm, vs, xs, A2, cap2, rfl, rfl, rfl, hj, hrm0, hrmj, hvs, hvr, hb⟩ := hrel
    have HVR := Lib.hid hvr
    have HB := Lib.hid hb
    have hvle : vs.length ≤ 20000 := by rw [hvs, List.length_take]; omega
    have HVS := Lib.hid hvs
    have hob : ∀ g', (Value.slice A2 vs.length cap2).ownBlock = some g' → w.heap.size ≤ g' ∧ g' < wr.heap.size := fun g' hg => hvr.blk hg
    clear hvr hb hvs
    by_cases hlt : j < l.length
    · obtain ⟨b, o, hbB, hA, hx⟩ := H7.out (by rintro rfl; simp at hlt)
      subst hA
      obtain ⟨k1, n1, s1, A1, len1, cap1, r1, hat, hx1⟩ := hx.at2 j hlt
      have hji : (j : Int) < l.length := by omega
      have HAT : Hid (∀ w', Below w.heap.size w w' → At w' b (o + j * 5) [.int .u8 k1, .int .i64 n1, .string s1, .slice A1 len1 cap1, .int .i64 r1]) := Lib.hid (fun w' hb => hat.keep hbB (fun b h => hb.block b (by omega)))
      have HX : Hid (∀ w', Below w.heap.size w w' → IsVa w' w.heap.size (.agg #[.int .u8 k1, .int .i64 n1, .string s1, .slice A1 len1 cap1, .int .i64 r1]) l[j]) := Lib.hid (fun w' hb => IsVa.keep (fun b h => hb.block b h) hx1)
      obtain ⟨gx, hgx⟩ : ∃ gx, gx = greatL l[j] rm := ⟨_, rfl⟩
      have C23 := Lib.hid (great_any l[j] wr w.heap.size _ rm (HX.out wr HB.out) HB.out.size (by omega) (by omega))
      rw [← hgx] at C23
      have HGX := Lib.hid hgx
      obtain ⟨e0, e1, e2, e3, e4⟩ := (HAT.out wr HB.out).five
      clear hat hx hx1 hgx
      go_upto_region 7 with (first | (go_at_call 23; refine C23.out.mono ?_; rintro e w1 ⟨⟨rfl, hgl⟩, hb1⟩))
      clear C23 e0 e1 e2 e3 e4
      have HB1 := Lib.hid (bnext HB.out hb1)
      have HVR1 := Lib.hid (HVR.out.below hb1)
      have hs1 : ∀ g', (Value.slice A2 vs.length cap2).ownBlock = some g' → w.heap.size ≤ g' ∧ g' < w1.heap.size := fun g' hg => HVR1.out.blk hg
      clear hb1 hob
      by_cases hg0 : gx < 0
      · go_wp2_with (first | (go_at_call 15; refine (awake_any _ (HV.out.on HB1.out)).mono ?_; rintro e w5 ⟨rfl, hb5⟩))
        go_ret
        exact ⟨rfl, bnext HB1.out hb5⟩
      have hgm : gx ≤ rm - 1 := by rw [HGX.out]; exact greatL_le _ _ hrm0
      have C31 := Lib.hid (lent_any l[j] w1 w.heap.size _ rm (HX.out w1 HB1.out) HB1.out.size (by rw [← HGX.out]; omega) (by omega))
      obtain ⟨e0, e1, e2, e3, e4⟩ := (HAT.out w1 HB1.out).five
      have hpw := HB1.out.size
      go_upto_region 10 with (first
        | (go_at_call 31; refine C31.out.mono ?_; rintro e w2 ⟨hb2, v2, rfl, hv2⟩
           obtain ⟨k3, n3, s3, A3, len3, cap3, r3, rfl⟩ := hv2.shape
           have HB2 := Lib.hid (bnext HB1.out hb2)
           have HVR2 := Lib.hid (HVR1.out.below hb2)
           have HV2 := Lib.hid hv2
           have hs2 := hb2.size
           clear hb2 hv2)
        | (refine wpList_append_lt _ rfl (.tmp 30) (.tmp 36) rfl w.heap.size w1.heap.size (.slice A2 vs.length cap2) vs xs rfl (HVR2.out.below ((Below.refl _ w2).alloc (Nat.le_refl _) (.cells #[.int .u8 k3, .int .i64 n3, .string s3, .slice A3 len3 cap3, .int .i64 r3] 26))) w2.heap.size (.int .u8 k3) (.int .i64 n3) (.string s3) (.slice A3 len3 cap3) (.int .i64 r3) l[j] rfl (BlkN.at_ rfl 26 _) (HV2.out.below ((Below.refl _ w2).alloc (Nat.le_refl _) _)) (by omega) (fun g' hg => (hs1 g' hg).2) (by omega) (by simp; omega) ?_
           intro v5 w5 xs5 hv5 hg5
           obtain ⟨ws, hws⟩ : ∃ ws, ws = vs ++ [l[j]] := ⟨_, rfl⟩
           rw [← hws] at hv5
           obtain ⟨A5, cap5, hsl5, hcap5⟩ := hv5.slice
           subst hsl5
           have hwsl : ws.length = j + 1 := by rw [hws, HVS.out]; simp; omega
           have HWL := Lib.hid hwsl
           have hwji : (j : Int) < ws.length := by omega
           have HWS : Hid (ws = l.take (j + 1)) := Lib.hid (by rw [hws, HVS.out, take_snoc])
           have HV5 := Lib.hid hv5
           have HB5 := Lib.hid ((HB2.out.alloc (by omega) (.cells #[.int .u8 k3, .int .i64 n3, .string s3, .slice A3 len3 cap3, .int .i64 r3] 26)).grown hg5 (by simp; omega) (fun g' hg => by have := (hs1 g' hg).1; omega))
           clear hws hwsl hv5 hg5))
      clear e0 e1 e2 e3 e4 C31
      obtain ⟨g, o5, hA5, hgl5, hgs5, k5, n5, s5, A6, len5, cap6, r5, hat5, hx5⟩ := HV5.out.at2 j (by have := HWL.out; omega)
      subst hA5
      have hwsj : ws[j]'(by have := HWL.out; omega) = l[j] := by simp only [HWS.out]; rw [List.getElem_take]
      rw [hwsj] at hx5
      have HAT5 : Hid (∀ w', Below w5.heap.size w5 w' → At w' g (o5 + j * 5) [.int .u8 k5, .int .i64 n5, .string s5, .slice A6 len5 cap6, .int .i64 r5]) := Lib.hid (fun w' hb => hat5.keep hgs5 (fun b h => hb.block b (by omega)))
      have HX5 : Hid (∀ w', Below w5.heap.size w5 w' → IsLtR w' (fun b _ => b < w5.heap.size) (.agg #[.int .u8 k5, .int .i64 n5, .string s5, .slice A6 len5 cap6, .int .i64 r5]) l[j]) := Lib.hid (fun w' hb => hx5.keep (fun b o hr => hb.block b hr))
      have hfx := HFE.out l[j] (List.getElem_mem hlt)
      have C24 := Lib.hid (fun w' (hb : Below w5.heap.size w5 w') => Text_any (B := w5.heap.size) w' (HX5.out w' hb).va hb.size hfx (HV.out.tab.on (bnext HB5.out hb)))
      have C32 := Lib.hid (fun w' (hb : Below w.heap.size w w') => rText_any w' (HX.out w' hb) hb.size hfx (HV.out.tab.on hb))
      have C33 := Lib.hid (fun w' (hb : Below w5.heap.size w5 w') => kept_any l[j] w' (fun b _ => b < w5.heap.size) w.heap.size _ _ (HX5.out w' hb) (fun b o hr => Nat.lt_of_lt_of_le hr hb.size) (HX.out w' (bnext HB5.out hb)) (bnext HB5.out hb).size)
      obtain ⟨st, hst⟩ : ∃ st, st = txtV (textR l[j]).1 := ⟨_, rfl⟩
      obtain ⟨er, her⟩ : ∃ er, er = (textR l[j]).2 := ⟨_, rfl⟩
      rw [← hst, ← her] at C24 C32
      obtain ⟨e0, e1, e2, e3, e4⟩ := hat5.five
      clear hst her hat5 hx5 hfx hwsj
      go_upto_region 11 with (first | (go_at_call 24; refine (C24.out _ (Below.refl _ _)).mono ?_; rintro e w6 ⟨hb6, rfl⟩))
      have HB6 := Lib.hid hb6
      clear e0 e1 e2 e3 e4 hb6
      obtain ⟨e0, e1, e2, e3, e4⟩ := (HAT.out w6 (bnext HB5.out HB6.out)).five
      go_upto_region 12 with (first | (go_at_call 32; refine (C32.out _ (bnext HB5.out HB6.out)).mono ?_; rintro e w7 ⟨hb7, rfl⟩))
      have HB7 := Lib.hid (bnext HB6.out hb7)
      clear e0 e1 e2 e3 e4 hb7
      refine RegT.region_seq (fun i => Nat.ble i 16) (fun W => True ∧ At W g (o5 + j * 5) [.int .u8 k5, .int .i64 n5, .string s5, .slice A6 len5 cap6, .int .i64 r5] ∧ At W b (o + j * 5) [.int .u8 k1, .int .i64 n1, .string s1, .slice A1 len1 cap1, .int .i64 r1]) [0, 1, 2, 3, 4, 5, 6, 7, 8, 9, 10, 11, 12, 13, 14, 15, 16] [17, 18, 19] (by kernel_rfl) (by kernel_rfl) (by decide +kernel) (by decide) ⟨trivial, HAT5.out w7 HB7.out, HAT.out w7 (bnext HB5.out HB7.out)⟩ ?_
      refine RegT.quiet_step rfl (fun _ _ _ h => h) (by kernel_rfl) (v := .string st) (fun w' hS => ?_) ?_
      · go_simp
      refine RegT.quiet_step rfl (fun _ _ _ h => h) (by kernel_rfl) (v := .string st) (fun w' hS => ?_) ?_
      · go_simp
      refine RegT.quiet_step rfl (fun _ _ _ h => h) (by kernel_rfl) (v := .bool false) (fun w' hS => ?_) ?_
      · have hst : (st.toList != st.toList) = false := by simp
        go_simp
      refine RegT.quiet_step rfl (fun _ _ _ h => h) (by kernel_rfl) (v := .bool false) (fun w' hS => ?_) ?_
      · go_simp
      refine RegT.quiet_step rfl (fun _ _ _ h => h) (by kernel_rfl) (v := .int .i64 er) (fun w' hS => ?_) ?_
      · go_simp
      refine RegT.quiet_step rfl (fun _ _ _ h => h) (by kernel_rfl) (v := .int .i64 er) (fun w' hS => ?_) ?_
      · go_simp
      refine RegT.quiet_step rfl (fun _ _ _ h => h) (by kernel_rfl) (v := .bool false) (fun w' hS => ?_) ?_
      · have her : (er != er) = false := by simp
        go_simp
      refine RegT.quiet_step rfl (fun _ _ _ h => h) (by kernel_rfl) (v := .bool false) (fun w' hS => ?_) ?_
      · go_simp
      refine RegT.quiet_step rfl (fun _ _ _ h => h) (by kernel_rfl) (v := .bool false) (fun w' hS => ?_) ?_
      · go_simp
      refine RegT.quiet_step rfl (fun _ _ _ h => h) (by kernel_rfl) (v := .slice (some ⟨g, o5, Option.none⟩) ws.length cap5) (fun w' hS => ?_) ?_
      · go_simp
      refine RegT.quiet_step rfl (fun _ _ _ h => h) (by kernel_rfl) (v := .int .i64 j) (fun w' hS => ?_) ?_
      · go_simp
      refine RegT.quiet_step rfl (fun _ _ _ h => h) (by kernel_rfl) (v := .pointer (some ⟨g, o5 + j * 5, Option.none⟩)) (fun w' hS => ?_) ?_
      · go_simp
      refine RegT.quiet_step rfl (fun _ _ _ h => h) (by kernel_rfl) (v := .agg #[.int .u8 k5, .int .i64 n5, .string s5, .slice A6 len5 cap6, .int .i64 r5]) (fun w' hS => ?_) ?_
      · obtain ⟨t0, t1, t2, t3, t4⟩ := hS.2.1.five; go_simp
      refine RegT.quiet_step rfl (fun _ _ _ h => h) (by kernel_rfl) (v := .slice (some ⟨b, o, Option.none⟩) l.length cap) (fun w' hS => ?_) ?_
      · go_simp
      refine RegT.quiet_step rfl (fun _ _ _ h => h) (by kernel_rfl) (v := .int .i64 j) (fun w' hS => ?_) ?_
      · go_simp
      refine RegT.quiet_step rfl (fun _ _ _ h => h) (by kernel_rfl) (v := .pointer (some ⟨b, o + j * 5, Option.none⟩)) (fun w' hS => ?_) ?_
      · go_simp
      refine quiet_tail [17, 18, 19] [_, _, _] rfl rfl rfl (fun _ _ _ h => h) (by kernel_rfl) (v := .agg #[.int .u8 k1, .int .i64 n1, .string s1, .slice A1 len1 cap1, .int .i64 r1]) (fun w' hS => ?_) ?_
      · obtain ⟨t0, t1, t2, t3, t4⟩ := hS.2.2.five; go_simp
      have HB7d := Lib.hid HB7.out.drew
      go_wp2_with (first | (go_at_call 33; refine (C33.out _ HB7d.out).mono ?_; rintro e w8 ⟨rfl, hb8⟩))
      simp only [RegT.NP]
      go_wp2_with fail
      go_roundw
      case rel => exact ⟨j + 1, gx, ws, xs5, _, cap5, rfl, rfl, by go_num, by omega, by omega, by omega, HWS.out, HV5.out.below (bnext HB7d.out hb8), bnext HB5.out (bnext HB7d.out hb8)⟩
      case measure => simp only [intOf]; omega
    · have hji : ¬ (j : Int) < l.length := by omega
      have HVE : Hid (vs = l) := Lib.hid (by rw [HVS.out, List.take_of_length_le (by omega)])
      have hll : l.length ≤ 20000 := by omega
      go_upto_region 15 with (first
        | (refine wpList_append_lt _ rfl (.tmp 74) (.tmp 76) rfl w.heap.size wr.heap.size (.slice A2 vs.length cap2) vs xs rfl (HVR.out.below ((Below.refl _ wr).alloc (Nat.le_refl _) (.cells #[.int .u8 78, .int .i64 0, .string ⟨#[]⟩, .slice Option.none 0 0, .int .i64 0] 26))) wr.heap.size (.int .u8 78) (.int .i64 0) (.string ⟨#[]⟩) (.slice Option.none 0 0) (.int .i64 0) (markV 78) rfl (BlkN.at_ rfl 26 _) (mark_is _ _ 78 (by decide) (by decide)) HB.out.size (fun g' hg => (hob g' hg).2) (by omega) (by simp; have := HB.out.size; omega) ?_
           intro v5 w5 xs5 hv5 hg5
           obtain ⟨A5, cap5, hsl5, hcap5⟩ := hv5.slice
           obtain ⟨n5, hn5⟩ : ∃ n5, n5 = (vs ++ [markV 78]).length := ⟨_, rfl⟩
           rw [← hn5] at hsl5 hcap5
           subst hsl5
           have HMK := Lib.hid (LRow.marked hv5)
           have hn5v : n5 = vs.length + 1 := by rw [hn5]; simp
           have hcc : (vs.length : Int) ≤ cap5 := by have := hcap5; omega
           have hcn : vs.length ≤ cap5 := by omega
           have hn5le : n5 ≤ 20001 := by omega
           have HB5 := Lib.hid ((HB.out.alloc (by have := HB.out.size; omega) (.cells #[.int .u8 78, .int .i64 0, .string ⟨#[]⟩, .slice Option.none 0 0, .int .i64 0] 26)).grown hg5 (by simp; have := HB.out.size; omega) (fun g' hg => by have := (hob g' hg).1; omega))
           clear hn5 hn5v hv5 hg5))
      obtain ⟨LN, hLN⟩ : ∃ LN, LN = vs.length := ⟨_, rfl⟩
      rw [← hLN]
      have hLN2 : LN = l.length := by rw [hLN, HVE.out]
      subst hLN2
      clear hLN hcc hcn
      have HM5 := HMK.out
      rw [HVE.out] at HM5
      obtain ⟨hcap1, g, hgo, hA0, hls0, hmk0⟩ := HM5
      obtain ⟨o5, hA5, hls, hmk⟩ : ∃ o5, A5 = some ⟨g, o5, Option.none⟩ ∧ IsLtsR w5 (fun b o => Own34 w5 w.heap.size b o ∧ b ≠ g) g o5 l ∧ w5.cell? ⟨g, o5 + l.length * 5, Option.none⟩ = some (.int .u8 78) := ⟨0, hA0, hls0, by rw [Nat.zero_add]; exact hmk0⟩
      clear hA0 hls0 hmk0
      subst hA5
      have hgs5 : g < w5.heap.size := hgo.lt
      have HLS : Hid (∀ w', Below w5.heap.size w5 w' → IsLtsR w' (fun b _ => b < w5.heap.size) g o5 l) := Lib.hid (fun w' hb => (IsLtsR.keep (fun b o hr => hb.block b hr) (hb.block g hgs5) (hls.mono fun b o hr => hr.1.lt)))
      have HMC : Hid (∀ w', Below w5.heap.size w5 w' → w'.cell? ⟨g, o5 + l.length * 5, Option.none⟩ = some (.int .u8 78)) := Lib.hid (fun w' hb => (World.cell?_of_block (w := w5) (hb.block g hgs5)).trans hmk)
      clear hls hmk hgo HMK
      have C34 := Lib.hid (fun w' (hb : Below w5.heap.size w5 w') => row_any (B := w5.heap.size) (v := .slice (some ⟨g, o5, Option.none⟩) l.length cap5) w' ⟨hln, _, cap5, by omega, rfl, fun _ => ⟨g, o5, hgs5, rfl, (HLS.out w' hb).va⟩⟩ hb.size HF.out hll (HV.out.tab.on (bnext HB5.out hb)))
      have C35 := Lib.hid (fun w' (hb : Below w.heap.size w w') => rrow_any w' (HVL.out w' hb) hb.size HF.out hll (HV.out.tab.on hb))
      obtain ⟨st, hst⟩ : ∃ st, st = txtV (rowR l).1 := ⟨_, rfl⟩
      obtain ⟨er, her⟩ : ∃ er, er = (rowR l).2 := ⟨_, rfl⟩
      rw [← hst, ← her] at C34 C35
      clear hst her
      go_upto_region 16 with (first | (go_at_call 34; refine (C34.out _ (Below.refl _ _)).mono ?_; rintro e w6 ⟨hb6, rfl⟩))
      have HB6 := Lib.hid hb6
      clear hb6
      go_upto_region 17 with (first | (go_at_call 35; refine (C35.out _ (bnext HB5.out HB6.out)).mono ?_; rintro e w7 ⟨hb7, rfl⟩))
      have HB7 := Lib.hid (bnext HB6.out hb7)
      clear hb7 C34 C35
      go_wp2_with fail
      go_loopw [14] (fun ix wr => ∃ (j : Nat), ix = .int .i64 j ∧ j ≤ l.length ∧ Below w5.heap.size w5 wr) (fun ix _ => l.length - (intOf ix).toNat)
      case atStart => exact ⟨0, rfl, by omega, HB7.out⟩
      case round =>
        obtain ⟨j, rfl, hj, hb⟩ := hrel
        have HB8 := Lib.hid hb
        clear hb
        by_cases hlt : j < l.length
        · obtain ⟨b, o, hbB, hA, hx⟩ := H7.out (by rintro rfl; simp at hlt)
          subst hA
          obtain ⟨k1, n1, s1, A1, len1, cap1, r1, hat, hx1⟩ := hx.at2 j hlt
          obtain ⟨k5, n5, s5, A6, len5, cap6, r5, hat5, hx5⟩ := (HLS.out _ HB8.out).at2 j hlt
          have hji : (j : Int) < l.length := by omega
          have HAT := Lib.hid (hat.keep hbB (fun b h => (bnext HB5.out HB8.out).block b (by omega)))
          have HAT5 := Lib.hid hat5
          have C33 := Lib.hid (fun w' (hb : Below wr.heap.size wr w') => kept_any l[j] w' (fun b _ => b < w5.heap.size) w.heap.size _ _ (hx5.keep fun b o hr => hb.block b (Nat.lt_of_lt_of_le hr HB8.out.size)) (fun b o hr => Nat.lt_of_lt_of_le hr (Nat.le_trans HB8.out.size hb.size)) (IsVa.keep (fun b h => (bnext HB5.out (bnext HB8.out hb)).block b h) hx1) (bnext HB5.out (bnext HB8.out hb)).size)
          clear hat hat5 hx hx1 hx5
          go_wp2_with fail
          refine RegT.region_seq (fun i => Nat.ble i 7) (fun W => True ∧ At W g (o5 + j * 5) [.int .u8 k5, .int .i64 n5, .string s5, .slice A6 len5 cap6, .int .i64 r5] ∧ At W b (o + j * 5) [.int .u8 k1, .int .i64 n1, .string s1, .slice A1 len1 cap1, .int .i64 r1]) [0, 1, 2, 3, 4, 5, 6, 7] [8, 9] (by kernel_rfl) (by kernel_rfl) (by decide +kernel) (by decide) ⟨trivial, HAT5.out, HAT.out⟩ ?_
          refine RegT.quiet_step rfl (fun _ _ _ h => h) (by kernel_rfl) (v := .slice (some ⟨g, o5, Option.none⟩) l.length cap5) (fun w' hS => ?_) ?_
          · go_simp
          refine RegT.quiet_step rfl (fun _ _ _ h => h) (by kernel_rfl) (v := .int .i64 j) (fun w' hS => ?_) ?_
          · go_simp
          refine RegT.quiet_step rfl (fun _ _ _ h => h) (by kernel_rfl) (v := .pointer (some ⟨g, o5 + j * 5, Option.none⟩)) (fun w' hS => ?_) ?_
          · go_simp
          refine RegT.quiet_step rfl (fun _ _ _ h => h) (by kernel_rfl) (v := .agg #[.int .u8 k5, .int .i64 n5, .string s5, .slice A6 len5 cap6, .int .i64 r5]) (fun w' hS => ?_) ?_
          · obtain ⟨t0, t1, t2, t3, t4⟩ := hS.2.1.five; go_simp
          refine RegT.quiet_step rfl (fun _ _ _ h => h) (by kernel_rfl) (v := .slice (some ⟨b, o, Option.none⟩) l.length cap) (fun w' hS => ?_) ?_
          · go_simp
          refine RegT.quiet_step rfl (fun _ _ _ h => h) (by kernel_rfl) (v := .int .i64 j) (fun w' hS => ?_) ?_
          · go_simp
          refine RegT.quiet_step rfl (fun _ _ _ h => h) (by kernel_rfl) (v := .pointer (some ⟨b, o + j * 5, Option.none⟩)) (fun w' hS => ?_) ?_
          · go_simp
          refine RegT.quiet_step rfl (fun _ _ _ h => h) (by kernel_rfl) (v := .agg #[.int .u8 k1, .int .i64 n1, .string s1, .slice A1 len1 cap1, .int .i64 r1]) (fun w' hS => ?_) ?_
          · obtain ⟨t0, t1, t2, t3, t4⟩ := hS.2.2.five; go_simp
          refine RegT.seqT_tail [8, 9] [_, _] rfl rfl _ _ ?_
          go_wp2_with (first | (go_at_call 33; refine (C33.out _ (Below.refl _ wr).drew).mono ?_; rintro e w8 ⟨rfl, hb8⟩))
          simp only [RegT.NP]
          go_wp2_with fail
          go_roundw
          case rel => exact ⟨j + 1, by go_num, by omega, bnext HB8.out.drew hb8⟩
          case measure => simp only [intOf]; omega
        · have hji : ¬ (j : Int) < l.length := by omega
          have hst : (st.toList == st.toList) = true := by simp
          have her : (er == er) = true := by simp
          have hmk := HMC.out _ HB8.out
          go_wp2_with (first | (go_at_call 15; refine (awake_any _ (HV.out.on (bnext HB5.out HB8.out))).mono ?_; rintro e w9 ⟨rfl, hb9⟩))
          go_ret
          exact ⟨rfl, bnext (bnext HB5.out HB8.out) hb9⟩
theorem wordTexts_reads (os : Os) {H : Type} (enc : TypeId × Value → H) : ∃ places, DataW.whole enc Tryd.prog ((World.doorLaid Tryd.prog 4000 os).forCall (fun _ _ => 0) ⟨#[], #[.slice Option.none 0 0], []⟩).memory Tryd.f10.params.toList Rows.wordTextsSpec.vars false (#[.slice Option.none 0 0] : Array Value).toList 8 = some ([.nil], [], places) :=
  ⟨[], by kernel_rfl⟩
set_option maxRecDepth 100000 in
theorem wordTexts_lifted (os : Os) (started : os.Started) (H : Type) (enc : TypeId × Value → H) (F : Stop.Interp) :
    ReturnsInHanded {} Tryd.checked os 10 .any ((OpenSpec.ofChange Rows.wordTextsSpec).preRow enc Tryd.prog Tryd.f10 Rows.wordTextsRow.domain false Rows.wordTextsRow.laid) (((OpenSpec.ofChange Rows.wordTextsSpec).at F).post enc Tryd.prog Tryd.f10 false true false false) := by
  obtain ⟨places, hx⟩ := wordTexts_reads os enc
  refine returnsInHanded_of_row (C := Tryd.checked) (s := OpenSpec.ofChange Rows.wordTextsSpec) own started (by kernel_rfl) Tryd.func10
    (witness_row_atRef (enc := enc) (C := Tryd.checked) false (World.doorLaid Tryd.prog 4000 os) #[.slice Option.none 0 0] rfl (by kernel_rfl) (by kernel_rfl) (by kernel_rfl)
      (OpenSpec.preRow_of_cond 8 hx (by kernel_rfl) (fun k hk => by cases hk) (by kernel_rfl) (laidRun_met os _))) ?_
  intro W base args ds gs before hval hW _ hcond hsz hL _ _
  have hv := vars_of_laid hL
  refine LawRow.law_contract (tb := 4) (fn := Tryd.f10) (s := Rows.wordTextsSpec) (by kernel_rfl) (by kernel_rfl) rfl rfl Tryd.underlying4 (fun ds h => ?_) hW (fun p hA0 hlt hgs => ?_)
  · match ds, h with
    | [_], _ => rfl
  · have hA : DataW.TrodAll enc Tryd.prog W 0 (fun _ => true) true Tryd.f10.params.toList args.toList ds p := hA0
    subst hgs
    rw [Tryd.params10] at hA hval
    obtain ⟨v, d, rfl, rfl, hd⟩ := trodAll_one hA
    obtain ⟨l, hl, hf⟩ := open_arg23 (hval 0 23 v rfl rfl) hd (fun q hq => hlt q hq) hsz
    exact texts_law l v W hl hf hv
theorem wordTexts_holds : Rows.WordTextsSaid :=
  OpenClaim.holds_of_cond 10 Tryd.f10 rfl rfl rfl rfl rfl rfl rfl ⟨rfl, rfl, rfl, rfl, rfl⟩ rfl rfl rfl rfl rfl (by kernel_rfl) Tryd.func10 (by kernel_rfl)
    (of_decide_eq_true (by kernel_rfl)) (by unfold Func.isWrapper; first | (rw [if_pos (by decide +kernel)]; kernel_rfl) | (rw [if_neg (by decide +kernel)]; exact ⟨rfl, rfl⟩))
    (fun os started H enc _ F => by rw [OpenClaim.pre_eq_preRow]; exact wordTexts_lifted os started H enc F)
theorem wordTexts_plain (f : FuncId) (fn : Func) (hf : Tryd.pinned.checked.prog.funcNamed "postern/posternlaw03.WordTexts" = some f) (hfn : Tryd.pinned.checked.prog.funcs[f]? = some fn) :
    true = Tryd.pinned.checked.prog.looks [] ∧ ∀ (j : Nat) t, fn.params[j]? = some t → Tryd.pinned.checked.prog.wantsStandIn t = false := by
  obtain rfl : f = 10 := Option.some.inj ((show Tryd.prog.funcNamed "postern/posternlaw03.WordTexts" = some 10 by kernel_rfl).symm.trans hf) |>.symm
  obtain rfl : fn = Tryd.f10 := (Option.some.inj (Tryd.func10.symm.trans hfn)).symm
  refine ⟨by kernel_rfl, fun j t ht => ?_⟩
  have hall : (Tryd.f10.params.toList.all fun u => !Tryd.prog.wantsStandIn u) = true := by kernel_rfl
  have hm : t ∈ Tryd.f10.params.toList := by simpa using Array.mem_of_getElem? ht
  exact (show Tryd.prog.wantsStandIn t = false by simpa using List.all_eq_true.1 hall t hm)
theorem wordTexts_card : Rows.WordTextsCardSaid :=
  Claim7.holds_tied_plain_at .later [] _ _ _ _ wordTexts_holds (fun _ h => by cases h) (by kernel_rfl) (fun _ h => by cases h) wordTexts_row_tie rfl ⟨rfl, rfl⟩ (by kernel_rfl) rfl wordTexts_plain (by kernel_rfl)
end Go.Proofs.YtkhpfghehjcfoaaDoor
