/- The statements' lent: a value whose lists have a mark behind. -/
import Derived.Test.YtkhpfghehjcfoaaDoorXo
namespace Go.Proofs.YtkhpfghehjcfoaaDoor
open Go.RowKit

def LentC (x : Va) : Prop := ∀ (w : World) (B : Nat) (v : Value) (room : Int), IsVa w B v x → B ≤ w.heap.size → 0 ≤ greatL x room → room ≤ 20000 →
  Calls Tryd.prog 31 #[v] w fun e w' => Below w.heap.size w w' ∧ ∃ v', e = .returned v' ∧ IsLtR w' (Own34 w' w.heap.size) v' x
attribute [local irreducible] wpList
set_option maxRecDepth 100000 in
set_option maxHeartbeats 8000000 in
theorem lent_any (x : Va) : LentC x := by
  induction x using Va.ind with
  | h k n s l r IH =>
  intro w B v room h hB hg hroom
  obtain ⟨h1, h2, h3, h4, A, cap, h5, rfl, h7⟩ := h.form
  obtain ⟨i0, hi0, hz0, hz1, hz2⟩ := info_parts info34
  have hln := h.len
  have HI := Lib.hid IH
  have H7 := Lib.hid h7
  have hge : 0 ≤ greatLs l (room - 1 - (s.size / 64 : Nat)) := by
    unfold greatL at hg
    by_cases hr : room < 0
    · rw [if_pos hr] at hg; omega
    · rw [if_neg hr] at hg; exact hg
  obtain ⟨hle1, hle2⟩ := great_elems l _ hge
  have hll : l.length ≤ 20000 := by omega
  have HEL : Hid (∀ x ∈ l, ∃ r, r ≤ 20000 ∧ 0 ≤ greatL x r) := Lib.hid (fun x hx => by
    obtain ⟨r, g1, g2, g3⟩ := hle2 x hx
    exact ⟨r, by omega, g3⟩)
  clear h h7 IH hge hle1 hle2 hg
  go_enter Tryd.func31, Tryd.ntmps31
  go_upto_region 1 with fail
  obtain ⟨p, hp⟩ : ∃ p, p = w.heap.size := ⟨_, rfl⟩
  obtain ⟨W, hW⟩ : ∃ W, W = (w.alloc (.cells #[.int .u8 k, .int .i64 n, .string s, .slice A l.length cap, .int .i64 r] 26)).alloc (.cells #[.int .u8 0, .int .i64 0, .string ⟨#[]⟩, .slice Option.none 0 0, .int .i64 0] 26) := ⟨_, rfl⟩
  have HP : Hid (BlkN W p 26 #[.int .u8 k, .int .i64 n, .string s, .slice A l.length cap, .int .i64 r]) := Lib.hid (by rw [hW, hp]; exact (BlkN.at_ rfl _ _).alloc _)
  have HZ : Hid (BlkN W (p + 1) 26 #[.int .u8 0, .int .i64 0, .string ⟨#[]⟩, .slice Option.none 0 0, .int .i64 0]) := Lib.hid (by rw [hW, hp]; exact BlkN.at_ (by simp) _ _)
  have HB : Hid (Below p w W) := Lib.hid (by rw [hW, hp]; exact ((Below.refl _ _).alloc (Nat.le_refl _) _).alloc (by simp) _)
  have HPW := Lib.hid hp
  have hBp : B ≤ p := by rw [hp]; exact hB
  rw [← hW, ← hp]
  clear hW hp hB
  have hpl := HP.out.lt
  have hzl := HZ.out.lt
  by_cases hl0 : l = []
  · subst hl0
    simp only [List.length_nil] at HP ⊢
    have t0 := HP.out.cell 0 rfl
    have t1 := HP.out.cell 1 rfl
    have t2 := HP.out.cell 2 rfl
    have t3 := HP.out.cell 3 rfl
    have t4 := HP.out.cell 4 rfl
    have z0 := HZ.out.cell 0 rfl
    have y0 := HZ.out.free 0
    have z1 := HZ.out.cell 1 rfl
    have y1 := HZ.out.free 1
    have z2 := HZ.out.cell 2 rfl
    have y2 := HZ.out.free 2
    have z3 := HZ.out.cell 3 rfl
    have y3 := HZ.out.free 3
    have z4 := HZ.out.cell 4 rfl
    have y4 := HZ.out.free 4
    go_wp2_with fail
    obtain ⟨V', hV', hB3, hbut3⟩ := set5_done HZ.out (.int .u8 k) (.int .i64 n) (.string s) (.slice A 0 cap) (.int .i64 r)
    rw [hV']
    refine bodyPost_ret (results_cell1 (s := 2) (b := p + 1) rfl Tryd.underlying26 hi0 rfl hB3 (by rw [hz1]; rfl)) rfl ⟨?_, _, rfl, ?_⟩
    · rw [← HPW.out]; exact hbut3.below (by omega) HB.out
    · unfold IsLtR
      exact ⟨h1, h2, h3, by simp, A, cap, by simp, rfl, fun h => absurd rfl h⟩
  have hlp : 0 < l.length := List.length_pos_iff.2 hl0
  have t0 := HP.out.cell 0 rfl
  have t1 := HP.out.cell 1 rfl
  have t2 := HP.out.cell 2 rfl
  have t3 := HP.out.cell 3 rfl
  have t4 := HP.out.cell 4 rfl
  have hl00 : ((l.length : Int) == 0) = false := by rw [beq_eq_false_iff_ne]; omega
  go_upto_region 4 with fail
  obtain ⟨X, hX⟩ : ∃ X, X = W.alloc (.cells #[.int .u8 k, .int .i64 n, .string s, .slice A l.length cap, .int .i64 r] 26) := ⟨_, rfl⟩
  obtain ⟨g, hg⟩ : ∃ g, g = W.heap.size := ⟨_, rfl⟩
  have HPX := Lib.hid (show BlkN X p 26 _ by rw [hX]; exact HP.out.alloc _)
  have HZX := Lib.hid (show BlkN X (p + 1) 26 _ by rw [hX]; exact HZ.out.alloc _)
  have HOX := Lib.hid (show BlkN X g 26 #[.int .u8 k, .int .i64 n, .string s, .slice A l.length cap, .int .i64 r] by rw [hX, hg]; exact BlkN.at_ rfl _ _)
  have HBX := Lib.hid (show Below p w X by rw [hX]; exact HB.out.alloc (by omega) _)
  have hgp : p + 1 < g := by rw [hg]; exact hzl
  rw [← hX, ← hg]
  clear hX hg t0 t1 t2 t3 t4 hpl hzl
  have hol := HOX.out.lt
  have o3 := HOX.out.cell 3 rfl
  have q3 := HOX.out.free 3
  go_upto_region 5 with fail
  obtain ⟨Y, hY⟩ : ∃ Y, Y = X.setCell ⟨g, 3, Option.none⟩ (.slice Option.none 0 0) := ⟨_, rfl⟩
  have HPY := Lib.hid (show BlkN Y p 26 _ by rw [hY]; exact HPX.out.setOther (q := ⟨g, 3, Option.none⟩) (by show p ≠ g; omega) _)
  have HZY := Lib.hid (show BlkN Y (p + 1) 26 _ by rw [hY]; exact HZX.out.setOther (q := ⟨g, 3, Option.none⟩) (by show p + 1 ≠ g; omega) _)
  have HOY := Lib.hid (show BlkN Y g 26 #[.int .u8 k, .int .i64 n, .string s, .slice Option.none 0 0, .int .i64 r] by rw [hY]; have := BlkN.set HOX.out 3 (.slice Option.none 0 0); simpa using this)
  have HBY := Lib.hid (show Below p w Y by rw [hY]; exact HBX.out.setCell (p := ⟨g, 3, Option.none⟩) (by show p ≤ g; omega) _)
  rw [← hY]
  clear hY o3 q3 hol HP HZ HB HPX HZX HOX HBX
  go_wp2_with fail
  go_loopw [4] (fun ix wr => ∃ (j : Nat) (vs : List Va) (xs : List Value) (A2 : Option Addr) (cap2 : Nat), ix = .int .i64 j ∧ j ≤ l.length ∧ vs = l.take j ∧ LRow wr (g + 1) (.slice A2 vs.length cap2) vs xs ∧ BlkN wr p 26 #[.int .u8 k, .int .i64 n, .string s, .slice A l.length cap, .int .i64 r] ∧ BlkN wr (p + 1) 26 #[.int .u8 0, .int .i64 0, .string ⟨#[]⟩, .slice Option.none 0 0, .int .i64 0] ∧ BlkN wr g 26 #[.int .u8 k, .int .i64 n, .string s, .slice A2 vs.length cap2, .int .i64 r] ∧ Below p w wr) (fun ix _ => l.length - (intOf ix).toNat)
  case atStart => exact ⟨0, [], [], Option.none, 0, rfl, by omega, rfl, LRow.nil _ _, HPY.out, HZY.out, HOY.out, HBY.out⟩
  case round =>
    obtain ⟨j, vs, xs, A2, cap2, rfl, hj, hvs, hv, hp, hz, ho, hb⟩ := hrel
    have HVJ := Lib.hid hv
    have HPJ := Lib.hid hp
    have HZJ := Lib.hid hz
    have HOJ := Lib.hid ho
    have HBJ := Lib.hid hb
    have hvl : vs.length = j := by rw [hvs, List.length_take]; omega
    have HVL := Lib.hid hvl
    have hvle : vs.length ≤ 20000 := by omega
    clear hvl
    have HVS := Lib.hid hvs
    have hpl := hp.lt
    have hzl := hz.lt
    have hol := ho.lt
    have p3 := hp.cell 3 rfl
    clear hv hp hz ho hb hvs
    by_cases hlt : j < l.length
    · obtain ⟨b, o, hbB, hA, hx⟩ := H7.out hl0
      subst hA
      obtain ⟨k1, n1, s1, A1, len1, cap1, r1, hat, hx1⟩ := hx.at2 j hlt
      have hji : (j : Int) < l.length := by omega
      have HAT := Lib.hid (hat.keep hbB (fun b hb => HBJ.out.block b (by omega)))
      obtain ⟨rm, hrm1, hrm2⟩ := HEL.out l[j] (List.getElem_mem hlt)
      have C31 := Lib.hid (HI.out l[j] (List.getElem_mem hlt) wr.drew B _ rm (IsVa.keep (w' := wr.drew) (fun b hb' => HBJ.out.block b (by omega)) hx1) (by have := HBJ.out.size; have := HPW.out; show B ≤ wr.heap.size; omega) hrm2 hrm1)
      have hob : ∀ g', (Value.slice A2 vs.length cap2).ownBlock = some g' → g + 1 ≤ g' ∧ g' < wr.heap.size := fun g' hg => HVJ.out.blk hg
      have hpw : p ≤ wr.heap.size := by omega
      clear hat hx hx1
      go_upto_region 8 with fail
      clear p3
      refine RegT.region_mix (fun i => Nat.ble i 10) (fun V => BlkN V g 26 #[.int .u8 k, .int .i64 n, .string s, .slice A2 vs.length cap2, .int .i64 r] ∧ BlkN V p 26 #[.int .u8 k, .int .i64 n, .string s, .slice (some ⟨b, o, Option.none⟩) l.length cap, .int .i64 r] ∧ At V b (o + j * 5) [.int .u8 k1, .int .i64 n1, .string s1, .slice A1 len1 cap1, .int .i64 r1]) [(true, 0), (true, 1), (true, 2), (true, 3), (true, 4), (true, 5), (true, 6), (false, 7), (false, 8), (false, 9), (true, 10), (false, 11)] rfl (by kernel_rfl) (by kernel_rfl) (by decide) ?_
      have hS0 : BlkN wr.drew g 26 #[.int .u8 k, .int .i64 n, .string s, .slice A2 vs.length cap2, .int .i64 r] ∧ BlkN wr.drew p 26 #[.int .u8 k, .int .i64 n, .string s, .slice (some ⟨b, o, Option.none⟩) l.length cap, .int .i64 r] ∧ At wr.drew b (o + j * 5) [.int .u8 k1, .int .i64 n1, .string s1, .slice A1 len1 cap1, .int .i64 r1] := ⟨HOJ.out, HPJ.out, HAT.out⟩
      refine RegT.seqM_quiet hS0 rfl (fun _ _ _ h => h) (by kernel_rfl) (v := .pointer (some ⟨g, 3, Option.none⟩)) (fun w' hS => ?_) ?_
      · go_simp
      refine RegT.seqM_quiet hS0 rfl (fun _ _ _ h => h) (by kernel_rfl) (v := .slice A2 vs.length cap2) (fun w' hS => ?_) ?_
      · have u3 := hS.1.cell 3 rfl; go_simp
      refine RegT.seqM_quiet hS0 rfl (fun _ _ _ h => h) (by kernel_rfl) (v := .pointer (some ⟨p, 3, Option.none⟩)) (fun w' hS => ?_) ?_
      · go_simp
      refine RegT.seqM_quiet hS0 rfl (fun _ _ _ h => h) (by kernel_rfl) (v := .slice (some ⟨b, o, Option.none⟩) l.length cap) (fun w' hS => ?_) ?_
      · have u3 := hS.2.1.cell 3 rfl; go_simp
      refine RegT.seqM_quiet hS0 rfl (fun _ _ _ h => h) (by kernel_rfl) (v := .int .i64 j) (fun w' hS => ?_) ?_
      · go_simp
      refine RegT.seqM_quiet hS0 rfl (fun _ _ _ h => h) (by kernel_rfl) (v := .pointer (some ⟨b, o + j * 5, Option.none⟩)) (fun w' hS => ?_) ?_
      · go_simp
      refine RegT.seqM_quiet hS0 rfl (fun _ _ _ h => h) (by kernel_rfl) (v := .agg #[.int .u8 k1, .int .i64 n1, .string s1, .slice A1 len1 cap1, .int .i64 r1]) (fun w' hS => ?_) ?_
      · obtain ⟨u0, u1, u2, u3, u4⟩ := hS.2.2.five; go_simp
      refine RegT.seqM_held rfl ?_
      clear hS0
      go_wp2_with (first | (go_at_call 31; refine C31.out.mono ?_; rintro e w4 ⟨hb4, v4, rfl, hv4⟩))
      obtain ⟨k3, n3, s3, A3, len3, cap3, r3, rfl⟩ := hv4.shape
      have hb4' : Below wr.heap.size wr w4 := (((Below.refl _ wr).drew)).trans hb4
      have hs4 := hb4'.size
      have HL4 := Lib.hid (HOJ.out.below hb4')
      have HP4 := Lib.hid (HPJ.out.below hb4')
      have HZ4 := Lib.hid (HZJ.out.below hb4')
      have HV4 := Lib.hid (HVJ.out.below hb4')
      have HB4 := Lib.hid (HBJ.out.trans (hb4'.mono hpw))
      have HAT4 := Lib.hid (HAT.out.keep (show b < p by omega) (fun b hb => hb4'.block b (by omega)))
      have HX4 : Hid (IsLtR w4 (Own34 w4 wr.heap.size) (.agg #[.int .u8 k3, .int .i64 n3, .string s3, .slice A3 len3 cap3, .int .i64 r3]) l[j]) := Lib.hid hv4
      have hg4 := HL4.out.lt
      clear hb4 hb4' hv4 C31
      refine ⟨⟨HL4.out, HP4.out, HAT4.out⟩, RegT.seqM_held rfl ?_⟩
      go_wp2_with fail
      have hax : Below w4.heap.size w4 (w4.alloc (.cells #[.int .u8 k3, .int .i64 n3, .string s3, .slice A3 len3 cap3, .int .i64 r3] 26)) := (Below.refl _ _).alloc (Nat.le_refl _) _
      refine ⟨⟨BlkN.alloc HL4.out _, BlkN.alloc HP4.out _, HAT4.out.keep (show b < p by omega) (fun b hb => hax.block b (by omega))⟩, RegT.seqM_held rfl ?_⟩
      clear hax
      go_wp2_with (first
        | (refine wpList_append_lt _ rfl (.tmp 20) (.tmp 27) rfl (g + 1) wr.heap.size (.slice A2 vs.length cap2) vs xs rfl (HV4.out.below ((Below.refl _ w4).alloc (Nat.le_refl _) (.cells #[.int .u8 k3, .int .i64 n3, .string s3, .slice A3 len3 cap3, .int .i64 r3] 26))) w4.heap.size (.int .u8 k3) (.int .i64 n3) (.string s3) (.slice A3 len3 cap3) (.int .i64 r3) l[j] rfl (BlkN.at_ rfl 26 _) (HX4.out.below ((Below.refl _ w4).alloc (Nat.le_refl _) _)) (by omega) (fun g' hg => (hob g' hg).2) (by omega) (by simp; omega) ?_
           intro v5 w5 xs5 hv5 hg5
           obtain ⟨ws, hws⟩ : ∃ ws, ws = vs ++ [l[j]] := ⟨_, rfl⟩
           rw [← hws] at hv5
           obtain ⟨A5, cap5, hsl5, hcap5⟩ := hv5.slice
           subst hsl5
           have hwl : ws.length ≤ 20001 := by rw [hws]; simp; omega
           have HWS := Lib.hid hws
           clear hws
           have hne5 : ∀ q, q ≤ g → (w4.alloc (.cells #[.int .u8 k3, .int .i64 n3, .string s3, .slice A3 len3 cap3, .int .i64 r3] 26)).heap[q]? = w4.heap[q]? → w5.heap[q]? = w4.heap[q]? := fun q hq e => (hg5.block q (by simp; omega) (fun e => by have := (hob _ e.symm).1; omega)).trans e
           have HZ5 := Lib.hid (show BlkN w5 (p + 1) 26 _ from (hne5 _ (by omega) (Below.heap_alloc _ _ _ (by omega))).trans HZ4.out)
           have HP5 := Lib.hid (show BlkN w5 p 26 _ from (hne5 _ (by omega) (Below.heap_alloc _ _ _ (by omega))).trans HP4.out)
           have HL5 := Lib.hid (show BlkN w5 g 26 _ from (hne5 _ (by omega) (Below.heap_alloc _ _ _ (by omega))).trans HL4.out)
           have HAT5 := Lib.hid (HAT4.out.keep (show b < p by omega) (fun q hq => hne5 q (by omega) (Below.heap_alloc _ _ _ (by omega))))
           have HV5 := Lib.hid hv5
           have HB5 := Lib.hid ((HB4.out.alloc (by omega) (.cells #[.int .u8 k3, .int .i64 n3, .string s3, .slice A3 len3 cap3, .int .i64 r3] 26)).grown hg5 (by simp; omega) (fun g' hg => by have := (hob g' hg).1; omega))
           clear hv5 hg5 hne5))
      refine ⟨⟨HL5.out, HP5.out, HAT5.out⟩, ?_⟩
      have hS5 : BlkN w5 g 26 #[.int .u8 k, .int .i64 n, .string s, .slice A2 vs.length cap2, .int .i64 r] ∧ BlkN w5 p 26 #[.int .u8 k, .int .i64 n, .string s, .slice (some ⟨b, o, Option.none⟩) l.length cap, .int .i64 r] ∧ At w5 b (o + j * 5) [.int .u8 k1, .int .i64 n1, .string s1, .slice A1 len1 cap1, .int .i64 r1] := ⟨HL5.out, HP5.out, HAT5.out⟩
      refine RegT.seqM_quiet hS5 rfl (fun _ _ _ h => h) (by kernel_rfl) (v := .pointer (some ⟨g, 3, Option.none⟩)) (fun w' hS => ?_) ?_
      · go_simp
      clear hS5
      refine RegT.seqM_free rfl rfl ?_
      have hl5 := HL5.out.lt
      have o3 := HL5.out.cell 3 rfl
      have q3 := HL5.out.free 3
      go_wp2_with fail
      refine RegT.seqM_end ?_
      simp only [RegT.NP]
      obtain ⟨W6, hW6⟩ : ∃ W6, W6 = w5.setCell ⟨g, 3, Option.none⟩ (.slice A5 ws.length cap5) := ⟨_, rfl⟩
      have HP6 := Lib.hid (show BlkN W6 p 26 _ by rw [hW6]; exact HP5.out.setOther (q := ⟨g, 3, Option.none⟩) (by show p ≠ g; omega) _)
      have HZ6 := Lib.hid (show BlkN W6 (p + 1) 26 _ by rw [hW6]; exact HZ5.out.setOther (q := ⟨g, 3, Option.none⟩) (by show p + 1 ≠ g; omega) _)
      have HL6 := Lib.hid (show BlkN W6 g 26 #[.int .u8 k, .int .i64 n, .string s, .slice A5 ws.length cap5, .int .i64 r] by rw [hW6]; have := BlkN.set HL5.out 3 (.slice A5 ws.length cap5); simpa using this)
      have HV6 := Lib.hid (show LRow W6 (g + 1) (.slice A5 ws.length cap5) ws xs5 by rw [hW6]; exact HV5.out.upd ((Upd.refl g w5).set 3 _) (by omega))
      have HB6 := Lib.hid (show Below p w W6 by rw [hW6]; exact HB5.out.setCell (p := ⟨g, 3, Option.none⟩) (by show p ≤ g; omega) _)
      rw [← hW6]
      clear hW6 o3 q3 hl5
      go_wp2_with fail
      go_roundw
      case rel => exact ⟨j + 1, ws, xs5, A5, cap5, by go_num, by omega, by rw [HWS.out, HVS.out, List.take_add_one, List.getElem?_eq_getElem hlt]; rfl, HV6.out, HP6.out, HZ6.out, HL6.out, HB6.out⟩
      case measure => simp only [intOf]; omega
    · have hji : ¬ (j : Int) < l.length := by omega
      have HVE : Hid (vs = l) := Lib.hid (by rw [HVS.out, List.take_of_length_le (by omega)])
      have hob : ∀ g', (Value.slice A2 vs.length cap2).ownBlock = some g' → g + 1 ≤ g' ∧ g' < wr.heap.size := fun g' hg => HVJ.out.blk hg
      have hpw : p ≤ wr.heap.size := by omega
      go_upto_region 9 with fail
      clear p3
      refine RegT.region_mix (fun i => Nat.ble i 9) (fun V => BlkN V g 26 #[.int .u8 k, .int .i64 n, .string s, .slice A2 vs.length cap2, .int .i64 r] ∧ BlkN V p 26 #[.int .u8 k, .int .i64 n, .string s, .slice A l.length cap, .int .i64 r]) [(true, 0), (true, 1), (true, 2), (true, 5), (true, 6), (true, 7), (false, 3), (false, 4), (true, 8), (true, 9), (false, 10)] rfl (by kernel_rfl) (by kernel_rfl) (by decide) ?_
      have hS0 : BlkN wr.drew g 26 #[.int .u8 k, .int .i64 n, .string s, .slice A2 vs.length cap2, .int .i64 r] ∧ BlkN wr.drew p 26 #[.int .u8 k, .int .i64 n, .string s, .slice A l.length cap, .int .i64 r] := ⟨HOJ.out, HPJ.out⟩
      refine RegT.seqM_quiet hS0 rfl (fun _ _ _ h => h) (by kernel_rfl) (v := .pointer (some ⟨g, 3, Option.none⟩)) (fun w' hS => ?_) ?_
      · go_simp
      refine RegT.seqM_quiet hS0 rfl (fun _ _ _ h => h) (by kernel_rfl) (v := .slice A2 vs.length cap2) (fun w' hS => ?_) ?_
      · have u3 := hS.1.cell 3 rfl; go_simp
      refine RegT.seqM_quiet hS0 rfl (fun _ _ _ h => h) (by kernel_rfl) (v := .agg #[.int .u8 77, .int .i64 0, .string ⟨#[]⟩, .slice Option.none 0 0, .int .i64 0]) (fun w' hS => ?_) ?_
      · go_simp
      refine RegT.seqM_quiet hS0 rfl (fun _ _ _ h => h) (by kernel_rfl) (v := .pointer (some ⟨p, 3, Option.none⟩)) (fun w' hS => ?_) ?_
      · go_simp
      refine RegT.seqM_quiet hS0 rfl (fun _ _ _ h => h) (by kernel_rfl) (v := .slice A l.length cap) (fun w' hS => ?_) ?_
      · have u3 := hS.2.cell 3 rfl; go_simp
      refine RegT.seqM_quiet hS0 rfl (fun _ _ _ h => h) (by kernel_rfl) (v := .int .i64 l.length) (fun w' hS => ?_) ?_
      · go_simp
      clear hS0
      refine RegT.seqM_held rfl ?_
      go_wp2_with fail
      have hax : Below wr.heap.size wr ((wr.alloc (.cells #[.int .u8 77, .int .i64 0, .string ⟨#[]⟩, .slice Option.none 0 0, .int .i64 0] 26)).drew) := ((Below.refl _ wr).alloc (Nat.le_refl _) _).drew
      have HL4 := Lib.hid (HOJ.out.below hax)
      have HP4 := Lib.hid (HPJ.out.below hax)
      have HZ4 := Lib.hid (HZJ.out.below hax)
      have HV4 := Lib.hid (HVJ.out.below hax)
      have HB4 := Lib.hid (HBJ.out.trans (hax.mono hpw))
      clear hax
      refine ⟨⟨HL4.out, HP4.out⟩, RegT.seqM_held rfl ?_⟩
      go_wp2_with (first
        | (refine wpList_append_lt _ rfl (.tmp 31) (.tmp 33) rfl (g + 1) wr.heap.size (.slice A2 vs.length cap2) vs xs rfl HV4.out wr.heap.size (.int .u8 77) (.int .i64 0) (.string ⟨#[]⟩) (.slice Option.none 0 0) (.int .i64 0) (markV 77) rfl (BlkN.at_ rfl 26 _) (mark_is _ _ 77 (by decide) (by decide)) (by omega) (fun g' hg => (hob g' hg).2) (by omega) (by simp; omega) ?_
           intro v5 w5 xs5 hv5 hg5
           obtain ⟨A5, cap5, hsl5, hcap5⟩ := hv5.slice
           obtain ⟨n5, hn5⟩ : ∃ n5, n5 = (vs ++ [markV 77]).length := ⟨_, rfl⟩
           rw [← hn5] at hsl5 hcap5
           subst hsl5
           have HMK := Lib.hid (LRow.marked hv5)
           have hn5v : n5 = vs.length + 1 := by rw [hn5]; simp
           have HN5 := Lib.hid hn5v
           have hcc : (vs.length : Int) ≤ cap5 := by have := hcap5; omega
           have hn5le : n5 ≤ 20001 := by omega
           clear hn5 hn5v
           have HZ5 := Lib.hid (show BlkN w5 (p + 1) 26 _ from (hg5.block (p + 1) (by simp [World.drew]; omega) (fun e => by have := (hob _ e.symm).1; omega)).trans HZ4.out)
           have HP5 := Lib.hid (show BlkN w5 p 26 _ from (hg5.block p (by simp [World.drew]; omega) (fun e => by have := (hob _ e.symm).1; omega)).trans HP4.out)
           have HL5 := Lib.hid (show BlkN w5 g 26 _ from (hg5.block g (by simp [World.drew]; omega) (fun e => by have := (hob _ e.symm).1; omega)).trans HL4.out)
           have HB5 := Lib.hid (HB4.out.grown hg5 (by simp [World.drew]; omega) (fun g' hg => by have := (hob g' hg).1; omega))
           clear hv5 hg5))
      refine ⟨⟨HL5.out, HP5.out⟩, ?_⟩
      have hS5 : BlkN w5 g 26 #[.int .u8 k, .int .i64 n, .string s, .slice A2 vs.length cap2, .int .i64 r] ∧ BlkN w5 p 26 #[.int .u8 k, .int .i64 n, .string s, .slice A l.length cap, .int .i64 r] := ⟨HL5.out, HP5.out⟩
      rw [HVE.out] at hcc
      refine RegT.seqM_quiet hS5 rfl (fun _ _ _ h => h) (by kernel_rfl) (v := .slice A5 l.length cap5) (fun w' hS => ?_) ?_
      · have hcn : l.length ≤ cap5 := by omega
        go_simp
      refine RegT.seqM_quiet hS5 rfl (fun _ _ _ h => h) (by kernel_rfl) (v := .pointer (some ⟨g, 3, Option.none⟩)) (fun w' hS => ?_) ?_
      · go_simp
      clear hS5
      refine RegT.seqM_free rfl rfl ?_
      have hl5 := HL5.out.lt
      have o3 := HL5.out.cell 3 rfl
      have q3 := HL5.out.free 3
      go_wp2_with fail
      refine RegT.seqM_end ?_
      simp only [RegT.NP]
      obtain ⟨W6, hW6⟩ : ∃ W6, W6 = w5.setCell ⟨g, 3, Option.none⟩ (.slice A5 l.length cap5) := ⟨_, rfl⟩
      have HZ6 := Lib.hid (show BlkN W6 (p + 1) 26 #[.int .u8 0, .int .i64 0, .string ⟨#[]⟩, .slice Option.none 0 0, .int .i64 0] by rw [hW6]; exact HZ5.out.setOther (q := ⟨g, 3, Option.none⟩) (by show p + 1 ≠ g; omega) _)
      have HL6 := Lib.hid (show BlkN W6 g 26 #[.int .u8 k, .int .i64 n, .string s, .slice A5 l.length cap5, .int .i64 r] by rw [hW6]; have := BlkN.set HL5.out 3 (.slice A5 l.length cap5); simpa using this)
      have HB6 := Lib.hid (show Below p w W6 by rw [hW6]; exact HB5.out.setCell (p := ⟨g, 3, Option.none⟩) (by show p ≤ g; omega) _)
      have HM6 : Hid (l.length + 1 ≤ cap5 ∧ ∃ b, Own34 W6 (g + 1) b 0 ∧ A5 = some ⟨b, 0, Option.none⟩ ∧ IsLtsR W6 (Own34 W6 (g + 1)) b 0 l ∧ W6.cell? ⟨b, l.length * 5, Option.none⟩ = some (.int .u8 77)) := Lib.hid (by
        have h1 := HMK.out
        rw [HVE.out] at h1
        obtain ⟨g1, b, g2, g3, g4, g5⟩ := h1
        have hk : ∀ b, g + 1 ≤ b → W6.heap[b]? = w5.heap[b]? := fun b hb => by rw [hW6]; exact Below.heap_setCell _ _ _ _ (by show b ≠ g; omega)
        have hown : ∀ b o, Own34 w5 (g + 1) b o → Own34 W6 (g + 1) b o := fun b o hr => ⟨hr.1, hr.2.1, let ⟨cur, hc⟩ := hr.2.2; ⟨cur, (hk b hr.1).trans hc⟩⟩
        exact ⟨g1, b, hown _ _ g2, g3, (IsLtsR.keep (fun b o hr => hk b hr.1.1) (hk b g2.1) g4).mono fun b o hr => hown _ _ hr.1, (World.cell?_of_block (w := w5) (hk b g2.1)).trans g5⟩)
      rw [← hW6]
      clear hW6 o3 q3 hl5
      have hl6 := HL6.out.lt
      have hz6 := HZ6.out.lt
      have t0 := HL6.out.cell 0 rfl
      have a0 := HL6.out.free 0
      have t1 := HL6.out.cell 1 rfl
      have a1 := HL6.out.free 1
      have t2 := HL6.out.cell 2 rfl
      have a2 := HL6.out.free 2
      have t3 := HL6.out.cell 3 rfl
      have a3 := HL6.out.free 3
      have t4 := HL6.out.cell 4 rfl
      have a4 := HL6.out.free 4
      have z0 := HZ6.out.cell 0 rfl
      have y0 := HZ6.out.free 0
      have z1 := HZ6.out.cell 1 rfl
      have y1 := HZ6.out.free 1
      have z2 := HZ6.out.cell 2 rfl
      have y2 := HZ6.out.free 2
      have z3 := HZ6.out.cell 3 rfl
      have y3 := HZ6.out.free 3
      have z4 := HZ6.out.cell 4 rfl
      have y4 := HZ6.out.free 4
      go_wp2_with fail
      obtain ⟨V', hV', hB3, hbut3⟩ := set5_done HZ6.out (.int .u8 k) (.int .i64 n) (.string s) (.slice A5 l.length cap5) (.int .i64 r)
      rw [hV']
      refine bodyPost_ret (results_cell1 (s := 2) (b := p + 1) rfl Tryd.underlying26 hi0 rfl hB3 (by rw [hz1]; rfl)) rfl ⟨?_, _, rfl, ?_⟩
      · rw [← HPW.out]; exact hbut3.below (by omega) HB6.out
      · obtain ⟨g1, b, g2, g3, g4, g5⟩ := HM6.out
        have hk : ∀ b, g + 1 ≤ b → V'.heap[b]? = W6.heap[b]? := fun b hb => hbut3.other b (by omega)
        have hown : ∀ b o, Own34 W6 (g + 1) b o → Own34 V' w.heap.size b o := fun b o hr => ⟨by have := hr.1; have := HPW.out; omega, hr.2.1, let ⟨cur, hc⟩ := hr.2.2; ⟨cur, (hk b hr.1).trans hc⟩⟩
        unfold IsLtR
        exact ⟨h1, h2, h3, hln, A5, cap5, by omega, rfl, fun _ => ⟨g1, b, 0, hown _ _ g2, g3, (IsLtsR.keep (fun b o hr => hk b hr.1) (hk b g2.1) g4).mono hown, by rw [Nat.zero_add]; exact (World.cell?_of_block (w := W6) (hk b g2.1)).trans g5⟩⟩
end Go.Proofs.YtkhpfghehjcfoaaDoor
