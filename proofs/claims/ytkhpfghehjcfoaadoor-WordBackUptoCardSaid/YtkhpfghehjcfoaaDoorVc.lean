/- The document's reader: value, a list. -/
import Derived.Test.YtkhpfghehjcfoaaDoorVb
namespace Go.Proofs.YtkhpfghehjcfoaaDoor
open Go.RowKit

/-- A list in the making. -/
def LvB (w : World) (g : Nat) (A : Option Addr) (l cap : Nat) : Prop := BlkN w g 26 #[.int .u8 3, .int .i64 0, .string ⟨#[]⟩, .slice A l cap, .int .i64 0]
theorem rdR_91e (n : Nat) (r : L8) (m : Nat) : rdR (n + 1) (91 :: 93 :: r) (m + 1) = (.mk 3 0 ⟨#[]⟩ [] 0, r, false, m) := rfl
theorem rdR_91l (n : Nat) (t : L8) (m : Nat) (h : ∀ r, t ≠ 93 :: r) : rdR (n + 1) (91 :: t) (m + 1) = (.mk 3 0 ⟨#[]⟩ (lsR (rdR n) 513 t m []).1 0, (lsR (rdR n) 513 t m []).2.1, (lsR (rdR n) 513 t m []).2.2.1, (lsR (rdR n) 513 t m []).2.2.2) := by
  unfold rdR
  rw [if_neg (by decide), if_neg (by decide), if_neg (by decide), if_neg (by decide), if_neg (by decide), if_pos rfl]
  split
  · rename_i e; exact absurd e (by omega)
  · rename_i k e
    obtain rfl : n = k := by omega
    split
    · exact absurd rfl (h _)
    · rfl
theorem list_val {X V' : World} {g b0 lo : Nat} {A : Option Addr} {cap : Nat} {vs : List Va} {xs : List Value} (hv : VRow X (g + 1) (.slice A vs.length cap) vs xs) (hb : But b0 X V') (h0 : b0 ≤ g) (hlo : lo ≤ g) (hl : vs.length ≤ 1000000) :
    IsVaR V' (Own34 V' lo) (.agg #[.int .u8 3, .int .i64 0, .string ⟨#[]⟩, .slice A vs.length cap, .int .i64 0]) (.mk 3 0 ⟨#[]⟩ vs 0) := by
  obtain ⟨A2, cap2, hsl, hcap, hlist⟩ := hv.list
  injection hsl with e1 e2 e3
  subst e1 e3
  have hk3 : ∀ b o, Own34 X (g + 1) b o → V'.heap[b]? = X.heap[b]? := fun b o hr => hb.other b (by have := hr.1; omega)
  unfold IsVaR
  refine ⟨by decide, by decide, by decide, by omega, A, cap, hcap, rfl, fun hne => ?_⟩
  obtain ⟨b, o, h1, h2, h3⟩ := hlist hne
  exact ⟨b, o, ⟨by have := h1.1; omega, h1.2.1, let ⟨cur, hc⟩ := h1.2.2; ⟨cur, (hk3 b o h1).trans hc⟩⟩, h2, IsVasR.mono (fun b o hr => ⟨by have := hr.1; omega, hr.2.1, let ⟨cur, hc⟩ := hr.2.2; ⟨cur, (hk3 b o hr).trans hc⟩⟩) (IsVasR.keep hk3 (hk3 b o h1) h3)⟩
theorem lsR_stuck (f : L8 → Nat → Va × L8 × Bool × Nat) (k : Nat) (t : L8) (m : Nat) (l : List Va) (v : Va) (r : L8) (m2 : Nat) (h : f t m = (v, r, true, m2)) : lsR f (k + 1) t m l = (l ++ [v], r, true, m2) := by
  rw [lsR, h]
theorem lsR_end (f : L8 → Nat → Va × L8 × Bool × Nat) (k : Nat) (t : L8) (m : Nat) (l : List Va) (v : Va) (m2 : Nat) (h : f t m = (v, [], false, m2)) : lsR f (k + 1) t m l = (l ++ [v], [], true, m2) := by
  rw [lsR, h]
theorem lsR_cons (f : L8 → Nat → Va × L8 × Bool × Nat) (k : Nat) (t : L8) (m : Nat) (l : List Va) (v : Va) (c : UInt8) (r : L8) (m2 : Nat) (h : f t m = (v, c :: r, false, m2)) :
    lsR f (k + 1) t m l = if c = 93 then (l ++ [v], r, false, m2) else if c = 32 ∧ 0 < m2 then lsR f k r m2 (l ++ [v]) else (l ++ [v], c :: r, true, m2) := by
  rw [lsR, h]
attribute [local irreducible] wpList
set_option maxRecDepth 100000 in
set_option maxHeartbeats 8000000 in
theorem rval_list (n : Nat) (hn : n ≤ 15) (IH : RdC n) (s : ByteArray) (i m : Nat) (w : World) (p : Nat) (h : RRd w p s i false ((m : Int) + 1)) (hh : i < s.size) (hs : s.size ≤ 140737488351232) (hm : m ≤ 511) (h91 : s[i] = 91) :
    Calls Tryd.prog 42 #[.pointer (some ⟨p, 0, Option.none⟩), .int .i64 ((n : Int) + 1)] w fun e w' => Upd p w w' ∧ RvP (rdR (n + 1) (rest s i) (m + 1)) s i (m + 1) p w.heap.size e w' := by
  obtain ⟨i0, hi0, hz0, hz1, hz2⟩ := info_parts info34
  have hp0 := h.lt
  have HIH := Lib.hid IH
  clear IH
  have HRC : Hid (rest s i = 91 :: rest s (i + 1)) := Lib.hid (by rw [rest_cons hh, h91])
  go_enter Tryd.func42, Tryd.ntmps42
  go_upto_region 1 with fail
  obtain ⟨W, hW⟩ : ∃ W, W = w.alloc (.cells #[.int .u8 0, .int .i64 0, .string ⟨#[]⟩, .slice Option.none 0 0, .int .i64 0] 26) := ⟨_, rfl⟩
  have HR : Hid (RRd W p s i false ((m : Int) + 1)) := Lib.hid (by rw [hW]; exact BlkN.alloc h _)
  have HZ : Hid (BlkN W w.heap.size 26 #[.int .u8 0, .int .i64 0, .string ⟨#[]⟩, .slice Option.none 0 0, .int .i64 0]) := Lib.hid (by rw [hW]; exact BlkN.at_ rfl _ _)
  have HU : Hid (Upd p w W) := Lib.hid (by rw [hW]; exact (Upd.refl p w).alloc _)
  rw [← hW]
  clear hW h
  have hpW := HR.out.lt
  have hRW := HZ.out.lt
  have CD := Lib.hid (rnext_at HR.out hh h91.symm)
  clear h91
  go_upto_region 6 with (first | (go_at_call 67; refine CD.out.mono ?_; rintro e w2 ⟨rfl, hb2⟩; have hr2 := HR.out.below hb2; have hz2 := HZ.out.below hb2; have hp2 := hr2.lt; have hq2 := hz2.lt; have c3 := hr2.cell 3 rfl; have f3 := hr2.free 3; have HR2 := Lib.hid hr2; have HZ2 := Lib.hid hz2; have HB2 := Lib.hid hb2; clear hb2 hr2 hz2))
  obtain ⟨V, hV⟩ : ∃ V, V = w2.setCell ⟨p, 3, Option.none⟩ (.int .i64 (m : Nat)) := ⟨_, rfl⟩
  have HRV : Hid (RRd V p s i false (m : Nat)) := Lib.hid (by rw [hV]; exact RRd.dec HR2.out)
  have HZV : Hid (BlkN V w.heap.size 26 #[.int .u8 0, .int .i64 0, .string ⟨#[]⟩, .slice Option.none 0 0, .int .i64 0]) := Lib.hid (by rw [hV]; exact BlkN.setOther HZ2.out (q := ⟨p, 3, Option.none⟩) (by show w.heap.size ≠ p; omega) _)
  have HUV : Hid (Upd p w V) := Lib.hid (by rw [hV]; exact (HU.out.below HB2.out).set 3 _)
  rw [← hV]
  clear hV c3 f3 HR2 HZ2 HB2 CD
  go_upto_region 22 with (first | (go_at_call 69; refine (ron_yes HRV.out hh hs).mono ?_; rintro e w3 ⟨rfl, hr3, hu3⟩; have hz3 := BlkN.upd hu3 HZV.out (by omega); have HR3 := Lib.hid hr3; have HZ3 := Lib.hid hz3; have HU3 := Lib.hid (HUV.out.trans hu3); clear hr3 hz3 hu3))
  obtain ⟨g, hg⟩ : ∃ g, g = w3.heap.size := ⟨_, rfl⟩
  obtain ⟨V6, hV6⟩ : ∃ V6, V6 = w3.alloc (.cells #[.int .u8 3, .int .i64 0, .string ⟨#[]⟩, .slice Option.none 0 0, .int .i64 0] 26) := ⟨_, rfl⟩
  have hz3 := HZ3.out.lt
  have hr3 := HR3.out.lt
  have hs6 : g + 1 ≤ V6.heap.size := by rw [hV6, hg]; exact Nat.le_of_eq (World.size_alloc _ _).symm
  have HR6 : Hid (RRd V6 p s (i + 1) false (m : Nat)) := Lib.hid (by rw [hV6]; exact BlkN.alloc HR3.out _)
  have HZ6 : Hid (BlkN V6 w.heap.size 26 #[.int .u8 0, .int .i64 0, .string ⟨#[]⟩, .slice Option.none 0 0, .int .i64 0]) := Lib.hid (by rw [hV6]; exact BlkN.alloc HZ3.out _)
  have HL6 : Hid (LvB V6 g Option.none 0 0) := Lib.hid (by rw [hV6]; exact BlkN.at_ hg _ _)
  have hw3 := HU3.out.size
  have HU6 : Hid (Upd p w V6) := Lib.hid (by rw [hV6]; exact HU3.out.alloc _)
  have hb0g : w.heap.size < g := by omega
  have hpg : p < g := by omega
  rw [← hV6, ← hg]
  clear hV6 HR3 HZ3 HU3 HRV HZV HUV HR HZ HU hz3 hr3 hw3 hg
  have hr := HR6.out
  have hz := HZ6.out
  have hl : BlkN V6 g 26 #[.int .u8 3, .int .i64 0, .string ⟨#[]⟩, .slice Option.none 0 0, .int .i64 0] := HL6.out
  by_cases h93 : ∃ hk : i + 1 < s.size, s[i + 1] = 93
  · obtain ⟨hk, h93⟩ := h93
    have CE := Lib.hid (rnext_at HR6.out hk h93.symm)
    have HRX : Hid (rest s (i + 1) = 93 :: rest s (i + 1 + 1)) := Lib.hid (by rw [rest_cons hk, h93])
    clear hr hz hl h93
    go_wp2_with (first | (go_at_call 67; refine CE.out.mono ?_; rintro e w7 ⟨rfl, hb7⟩; have hr7 := HR6.out.below hb7; have hz7 := HZ6.out.below hb7; have hl7 : BlkN w7 g 26 #[.int .u8 3, .int .i64 0, .string ⟨#[]⟩, .slice Option.none 0 0, .int .i64 0] := BlkN.below HL6.out hb7; have hp7 := hr7.lt; have hq7 := hz7.lt; have hg7 := hl7.lt; have c1 := hr7.cell 1 rfl; have f1 := hr7.free 1; have d0 := hz7.cell 0 rfl; have x0 := hz7.free 0; have d1 := hz7.cell 1 rfl; have x1 := hz7.free 1; have d2 := hz7.cell 2 rfl; have x2 := hz7.free 2; have d3 := hz7.cell 3 rfl; have x3 := hz7.free 3; have d4 := hz7.cell 4 rfl; have x4 := hz7.free 4; have e0 := hl7.cell 0 rfl; have y0 := hl7.free 0; have e1 := hl7.cell 1 rfl; have y1 := hl7.free 1; have e2 := hl7.cell 2 rfl; have y2 := hl7.free 2; have e3 := hl7.cell 3 rfl; have y3 := hl7.free 3; have e4 := hl7.cell 4 rfl; have y4 := hl7.free 4; have HR7 := Lib.hid hr7; have HZ7 := Lib.hid hz7; have HU7 := Lib.hid (HU6.out.below hb7); clear hb7 hr7 hz7 hl7))
    obtain ⟨V', hV', hB3, hbut3⟩ := set5_done (BlkN.setOther HZ7.out (q := ⟨p, 1, Option.none⟩) (by show w.heap.size ≠ p; omega) (.int .i64 ((i : Int) + 1 + 1))) (.int .u8 3) (.int .i64 0) (.string ⟨#[]⟩) (.slice Option.none 0 0) (.int .i64 0)
    rw [hV']
    refine bodyPost_ret (results_cell1 (s := 4) (b := w.heap.size) rfl Tryd.underlying26 hi0 rfl hB3 (by rw [hz1]; rfl)) rfl ⟨hbut3.upd (Nat.le_refl _) (HU7.out.set 1 _), ?_⟩
    rw [HRC.out, HRX.out, rdR_91e]
    exact ⟨i + 1 + 1, _, by omega, by omega, rfl, rfl, leafR _ _ 3 0 0 ⟨#[]⟩ (by decide) (by decide) (by decide) _ rfl, (RRd.adv HR7.out).but hbut3 (by omega), by simp only; omega⟩
  obtain ⟨R, hR⟩ : ∃ R, R = lsR (rdR n) 513 (rest s (i + 1)) m [] := ⟨_, rfl⟩
  have HRD : Hid (rdR (n + 1) (rest s i) (m + 1) = (.mk 3 0 ⟨#[]⟩ R.1 0, R.2.1, R.2.2.1, R.2.2.2)) := Lib.hid (by
    rw [HRC.out, hR]
    refine rdR_91l n _ m fun r e => h93 ?_
    by_cases hk : i + 1 < s.size
    · rw [rest_cons hk] at e
      injection e with e1 e2
      exact ⟨hk, e1⟩
    · rw [rest_end (by omega)] at e; cases e)
  have HR0 := Lib.hid hR
  obtain ⟨c, hc⟩ : ∃ c : UInt8, c = nxS false (rest s (i + 1)) := ⟨_, rfl⟩
  have hc93 : c ≠ 93 := fun e => h93 (by
    rw [e] at hc
    by_cases hk : i + 1 < s.size
    · rw [rest_cons hk] at hc
      exact ⟨hk, hc.symm⟩
    · rw [rest_end (by omega)] at hc; exact absurd hc (by decide))
  have b93 : ((c.toNat : Int) == 93) = false := u8_beq (n := 93) (by decide) hc93
  have CE : Hid (Calls Tryd.prog 67 #[.pointer (some ⟨p, 0, Option.none⟩)] V6 fun e w' => e = .returned (.int .u8 (c.toNat : Nat)) ∧ Below V6.heap.size V6 w') := Lib.hid (by rw [hc]; exact rnext_any s (i + 1) false _ V6 p HR6.out)
  clear hr hz hl hc hc93 h93 hR
  go_wp2_with (first | (go_at_call 67; refine CE.out.mono ?_; rintro e w7 ⟨rfl, hb7⟩; have HB7 := Lib.hid hb7; clear hb7))
  clear b93 CE
  go_loopw [5] (fun _ wr => ∃ (j k m' : Nat) (st : Bool) (vs : List Va) (xs : List Value) (A : Option Addr) (cap : Nat), i < j ∧ j ≤ s.size ∧ g + 1 ≤ wr.heap.size ∧ RRd wr p s j st (m' : Nat) ∧ BlkN wr w.heap.size 26 #[.int .u8 0, .int .i64 0, .string ⟨#[]⟩, .slice Option.none 0 0, .int .i64 0] ∧ LvB wr g A vs.length cap ∧ VRow wr (g + 1) (.slice A vs.length cap) vs xs ∧ Upd p w wr ∧ vs.length + k = 513 ∧ m' ≤ m ∧ vs.length + m' ≤ 512 ∧ (st = false → vs.length + m' ≤ 511 ∧ lsR (rdR n) k (rest s j) m' vs = R) ∧ (st = true → R = (vs, rest s j, true, m'))) (fun _ wr => offOf wr p s.size)
  case atStart => exact ⟨i + 1, 513, m, false, [], [], Option.none, 0, by omega, by omega, Nat.le_trans hs6 HB7.out.size, HR6.out.below HB7.out, HZ6.out.below HB7.out, BlkN.below HL6.out HB7.out, VRow.nil _ _, HU6.out.below HB7.out, rfl, Nat.le_refl _, by simp; omega, fun _ => ⟨by simp; omega, HR0.out.symm⟩, fun h => by cases h⟩
  case round =>
    obtain ⟨j, k, m', st, vs, xs, A, cap, hij, hj, hsz, hr, hz, hl, hv, hu, hk, hmm, hvm, hf, ht⟩ := hrel
    have HRJ := Lib.hid hr
    have HZJ := Lib.hid hz
    have HLJ := Lib.hid hl
    have HVJ := Lib.hid hv
    have HUJ := Lib.hid hu
    have hpr := hr.lt
    have hqr := hz.lt
    have hgr : g < wr.heap.size := by omega
    have c2 := hr.cell 2 rfl
    have hl' : BlkN wr g 26 #[.int .u8 3, .int .i64 0, .string ⟨#[]⟩, .slice A vs.length cap, .int .i64 0] := hl
    cases st with
    | true =>
      have HT := Lib.hid (ht rfl)
      clear hf ht hr
      have d0 := hz.cell 0 rfl
      have x0 := hz.free 0
      have d1 := hz.cell 1 rfl
      have x1 := hz.free 1
      have d2 := hz.cell 2 rfl
      have x2 := hz.free 2
      have d3 := hz.cell 3 rfl
      have x3 := hz.free 3
      have d4 := hz.cell 4 rfl
      have x4 := hz.free 4
      have e0 := hl'.cell 0 rfl
      have y0 := hl'.free 0
      have e1 := hl'.cell 1 rfl
      have y1 := hl'.free 1
      have e2 := hl'.cell 2 rfl
      have y2 := hl'.free 2
      have e3 := hl'.cell 3 rfl
      have y3 := hl'.free 3
      have e4 := hl'.cell 4 rfl
      have y4 := hl'.free 4
      clear hz hl hl' hv hu
      go_wp2_with fail
      obtain ⟨V', hV', hB3, hbut3⟩ := set5_done HZJ.out (.int .u8 3) (.int .i64 0) (.string ⟨#[]⟩) (.slice A vs.length cap) (.int .i64 0)
      rw [hV']
      refine bodyPost_ret (results_cell1 (s := 4) (b := w.heap.size) rfl Tryd.underlying26 hi0 rfl hB3 (by rw [hz1]; rfl)) rfl ⟨hbut3.upd (Nat.le_refl _) HUJ.out, ?_⟩
      rw [HRD.out, HT.out]
      exact ⟨j, _, by omega, hj, rfl, rfl, list_val HVJ.out hbut3 (by omega) (by omega) (by omega), HRJ.out.but hbut3 (by omega), by simp only; omega⟩
    | false =>
      obtain ⟨hvm2, hls⟩ := hf rfl
      have HLS := Lib.hid hls
      clear hf ht hls hr hz hl hl' hv hu
      obtain ⟨k, rfl⟩ : ∃ k', k = k' + 1 := ⟨k - 1, by omega⟩
      obtain ⟨Y, hY⟩ : ∃ Y, Y = rdR n (rest s j) m' := ⟨_, rfl⟩
      have hdec : 0 < m' → Y.2.2.1 = false → Y.2.2.2 < m' := fun h0 h1 => by rw [hY] at h1 ⊢; exact ((rd_same n (rest s j) m' h0 (by omega)).2 h1).1
      have hdec0 : m' = 0 → Y.2.2.1 = true := fun h0 => by rw [hY, h0, rdR_zero]
      have CI := HIH.out s j m' wr.drew p HRJ.out hj hs (by omega)
      rw [← hY] at CI
      have HCI := Lib.hid CI
      have HY := Lib.hid hY
      clear CI hY
      obtain ⟨y, t2, st2, m2⟩ := Y
      have hob : ∀ g', (Value.slice A vs.length cap).ownBlock = some g' → g + 1 ≤ g' ∧ g' < wr.heap.size := fun g' hg => HVJ.out.blk hg
      have HDEC : Hid (st2 = false → m2 < m') := Lib.hid (fun h1 => by
        by_cases h0 : 0 < m'
        · exact hdec h0 h1
        · have := hdec0 (by omega)
          simp only at this
          rw [this] at h1; cases h1)
      clear hdec hdec0
      go_upto_region 26 with fail
      clear c2
      refine RegT.region_mix (fun i => Nat.ble i 8) (fun V => LvB V g A vs.length cap) [(true, 0), (true, 1), (true, 2), (true, 3), (true, 4), (false, 5), (false, 6), (false, 7), (true, 8), (false, 9)] rfl (by kernel_rfl) (by kernel_rfl) (by decide) ?_
      have hS0 : LvB wr.drew g A vs.length cap := HLJ.out
      refine RegT.seqM_quiet hS0 rfl (fun _ _ _ h => h) (by kernel_rfl) (v := .pointer (some ⟨g, 3, Option.none⟩)) (fun w' hS => ?_) ?_
      · go_simp
      refine RegT.seqM_quiet hS0 rfl (fun _ _ _ h => h) (by kernel_rfl) (v := .slice A vs.length cap) (fun w' hS => ?_) ?_
      · have hS : BlkN w' g 26 #[.int .u8 3, .int .i64 0, .string ⟨#[]⟩, .slice A vs.length cap, .int .i64 0] := hS; have t3 := hS.cell 3 rfl; go_simp
      refine RegT.seqM_quiet hS0 rfl (fun _ _ _ h => h) (by kernel_rfl) (v := .pointer (some ⟨p, 0, Option.none⟩)) (fun w' hS => ?_) ?_
      · go_simp
      refine RegT.seqM_quiet hS0 rfl (fun _ _ _ h => h) (by kernel_rfl) (v := .int .i64 ((n : Int) + 1)) (fun w' hS => ?_) ?_
      · go_simp
      refine RegT.seqM_quiet hS0 rfl (fun _ _ _ h => h) (by kernel_rfl) (v := .int .i64 (n : Nat)) (fun w' hS => ?_) ?_
      · go_simp
        rw [IntKind.wrap_i64]; omega
      refine RegT.seqM_held rfl ?_
      clear hS0
      go_wp2_with (first | (go_at_call 42; refine HCI.out.mono ?_; rintro e w4 ⟨hu4, j2, v4, hj1, hj2, hrs, rfl, hv4, hr4, hm4⟩))
      obtain ⟨k3, n3, s3, A3, len3, cap3, r3, rfl⟩ := hv4.shape
      have HL4 : Hid (LvB w4 g A vs.length cap) := Lib.hid (BlkN.upd hu4 HLJ.out (by omega))
      have hu4' : Upd p wr w4 := ((Upd.refl p wr).drewN 1).trans hu4
      have hs4 : wr.heap.size ≤ w4.heap.size := hu4'.size
      have HV4 := Lib.hid (HVJ.out.upd hu4' (by omega))
      have HX4 := Lib.hid hv4
      have HR4 := Lib.hid hr4
      have HZ4 := Lib.hid (BlkN.upd hu4' HZJ.out (by omega))
      have HU4 := Lib.hid (HUJ.out.trans hu4')
      have HRS := Lib.hid hrs
      have hm4' : m2 ≤ m' := hm4
      clear hm4
      have hg4 := HL4.out.lt
      clear hu4 hu4' hv4 hr4 hrs HCI
      refine ⟨HL4.out, RegT.seqM_held rfl ?_⟩
      go_wp2_with fail
      refine ⟨BlkN.alloc HL4.out _, RegT.seqM_held rfl ?_⟩
      go_wp2_with (first
        | (refine wpList_append_va _ rfl (.tmp 110) (.tmp 115) rfl (g + 1) wr.heap.size (.slice A vs.length cap) vs xs rfl (HV4.out.below ((Below.refl _ w4).alloc (Nat.le_refl _) (.cells #[.int .u8 k3, .int .i64 n3, .string s3, .slice A3 len3 cap3, .int .i64 r3] 26))) w4.heap.size (.int .u8 k3) (.int .i64 n3) (.string s3) (.slice A3 len3 cap3) (.int .i64 r3) y rfl (BlkN.at_ rfl 26 _) (HX4.out.below ((Below.refl _ w4).alloc (Nat.le_refl _) _)) hsz (fun g' hg => (hob g' hg).2) (by omega) (by simp; omega) ?_
           intro v5 w5 xs5 hv5 hg5
           obtain ⟨ws, hws⟩ : ∃ ws, ws = vs ++ [y] := ⟨_, rfl⟩
           rw [← hws] at hv5
           obtain ⟨A5, cap5, hsl5, hcap5, _⟩ := hv5.list
           subst hsl5
           have hwl : ws.length ≤ vs.length + 1 := by rw [hws]; simp
           have HWS := Lib.hid hws
           clear hws
           have HR5 := Lib.hid (RRd.grown (BlkN.alloc HR4.out (.cells #[.int .u8 k3, .int .i64 n3, .string s3, .slice A3 len3 cap3, .int .i64 r3] 26)) hg5 (fun g' hg => by have := (hob g' hg).1; omega))
           have HZ5 : Hid (BlkN w5 w.heap.size 26 #[.int .u8 0, .int .i64 0, .string ⟨#[]⟩, .slice Option.none 0 0, .int .i64 0]) := Lib.hid ((hg5.block _ (by simp; omega) (fun e => by have := (hob _ e.symm).1; omega)).trans (BlkN.alloc HZ4.out _))
           have HL5 : Hid (LvB w5 g A vs.length cap) := Lib.hid ((hg5.block _ (by simp; omega) (fun e => by have := (hob _ e.symm).1; omega)).trans (BlkN.alloc HL4.out _))
           have HV5 := Lib.hid hv5
           have hs5 : w4.heap.size + 1 ≤ w5.heap.size := by have := hg5.size; simpa using this
           have HU5 := Lib.hid (Upd.grown (HU4.out.alloc (.cells #[.int .u8 k3, .int .i64 n3, .string s3, .slice A3 len3 cap3, .int .i64 r3] 26)) hg5 (fun g' hg => by have := (hob g' hg).1; omega))
           clear hv5 hg5))
      refine ⟨HL5.out, ?_⟩
      refine RegT.seqM_quiet HL5.out rfl (fun _ _ _ h => h) (by kernel_rfl) (v := .pointer (some ⟨g, 3, Option.none⟩)) (fun w' hS => ?_) ?_
      · go_simp
      refine RegT.seqM_free rfl rfl ?_
      have hl5 : BlkN w5 g 26 #[.int .u8 3, .int .i64 0, .string ⟨#[]⟩, .slice A vs.length cap, .int .i64 0] := HL5.out
      have e3 := hl5.cell 3 rfl
      have y3 := hl5.free 3
      have hg5 := hl5.lt
      go_wp2_with fail
      refine RegT.seqM_end ?_
      simp only [RegT.NP]
      obtain ⟨W6, hW6⟩ : ∃ W6, W6 = w5.setCell ⟨g, 3, Option.none⟩ (.slice A5 ws.length cap5) := ⟨_, rfl⟩
      have HRW : Hid (RRd W6 p s j2 st2 (m2 : Nat)) := Lib.hid (by rw [hW6]; exact BlkN.setOther HR5.out (q := ⟨g, 3, Option.none⟩) (by show p ≠ g; omega) _)
      have HZW : Hid (BlkN W6 w.heap.size 26 #[.int .u8 0, .int .i64 0, .string ⟨#[]⟩, .slice Option.none 0 0, .int .i64 0]) := Lib.hid (by rw [hW6]; exact BlkN.setOther HZ5.out (q := ⟨g, 3, Option.none⟩) (by show w.heap.size ≠ g; omega) _)
      have HLW : Hid (LvB W6 g A5 ws.length cap5) := Lib.hid (by rw [hW6]; have := BlkN.set hl5 3 (.slice A5 ws.length cap5); unfold LvB; simpa using this)
      have HVW : Hid (VRow W6 (g + 1) (.slice A5 ws.length cap5) ws xs5) := Lib.hid (by rw [hW6]; exact HV5.out.upd ((Upd.refl g w5).set 3 _) (by omega))
      have hbw : But g w5 W6 := by rw [hW6]; exact ⟨rfl, rfl, rfl, by simp [World.setCell], fun k hk => Below.heap_setCell _ _ _ _ hk⟩
      have HUW : Hid (Upd p w W6) := Lib.hid (hbw.upd (by omega) HU5.out)
      have hsW : g + 1 ≤ W6.heap.size := by rw [hbw.size]; omega
      rw [← hW6]
      clear hW6 hbw hl5 e3 y3 hg5 HR5 HZ5 HL5 HV5 HU5 HR4 HZ4 HL4 HV4 HU4 HX4 HZJ HLJ HVJ HUJ hob
      have CN := Lib.hid (rnext_any s j2 st2 _ W6 p HRW.out)
      have hrs := HRS.out
      cases st2 with
      | true =>
        have HT : Hid (R = (ws, rest s j2, true, m2)) := Lib.hid (by rw [← HLS.out, lsR_stuck _ _ _ _ _ _ _ _ HY.out.symm, HWS.out, hrs])
        have CN0 : Hid (Calls Tryd.prog 67 #[.pointer (some ⟨p, 0, Option.none⟩)] W6 fun e w' => e = .returned (.int .u8 0) ∧ Below W6.heap.size W6 w') := Lib.hid (CN.out.mono fun e w' h => ⟨by rw [h.1]; rfl, h.2⟩)
        clear CN
        have hwe : ws.length = vs.length + 1 := by rw [HWS.out]; simp
        have HWE := Lib.hid hwe
        clear hwe
        go_wp2_with (first | (go_at_call 67; refine CN0.out.mono ?_; rintro e w7 ⟨rfl, hb7⟩; have hr7 := HRW.out.below hb7; have hp7 := hr7.lt; have c2 := hr7.cell 2 rfl; have HR7 := Lib.hid hr7; have HB7 := Lib.hid hb7; clear hr7 hb7) | (go_at_call 69; refine (ron_any s j2 true false _ _ p HR7.out hj2 hs).mono ?_; rintro e w8 ⟨hu8, ⟨hx, _⟩ | ⟨_, rfl, hr8⟩⟩))
        go_roundw
        case rel => exact ⟨j2, k, m2, true, ws, xs5, A5, cap5, by omega, hj2, Nat.le_trans hsW (Nat.le_trans HB7.out.size hu8.size), hr8, BlkN.upd hu8 (HZW.out.below HB7.out) (by omega), BlkN.upd hu8 (BlkN.below HLW.out HB7.out) (by omega), (HVW.out.below HB7.out).upd hu8 (by omega), (HUW.out.below HB7.out).trans hu8, by rw [HWE.out]; omega, by omega, by rw [HWE.out]; omega, by first | trivial | (intro h; cases h), by first | exact HT.out | exact fun _ => HT.out⟩
        case measure => rw [hr8.pos, HRJ.out.pos]; simp
      | false =>
        have hdec := HDEC.out rfl
        have hwe : ws.length = vs.length + 1 := by rw [HWS.out]; simp
        have HWE := Lib.hid hwe
        clear hwe
        by_cases hjl : j2 < s.size
        rotate_left
        · have hrn : rest s j2 = [] := rest_end (by omega)
          have hrn2 : t2 = [] := by rw [hrs, hrn]
          have HT : Hid (R = (ws, rest s j2, true, m2)) := Lib.hid (by rw [← HLS.out, lsR_end _ _ _ _ _ y _ (by rw [← HY.out, hrn2]), HWS.out, hrn])
          have CN0 := Lib.hid (rnext_end HRW.out (by omega))
          clear CN hrn hrn2
          go_wp2_with (first | (go_at_call 67; refine CN0.out.mono ?_; rintro e w7 ⟨rfl, hb7⟩; have hr7 := HRW.out.below hb7; have hp7 := hr7.lt; have c1 := hr7.cell 1 rfl; have f1 := hr7.free 1; have c2 := hr7.cell 2 rfl; have c3 := hr7.cell 3 rfl; have HR7 := Lib.hid hr7; have HB7 := Lib.hid hb7; clear hr7 hb7) | (go_at_call 69; refine (ron_not HR7.out _ hj2 (fun h => absurd h hjl) hs).mono ?_; rintro e w8 ⟨rfl, hr8, hu8⟩))
          go_roundw
          case rel => exact ⟨j2, k, m2, true, ws, xs5, A5, cap5, by omega, hj2, Nat.le_trans hsW (Nat.le_trans HB7.out.size hu8.size), hr8, BlkN.upd hu8 (HZW.out.below HB7.out) (by omega), BlkN.upd hu8 (BlkN.below HLW.out HB7.out) (by omega), (HVW.out.below HB7.out).upd hu8 (by omega), (HUW.out.below HB7.out).trans hu8, by rw [HWE.out]; omega, by omega, by rw [HWE.out]; omega, by first | trivial | (intro h; cases h), by first | exact HT.out | exact fun _ => HT.out⟩
          case measure => rw [hr8.pos, HRJ.out.pos]; simp
        obtain ⟨d, hd⟩ : ∃ d, d = s[j2] := ⟨_, rfl⟩
        have hrd : rest s j2 = d :: rest s (j2 + 1) := by rw [rest_cons hjl, hd]
        have CN0 := Lib.hid (rnext_at HRW.out hjl hd)
        have HLC : Hid (R = if d = 93 then (ws, rest s (j2 + 1), false, m2) else if d = 32 ∧ 0 < m2 then lsR (rdR n) k (rest s (j2 + 1)) m2 ws else (ws, rest s j2, true, m2)) := Lib.hid (by rw [← HLS.out, lsR_cons _ _ _ _ _ y d (rest s (j2 + 1)) m2 (by rw [← HY.out, hrs, hrd]), HWS.out, hrd])
        clear CN hd hrd hrs
        have hd0 : d.toNat < 256 := d.toNat_lt
        by_cases h93 : d = 93
        · subst h93
          have HT : Hid (R = (ws, rest s (j2 + 1), false, m2)) := Lib.hid (by rw [HLC.out, if_pos rfl])
          clear HLC
          go_wp2_with (first | (go_at_call 67; refine CN0.out.mono ?_; rintro e w7 ⟨rfl, hb7⟩; have hr7 := HRW.out.below hb7; have hp7 := hr7.lt; have c1 := hr7.cell 1 rfl; have f1 := hr7.free 1; have c2 := hr7.cell 2 rfl; have c3 := hr7.cell 3 rfl; have hz7 := HZW.out.below hb7; have hl7 : BlkN w7 g 26 #[.int .u8 3, .int .i64 0, .string ⟨#[]⟩, .slice A5 ws.length cap5, .int .i64 0] := BlkN.below HLW.out hb7; have hq7 := hz7.lt; have hg7 := hl7.lt; have d0 := hz7.cell 0 rfl; have x0 := hz7.free 0; have d1 := hz7.cell 1 rfl; have x1 := hz7.free 1; have d2 := hz7.cell 2 rfl; have x2 := hz7.free 2; have d3 := hz7.cell 3 rfl; have x3 := hz7.free 3; have d4 := hz7.cell 4 rfl; have x4 := hz7.free 4; have e0 := hl7.cell 0 rfl; have y0 := hl7.free 0; have e1 := hl7.cell 1 rfl; have y1 := hl7.free 1; have e2 := hl7.cell 2 rfl; have y2 := hl7.free 2; have e3 := hl7.cell 3 rfl; have y3 := hl7.free 3; have e4 := hl7.cell 4 rfl; have y4 := hl7.free 4; have HZ7 := Lib.hid hz7; clear hz7 hl7; have HR7 := Lib.hid hr7; have HB7 := Lib.hid hb7; clear hr7 hb7))
          obtain ⟨V', hV', hB3, hbut3⟩ := set5_done (BlkN.setOther HZ7.out (q := ⟨p, 1, Option.none⟩) (by show w.heap.size ≠ p; omega) (.int .i64 ((j2 : Int) + 1))) (.int .u8 3) (.int .i64 0) (.string ⟨#[]⟩) (.slice A5 ws.length cap5) (.int .i64 0)
          rw [hV']
          refine bodyPost_ret (results_cell1 (s := 4) (b := w.heap.size) rfl Tryd.underlying26 hi0 rfl hB3 (by rw [hz1]; rfl)) rfl ⟨hbut3.upd (Nat.le_refl _) ((HUW.out.below HB7.out).set 1 _), ?_⟩
          rw [HRD.out, HT.out]
          exact ⟨j2 + 1, _, by omega, by omega, rfl, rfl, list_val ((HVW.out.below HB7.out).upd ((Upd.refl p w7).set 1 _) (by omega)) hbut3 (by omega) (by omega) (by have := HWE.out; omega), (RRd.adv HR7.out).but hbut3 (by omega), by simp only; omega⟩
        have n93 : ((d.toNat : Int) == 93) = false := u8_beq (n := 93) (by decide) h93
        by_cases h32 : d = 32 ∧ 0 < m2
        · obtain ⟨rfl, hm0⟩ := h32
          have HT : Hid (lsR (rdR n) k (rest s (j2 + 1)) m2 ws = R) := Lib.hid (by rw [HLC.out, if_neg (by decide), if_pos ⟨rfl, hm0⟩])
          clear HLC
          go_wp2_with (first | (go_at_call 67; refine CN0.out.mono ?_; rintro e w7 ⟨rfl, hb7⟩; have hr7 := HRW.out.below hb7; have hp7 := hr7.lt; have c1 := hr7.cell 1 rfl; have f1 := hr7.free 1; have c2 := hr7.cell 2 rfl; have c3 := hr7.cell 3 rfl; have HR7 := Lib.hid hr7; have HB7 := Lib.hid hb7; clear hr7 hb7) | (go_at_call 69; refine (ron_yes HR7.out hjl hs).mono ?_; rintro e w8 ⟨rfl, hr8, hu8⟩))
          go_roundw
          case rel => exact ⟨j2 + 1, k, m2, false, ws, xs5, A5, cap5, by omega, by omega, Nat.le_trans hsW (Nat.le_trans HB7.out.size hu8.size), hr8, BlkN.upd hu8 (HZW.out.below HB7.out) (by omega), BlkN.upd hu8 (BlkN.below HLW.out HB7.out) (by omega), (HVW.out.below HB7.out).upd hu8 (by omega), (HUW.out.below HB7.out).trans hu8, by rw [HWE.out]; omega, by omega, by rw [HWE.out]; omega, by first | exact ⟨by rw [HWE.out]; omega, HT.out⟩ | exact fun _ => ⟨by rw [HWE.out]; omega, HT.out⟩, by first | trivial | (intro h; cases h)⟩
          case measure => rw [hr8.pos, HRJ.out.pos]; simp; omega
        have HT : Hid (R = (ws, rest s j2, true, m2)) := Lib.hid (by rw [HLC.out, if_neg h93, if_neg h32])
        clear HLC
        have hcase : ((d.toNat : Int) == 32) = false ∨ (((d.toNat : Int) == 32) = true ∧ m2 = 0) := by
          by_cases hd32 : d = 32
          · exact .inr ⟨u8_beqt (n := 32) (by decide) hd32, by have : ¬ 0 < m2 := fun e => h32 ⟨hd32, e⟩; omega⟩
          · exact .inl (u8_beq (n := 32) (by decide) hd32)
        rcases hcase with k1 | ⟨k1, rfl⟩
        all_goals
          go_wp2_with (first | (go_at_call 67; refine CN0.out.mono ?_; rintro e w7 ⟨rfl, hb7⟩; have hr7 := HRW.out.below hb7; have hp7 := hr7.lt; have c1 := hr7.cell 1 rfl; have f1 := hr7.free 1; have c2 := hr7.cell 2 rfl; have c3 := hr7.cell 3 rfl; have HR7 := Lib.hid hr7; have HB7 := Lib.hid hb7; clear hr7 hb7) | (go_at_call 69; refine (ron_not HR7.out _ hj2 (fun _ => rfl) hs).mono ?_; rintro e w8 ⟨rfl, hr8, hu8⟩))
          go_roundw
          case rel => exact ⟨j2, k, _, true, ws, xs5, A5, cap5, by omega, hj2, Nat.le_trans hsW (Nat.le_trans HB7.out.size hu8.size), hr8, BlkN.upd hu8 (HZW.out.below HB7.out) (by omega), BlkN.upd hu8 (BlkN.below HLW.out HB7.out) (by omega), (HVW.out.below HB7.out).upd hu8 (by omega), (HUW.out.below HB7.out).trans hu8, by rw [HWE.out]; omega, by omega, by rw [HWE.out]; omega, by first | trivial | (intro h; cases h), by first | exact HT.out | exact fun _ => HT.out⟩
          case measure => rw [hr8.pos, HRJ.out.pos]; simp
theorem rvalue_any : ∀ (nest : Nat), nest ≤ 16 → RdC nest
  | 0, _ => fun s i m w p h hi hs hm => rval_leaf 0 (by omega) s i m w p h hi hs hm (fun e => by omega)
  | n + 1, hn => fun s i m w p h hi hs hm => by
    by_cases hl : 0 < m ∧ ∃ t, rest s i = 91 :: t
    · obtain ⟨hm0, t, ht⟩ := hl
      have hh : i < s.size := by
        by_cases hh : i < s.size
        · exact hh
        · rw [rest_end (by omega)] at ht; cases ht
      obtain ⟨m, rfl⟩ : ∃ k, m = k + 1 := ⟨m - 1, by omega⟩
      rw [rest_cons hh] at ht
      injection ht with e1 e2
      exact rval_list n (by omega) (rvalue_any n (by omega)) s i m w p h hh hs (by omega) e1
    · exact rval_leaf (n + 1) hn s i m w p h hi hs hm (fun e => hl ⟨e.1, e.2.2⟩)
end Go.Proofs.YtkhpfghehjcfoaaDoor
