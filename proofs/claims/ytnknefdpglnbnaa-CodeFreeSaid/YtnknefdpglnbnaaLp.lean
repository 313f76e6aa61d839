/- CodeWorks: the law's walk. -/
import Derived.Test.YtnknefdpglnbnaaLo
namespace Go.Proofs.Ytnknefdpglnbnaa
open Go.RowKit

theorem short16_any (A : Option Addr) (n c : Nat) (w : World) (b : Bool) (hb : decide ((n : Int) ≤ 200) = b) : Calls Try.prog 16 #[.slice A n c] w fun e w' => e = .returned (.bool b) ∧ w = w' := by
  go_enter Try.func16, Try.ntmps16
  go_wp2_with fail
  go_ret
  exact ⟨rfl, rfl⟩
theorem IsVaR.ownLt {w : World} {lo : Nat} {v : Value} {x : Va} (h : IsVaR w (Own34 w lo) v x) : IsVa w w.heap.size v x := h.mono fun _ _ hr => hr.lt
theorem IsNsR.lt {B lo : Nat} {w : World} {v : Value} {x : List Na} (h : IsNsR w (RN B lo w) v x) : IsNs w w.heap.size v x := h.mono fun _ _ hr => hr.2
theorem workW_bad (ns : List Na) (x : Ex) (h : ¬ (workW ns x).2 = 0) : (workW ns x).1 = zeroVa := by
  unfold workW at *
  split
  · split
    · rename_i h1 h2; simp [h1, h2] at h
    · rfl
  · rfl
attribute [local irreducible] wpList
set_option maxRecDepth 100000 in
set_option maxHeartbeats 4000000 in
theorem works_walk (ns : List Na) (x : Ex) (w : World) (v vn : Value) (h : IsEx w w.heap.size v x) (hns : IsNs w w.heap.size vn ns) :
    Calls Try.prog 3 #[vn, v] w fun e w' => e = .returned (.bool true) ∧ Below w.heap.size w w' := by
  have HH := Lib.hid h
  have HN := Lib.hid hns
  have C18 := Lib.hid (fun w' (hb : Below w.heap.size w w') => ownNames18_any (B := w.heap.size) w' (hns.keep fun b hl => hb.block b hl) hb.size)
  have C19 := Lib.hid (fun w' vin (hb : Below w.heap.size w w') (hn : IsNs w' w'.heap.size vin ns) => Work_any (B := w'.heap.size) w' (IsEx.keep (fun b hl => hb.block b hl) h |>.mono (fun b o hr => Nat.lt_of_lt_of_le hr hb.size)) hn (Nat.le_refl _))
  have C20 := Lib.hid (fun w' (hb : Below w.heap.size w w') => Work20_any (B := w.heap.size) w' (h.keep fun b hl => hb.block b hl) (hns.keep fun b hl => hb.block b hl) hb.size)
  have C21 := Lib.hid (fun w' (hb : Below w.heap.size w w') => MayExpr_any (B := w.heap.size) w' (h.keep fun b hl => hb.block b hl) hb.size)
  have C22 := Lib.hid (fun w' (hb : Below w.heap.size w w') => MayExpr22_any (B := w.heap.size) w' (h.keep fun b hl => hb.block b hl) hb.size)
  have C24 := Lib.hid (fun w' (hb : Below w.heap.size w w') => MayNames24_any (B := w.heap.size) w' (hns.keep fun b hl => hb.block b hl) hb.size)
  have C25 := Lib.hid (fun w' (hb : Below w.heap.size w w') vin (hn : IsNs w' w'.heap.size vin ns) => sameNames25_any (B := w'.heap.size) (C := w.heap.size) w' hn (hns.keep fun b hl => hb.block b hl) (Nat.le_refl _) hb.size)
  rw [workW_eq] at C19
  rw [sameNs_refl] at C25
  have hbad := workW_bad ns x
  obtain ⟨W, hW⟩ : ∃ W, W = workW ns x := ⟨_, rfl⟩
  rw [← hW] at C19 C20 hbad
  obtain ⟨y, f⟩ := W
  have HBAD := Lib.hid hbad
  obtain ⟨me, hme⟩ : ∃ me, me = mayE x := ⟨_, rfl⟩
  rw [← hme] at C21 C22
  obtain ⟨mn, hmn⟩ : ∃ mn, mn = mayNs ns := ⟨_, rfl⟩
  rw [← hmn] at C24
  obtain ⟨k, n, s, l⟩ := x
  obtain ⟨h1, h2, h3, h4, A, cap, h5, rfl, h7⟩ := h.form
  obtain ⟨An, ncap, rfl, hncap⟩ := hns.list
  have hnl := hns.1
  clear hW hbad hme hmn h h7 hns HH
  have HB0 := Lib.hid ((Below.refl w.heap.size w).alloc (Nat.le_refl _) (.cells #[.int .u8 k, .int .i64 n, .string s, .slice A l.length cap] 26))
  have HE0 : Hid (BlkN (w.alloc (.cells #[.int .u8 k, .int .i64 n, .string s, .slice A l.length cap] 26)) w.heap.size 26 #[.int .u8 k, .int .i64 n, .string s, .slice A l.length cap]) := Lib.hid (BlkN.at_ rfl _ _)
  cases hsh : decide ((ns.length : Int) ≤ 200)
  · have C16 := Lib.hid (fun w' => short16_any An ns.length ncap w' _ hsh)
    clear hsh
    go_enter Try.func3, Try.ntmps3
    go_wp2_with (first | (go_at_call 16; refine (C16.out _).mono ?_; rintro e w1 ⟨rfl, rfl⟩) | (go_at_call 17; refine (lives_any _).mono ?_; rintro e w2 ⟨rfl, hb2⟩))
    go_ret
    exact ⟨rfl, bnext HB0.out hb2⟩
  · have C16 := Lib.hid (fun w' => short16_any An ns.length ncap w' _ hsh)
    clear hsh
    go_enter Try.func3, Try.ntmps3
    go_upto_region 6 with (first | (go_at_call 16; refine (C16.out _).mono ?_; rintro e w0 ⟨rfl, rfl⟩) | (go_at_call 18; refine (C18.out _ HB0.out).mono ?_; rintro e w1 ⟨vin, rfl, hvin, hb1⟩; obtain ⟨Ai, icap, rfl, hicap⟩ := hvin.list; have hB1 := bnext HB0.out hb1; have hE1 := HE0.out.below hb1; have t0 := hE1.cell 0 rfl; have t1 := hE1.cell 1 rfl; have t2 := hE1.cell 2 rfl; have t3 := hE1.cell 3 rfl) | (go_at_call 19; refine (C19.out _ _ hB1 hvin.lt).mono ?_; rintro e w2 ⟨v1, rfl, hv1, hb2⟩; obtain ⟨k1, n1, s1, A1, len1, cap1, r1, rfl⟩ := hv1.shape; have hB2 := bnext hB1 hb2; have hE2 := hE1.below hb2; have hB2' := hB2.alloc hB2.size (.cells #[.int .u8 k1, .int .i64 n1, .string s1, .slice A1 len1 cap1, .int .i64 r1] 34); have hE2' := hE2.alloc (.cells #[.int .u8 k1, .int .i64 n1, .string s1, .slice A1 len1 cap1, .int .i64 r1] 34); have u0 := hE2'.cell 0 rfl; have u1 := hE2'.cell 1 rfl; have u2 := hE2'.cell 2 rfl; have u3 := hE2'.cell 3 rfl; have ul := hE2.lt) | (go_at_call 20; refine (C20.out _ hB2').mono ?_; rintro e w3 ⟨v2, rfl, hv2, hb3⟩; obtain ⟨k2, n2, s2, A2, len2, cap2, r2, rfl⟩ := hv2.shape))
    obtain ⟨W6, hW6⟩ : ∃ W6, W6 = w3.alloc (.cells #[.int .u8 k2, .int .i64 n2, .string s2, .slice A2 len2 cap2, .int .i64 r2] 34) := ⟨_, rfl⟩
    rw [← hW6]
    have hb3' : Below w3.heap.size w3 W6 := by rw [hW6]; exact (Below.refl _ _).alloc (Nat.le_refl _) _
    have hbY := bnext hb3 hb3'
    have HB6 := Lib.hid (bnext hB2' hbY)
    have HE6 := Lib.hid (hE2'.below hbY)
    have HV6 : Hid (BlkN W6 w2.heap.size 34 #[.int .u8 k1, .int .i64 n1, .string s1, .slice A1 len1 cap1, .int .i64 r1]) := Lib.hid ((BlkN.at_ (w := w2) rfl 34 #[.int .u8 k1, .int .i64 n1, .string s1, .slice A1 len1 cap1, .int .i64 r1]).below hbY)
    have HT6 : Hid (BlkN W6 w3.heap.size 34 #[.int .u8 k2, .int .i64 n2, .string s2, .slice A2 len2 cap2, .int .i64 r2]) := Lib.hid (by rw [hW6]; exact BlkN.at_ rfl _ _)
    have hb2a : Below w2.heap.size w2 (w2.alloc (.cells #[.int .u8 k1, .int .i64 n1, .string s1, .slice A1 len1 cap1, .int .i64 r1] 34)) := (Below.refl _ _).alloc (Nat.le_refl _) _
    have hb26 := hb2a.trans (hbY.mono hb2a.size)
    have hb16 := hb2.trans (hb26.mono hb2.size)
    have HVX := Lib.hid hv1
    have HV16 := Lib.hid hb16
    have HV26 := Lib.hid hb26
    have HIN : Hid (IsNs w1 w1.heap.size (.slice Ai ns.length icap) ns) := Lib.hid hvin.lt
    have HV2 : Hid (IsVa W6 W6.heap.size (.agg #[.int .u8 k2, .int .i64 n2, .string s2, .slice A2 len2 cap2, .int .i64 r2]) y) := Lib.hid ((IsVa.keep (fun b hb => hb3'.block b hb) hv2.lt).mono fun b o hr => Nat.lt_of_lt_of_le hr hb3'.size)
    have HB1 := Lib.hid hB1
    have HB12 := Lib.hid hb2
    have y0 := HE6.out.cell 0 rfl
    have y1 := HE6.out.cell 1 rfl
    have y2 := HE6.out.cell 2 rfl
    have y3 := HE6.out.cell 3 rfl
    clear hW6 hb3' hbY hb2a hb26 hb16 hv1 hvin hv2 hB1 hb1 hb2 hb3 hE1 hE2 hE2' hB2 hB2' t0 t1 t2 t3 u0 u1 u2 u3 ul
    have hne : (f != f) = false := by simp
    refine RegT.region_seq (fun i => Nat.ble i 6) (fun W => W.cell? ⟨w.heap.size, 0, Option.none⟩ = some (.int .u8 k) ∧ W.cell? ⟨w.heap.size, 1, Option.none⟩ = some (.int .i64 n) ∧ W.cell? ⟨w.heap.size, 2, Option.none⟩ = some (.string s) ∧ W.cell? ⟨w.heap.size, 3, Option.none⟩ = some (.slice A l.length cap)) [0, 1, 2, 3, 4, 6] [5, 7, 8, 9] (by kernel_rfl) (by kernel_rfl) (by decide +kernel) (by decide) ⟨y0, y1, y2, y3⟩ ?_
    refine RegT.quiet_step rfl (fun _ _ _ h => h) (by kernel_rfl) (v := .int .i64 f) (fun w' hS => ?_) ?_
    · go_simp
    refine RegT.quiet_step rfl (fun _ _ _ h => h) (by kernel_rfl) (v := .int .i64 f) (fun w' hS => ?_) ?_
    · go_simp
    refine RegT.quiet_step rfl (fun _ _ _ h => h) (by kernel_rfl) (v := .bool false) (fun w' hS => ?_) ?_
    · go_simp
    refine RegT.quiet_step rfl (fun _ _ _ h => h) (by kernel_rfl) (v := .bool false) (fun w' hS => ?_) ?_
    · go_simp
    refine RegT.quiet_step rfl (fun _ _ _ h => h) (by kernel_rfl) (v := .agg #[.int .u8 k, .int .i64 n, .string s, .slice A l.length cap]) (fun w' hS => ?_) ?_
    · obtain ⟨t0, t1, t2, t3⟩ := hS; go_simp
    refine RegT.quiet_step rfl (fun _ _ _ h => h) (by kernel_rfl) (v := .agg #[.int .u8 k, .int .i64 n, .string s, .slice A l.length cap]) (fun w' hS => ?_) ?_
    · obtain ⟨t0, t1, t2, t3⟩ := hS; go_simp
    refine RegT.seqT_held rfl ?_
    have HD6 := Lib.hid (HB6.out.drew)
    go_wp2_with (go_at_call 21; refine (C21.out _ HD6.out).mono ?_; rintro e w7 ⟨rfl, hb7⟩)
    have hb67 : Below W6.heap.size W6 w7 := bnext (Below.refl _ _).drew hb7
    have HB7 := Lib.hid (bnext HB6.out hb67)
    have HE7 := HE6.out.below hb67
    refine ⟨⟨HE7.cell 0 rfl, HE7.cell 1 rfl, HE7.cell 2 rfl, HE7.cell 3 rfl⟩, RegT.seqT_tail [7, 8, 9] [_, _, _] rfl rfl _ _ ?_⟩
    have HB67 := Lib.hid hb67
    have hme : (me != me) = false := by simp
    clear hb67 hb7 HE7 y0 y1 y2 y3
    go_wp2_with (go_at_call 22; refine (C22.out _ HB7.out).mono ?_; rintro e w8 ⟨rfl, hb8⟩)
    simp only [RegT.NP, Exit.then]
    have hb68 := HB67.out.trans (hb8.mono HB67.out.size)
    have HB68 := Lib.hid hb68
    have HB8 := Lib.hid (bnext HB7.out hb8)
    clear hb8 hb68
    by_cases hf : f = 0
    · subst hf
      clear HBAD
      have HV8 := HV6.out.below HB68.out
      have HT8 := HT6.out.below HB68.out
      have hc23 := Same23_any y y w8 w2.heap.size W6.heap.size (.agg #[.int .u8 k1, .int .i64 n1, .string s1, .slice A1 len1 cap1, .int .i64 r1]) (.agg #[.int .u8 k2, .int .i64 n2, .string s2, .slice A2 len2 cap2, .int .i64 r2]) (IsVa.keep (fun b hb => (HB68.out.block b (Nat.lt_of_lt_of_le hb HV26.out.size)).trans (HV26.out.block b hb)) HVX.out.ownLt) (IsVa.keep (fun b hb => HB68.out.block b hb) HV2.out) (Nat.le_trans HV26.out.size HB68.out.size) HB68.out.size
      rw [sameV_refl] at hc23
      have C23 := Lib.hid hc23
      have HV8' := Lib.hid HV8
      have z0 := HV8.cell 0 rfl
      have z1 := HV8.cell 1 rfl
      have z2 := HV8.cell 2 rfl
      have z3 := HV8.cell 3 rfl
      have z4 := HV8.cell 4 rfl
      have x0 := HT8.cell 0 rfl
      have x1 := HT8.cell 1 rfl
      have x2 := HT8.cell 2 rfl
      have x3 := HT8.cell 3 rfl
      have x4 := HT8.cell 4 rfl
      have htop : ∃ g L, len1 ≤ cap1 ∧ len1 ≤ 140737488351232 ∧ (0 < len1 → A1 = some ⟨g, 0, Option.none⟩ ∧ w1.heap.size ≤ g ∧ g < w2.heap.size ∧ L.length = len1 ∧ (∀ x ∈ L, x ≤ 140737488351232) ∧ Tops w2 w1.heap.size w2.heap.size g L) := by
        obtain ⟨ky, ny, sy, ly, ry⟩ := y
        obtain ⟨_, _, _, g4, A', cap', g5, h6, g7⟩ := HVX.out.form
        simp only [Value.agg.injEq, Array.mk.injEq, List.cons.injEq, Value.slice.injEq, Value.int.injEq, and_true, true_and] at h6
        obtain ⟨_, _, _, ⟨rfl, rfl, rfl⟩, _⟩ := h6
        by_cases hz : ly = []
        · exact ⟨0, [], g5, g4, fun h => by subst hz; simp at h⟩
        · obtain ⟨b, o, ho, rfl, hx⟩ := g7 hz
          obtain ⟨g8, rfl, g9⟩ := ho
          exact ⟨b, lens ly, g5, g4, fun _ => ⟨rfl, g8, by obtain ⟨cur, hc⟩ := g9; exact hc.lt, lens_len ly, lens_le hx, tops_of g9 hx hz⟩⟩
      obtain ⟨g, L, hcap1, hlen1, hg⟩ := htop
      have HG := Lib.hid hg
      clear hc23 HV8 HT8 HV2 HVX HV6 HT6 hg
      go_wp2_with (go_at_call 23; refine (C23.out).mono ?_; rintro e w9 ⟨rfl, hb9⟩)
      have HB9 : Hid (Below w1.heap.size w1 w9) := Lib.hid (HV16.out.trans ((HB68.out.trans (hb9.mono HB68.out.size)).mono HV16.out.size))
      have HV9 := Lib.hid (HV8'.out.below hb9)
      have HG9 : Hid (0 < len1 → Tops w9 w1.heap.size w2.heap.size g L) := Lib.hid (fun h => (HG.out h).2.2.2.2.2.below (HV26.out.trans ((HB68.out.trans (hb9.mono HB68.out.size)).mono HV26.out.size)))
      clear C23 hb9 z0 z1 z2 z3 z4 x0 x1 x2 x3 x4 HV8'
      have hw12 : w1.heap.size ≤ w2.heap.size := HB12.out.size
      go_loopw [10] (fun i wr => ∃ j : Nat, j ≤ len1 ∧ i = .int .i64 j ∧ Below w1.heap.size w1 wr ∧ BlkN wr w2.heap.size 34 #[.int .u8 k1, .int .i64 n1, .string s1, .slice A1 len1 cap1, .int .i64 r1] ∧ (0 < len1 → Tops wr w1.heap.size w2.heap.size g L)) (fun i _ => len1 - (intOf i).toNat)
      case atStart => exact ⟨0, by omega, rfl, HB9.out, HV9.out, HG9.out⟩
      case round =>
        obtain ⟨j, hj, rfl, hu, hq, ht⟩ := hrel
        have HU := Lib.hid hu
        have HQ := Lib.hid hq
        have HT := Lib.hid ht
        have z3 := hq.cell 3 rfl
        clear hu hq ht
        by_cases hlt : j < len1
        · obtain ⟨hA1, hg1, hg2, hL1, hL2, _⟩ := HG.out (by omega)
          subst hA1
          have hjL : j < L.length := by omega
          have hM := hL2 _ (List.getElem_mem hjL)
          obtain ⟨M, hMd⟩ : ∃ M, M = L[j] := ⟨_, rfl⟩
          rw [← hMd] at hM
          have HM := Lib.hid hMd
          have HL1 := Lib.hid hL1
          clear hMd hL1 hL2
          go_wp2_with fail
          obtain ⟨wo, rfl⟩ : ∃ wo : World, wo = wr := ⟨_, rfl⟩
          go_loopw [11] (fun i wi => ∃ m : Nat, m ≤ M ∧ i = .int .i64 m ∧ Below w1.heap.size w1 wi ∧ BlkN wi w2.heap.size 34 #[.int .u8 k1, .int .i64 n1, .string s1, .slice (some ⟨g, 0, Option.none⟩) len1 cap1, .int .i64 r1] ∧ Tops wi w1.heap.size w2.heap.size g L) (fun i _ => M - (intOf i).toNat)
          case atStart => exact ⟨0, by omega, rfl, HU.out, HQ.out, HT.out (by omega)⟩
          case round =>
            obtain ⟨m, hm, rfl, hu, hq, ht⟩ := hrel
            have HU1 := Lib.hid hu
            have HQ1 := Lib.hid hq
            have HT1 := Lib.hid ht
            have z3' := hq.cell 3 rfl
            obtain ⟨k', m', s', A', l', c', r', hat, hlM, hlc, htar⟩ := ht.2 j hjL
            rw [← HM.out] at hlM
            have e3 : wr.cell? ⟨g, j * 5 + 3, Option.none⟩ = some (.slice A' l' c') := hat 3 _ rfl
            have hok := ht.1
            rw [HL1.out] at hok
            clear hu hq ht hat
            by_cases hml : m < l'
            · obtain ⟨b', rfl, hb1, hb2, cur, hc, hs⟩ := htar (by omega)
              have hokb : OkB wr b' l' := ⟨cur, hc, hs⟩
              have HOKB := Lib.hid hokb
              obtain ⟨q0, c0⟩ := hc.some (m * 5) (by omega)
              obtain ⟨q1, c1⟩ := hc.some (m * 5 + 1) (by omega)
              obtain ⟨q2, c2⟩ := hc.some (m * 5 + 2) (by omega)
              obtain ⟨q3, c3⟩ := hc.some (m * 5 + 3) (by omega)
              obtain ⟨q4, c4⟩ := hc.some (m * 5 + 4) (by omega)
              have f0 := hc.free (m * 5)
              have f1 := hc.free (m * 5 + 1)
              have f2 := hc.free (m * 5 + 2)
              have f3 := hc.free (m * 5 + 3)
              have f4 := hc.free (m * 5 + 4)
              clear hc hokb hok htar hs
              go_wp2_with fail
              go_roundw
              case rel => exact ⟨m + 1, by omega, by go_num, ((((HU1.out.setCell hb1 _).setCell hb1 _).setCell hb1 _).setCell hb1 _).setCell hb1 _, ((((HQ1.out.setOther (by simp; omega) _).setOther (by simp; omega) _).setOther (by simp; omega) _).setOther (by simp; omega) _).setOther (by simp; omega) _, HT1.out.set HOKB.out hml _ _ _ _⟩
              case measure => simp [intOf]; omega
            · have HOK := Lib.hid hok
              obtain ⟨cur, hc, hs⟩ := hok
              obtain ⟨q0, c0⟩ := hc.some (j * 5) (by omega)
              obtain ⟨q1, c1⟩ := hc.some (j * 5 + 1) (by omega)
              obtain ⟨q2, c2⟩ := hc.some (j * 5 + 2) (by omega)
              obtain ⟨q4, c4⟩ := hc.some (j * 5 + 4) (by omega)
              have f0 := hc.free (j * 5)
              have f1 := hc.free (j * 5 + 1)
              have f2 := hc.free (j * 5 + 2)
              have f3 := hc.free (j * 5 + 3)
              have f4 := hc.free (j * 5 + 4)
              clear hc hs htar
              go_wp2_with fail
              go_roundw
              case rel => exact ⟨j + 1, by omega, by go_num, ((((HU1.out.setCell hg1 _).setCell hg1 _).setCell hg1 _).setCell hg1 _).setCell hg1 _, ((((HQ1.out.setOther (by simp; omega) _).setOther (by simp; omega) _).setOther (by simp; omega) _).setOther (by simp; omega) _).setOther (by simp; omega) _, fun _ => HT1.out.set HOK.out hlt _ _ _ _⟩
              case measure => simp [intOf]; omega
        · obtain rfl : j = len1 := by omega
          have hbw : Below w.heap.size w wr := HB1.out.trans (HU.out.mono HB1.out.size)
          have HBW := Lib.hid hbw
          cases mn
          · clear HT hbw
            go_wp2_with (first | (go_at_call 24; refine (C24.out _ HBW.out).mono ?_; rintro e w10 ⟨rfl, hb10⟩) | (go_at_call 17; refine (lives_any _).mono ?_; rintro e w11 ⟨rfl, hb11⟩))
            go_ret
            exact ⟨rfl, bnext (bnext HBW.out hb10) hb11⟩
          · clear HT hbw
            go_wp2_with (first | (go_at_call 24; refine (C24.out _ HBW.out).mono ?_; rintro e w10 ⟨rfl, hb10⟩; have hB10 := bnext HBW.out hb10; have hin : IsNs w10 w10.heap.size (.slice Ai ns.length icap) ns := (IsNsR.keep (fun b o hb => (hb10.block b (Nat.lt_of_lt_of_le hb HU.out.size)).trans (HU.out.block b hb)) HIN.out).mono (fun b o hr => Nat.lt_of_lt_of_le hr (Nat.le_trans HU.out.size hb10.size))) | (go_at_call 25; refine (C25.out _ hB10 _ hin).mono ?_; rintro e w12 ⟨rfl, hb12⟩) | (go_at_call 17; refine (lives_any _).mono ?_; rintro e w11 ⟨rfl, hb11⟩))
            go_ret
            exact ⟨rfl, bnext (bnext hB10 hb12) hb11⟩
    · have hf1 : (f != 0) = true := by simpa using hf
      have hy := HBAD.out hf
      subst hy
      obtain ⟨_, _, _, _, A', cap', _, h6, _⟩ := (show IsVaR _ _ _ (.mk 0 0 ⟨#[]⟩ [] 0) from HVX.out).form
      simp only [Value.agg.injEq, Array.mk.injEq, List.cons.injEq, Value.slice.injEq, Value.int.injEq, and_true, true_and] at h6
      obtain ⟨rfl, rfl, h8, ⟨rfl, rfl, rfl⟩, rfl⟩ := h6
      have HV8 := HV6.out.below HB68.out
      have z0 := HV8.cell 0 rfl
      have z3 := HV8.cell 3 rfl
      clear hf
      go_wp2_with (go_at_call 17; refine (lives_any _).mono ?_; rintro e w9 ⟨rfl, hb9⟩)
      go_ret
      exact ⟨rfl, bnext HB8.out hb9⟩
end Go.Proofs.Ytnknefdpglnbnaa
