/- CodeSets: the law's walk. -/
import Derived.Test.YtnknefdpglnbnaaMh
import Derived.Test.YtnknefdpglnbnaaLp
namespace Go.Proofs.Ytnknefdpglnbnaa
open Go.RowKit

theorem setW_bad (ns : List Na) (s : ByteArray) (x : Va) (h : ¬ (setW ns s x).2 = 0) : (setW ns s x).1 = [] := by
  unfold setW at *
  split
  · rename_i h1
    rw [if_pos h1] at h
    split
    · rename_i h2; rw [if_pos h2] at h; exact absurd rfl h
    · rename_i h2
      rw [if_neg h2] at h
      split
      · rfl
      · rename_i h3; rw [if_neg h3] at h; exact absurd rfl h
  · rfl
theorem setW_len (ns : List Na) (s : ByteArray) (x : Va) : (setW ns s x).1.length ≤ ns.length + 1 := by
  unfold setW setN
  split
  · split
    · simp
    · split <;> simp
  · simp
theorem row_of {w : World} {lo : Nat} {k n r : Int} {s : ByteArray} {A : Option Addr} {len cap : Nat} {x : Va} (h : IsVaR w (Own34 w lo) (.agg #[.int .u8 k, .int .i64 n, .string s, .slice A len cap, .int .i64 r]) x) : len ≤ cap ∧ len ≤ 140737488351232 ∧ (0 < len → ∃ b, A = some ⟨b, 0, Option.none⟩ ∧ lo ≤ b ∧ OkB w b len) := by
  obtain ⟨k', n', s', m, r'⟩ := x
  have hml := h.len
  obtain ⟨_, _, _, _, A', cap', h5, h6, h7⟩ := h.form
  simp only [Value.agg.injEq, Array.mk.injEq, List.cons.injEq, Value.slice.injEq, and_true] at h6
  obtain ⟨_, _, _, ⟨rfl, rfl, rfl⟩, _⟩ := h6
  refine ⟨h5, by omega, fun hpos => ?_⟩
  obtain ⟨b, o, h8, rfl, h9⟩ := h7 (by rintro rfl; simp at hpos)
  obtain ⟨h10, rfl, cur, hc⟩ := h8
  refine ⟨b, rfl, h10, cur, hc, ?_⟩
  obtain ⟨c0, c1, c2, c3, c4, ha, _⟩ := h9.at (m.length - 1) (by omega)
  have := ha 4 c4 rfl
  rw [hc.cell_eq] at this
  have := (Array.getElem?_eq_some_iff.1 this).1
  omega
set_option maxRecDepth 100000 in
set_option maxHeartbeats 4000000 in
theorem sets_walk (ns : List Na) (sx : ByteArray) (x : Va) (w : World) (vn v : Value) (hns : IsNs w w.heap.size vn ns) (hsx : sx.size ≤ 140737488351232) (hv : IsVa w w.heap.size v x) :
    Calls Try.prog 8 #[vn, .string sx, v] w fun e w' => e = .returned (.bool true) ∧ Below w.heap.size w w' := by
  have HN := Lib.hid hns
  have HV := Lib.hid hv
  have C18 := Lib.hid (fun w' (hb : Below w.heap.size w w') => ownNames18_any (B := w.heap.size) w' (hns.keep fun b hl => hb.block b hl) hb.size)
  have C45 := Lib.hid (fun w' B vin (hn : IsNs w' B vin ns) (hx : IsVa w' B v x) (hB : B ≤ w'.heap.size) => Set45_any (B := B) sx w' hn hx hsx hB)
  have C46 := Lib.hid (fun w' (hb : Below w.heap.size w w') => Set46_any (B := w.heap.size) (x := x) sx w' (hns.keep fun b hl => hb.block b hl) (hv.keep fun b hl => hb.block b hl) hsx hb.size)
  have hbad := setW_bad ns sx x
  have hlen := setW_len ns sx x
  obtain ⟨WO, hWO⟩ : ∃ WO, WO = setW ns sx x := ⟨_, rfl⟩
  rw [← hWO] at C45 C46 hbad hlen
  obtain ⟨ol, fo⟩ := WO
  simp only at hbad hlen
  have HBAD := Lib.hid hbad
  obtain ⟨An, ncap, rfl, hncap⟩ := hns.list
  have hnl := hns.1
  obtain ⟨k, n, t, A, len, cap, r, rfl⟩ := hv.shape
  have HB0 := Lib.hid ((Below.refl w.heap.size w).alloc (Nat.le_refl _) (.cells #[.int .u8 k, .int .i64 n, .string t, .slice A len cap, .int .i64 r] 34))
  have HQ : Hid (BlkN (w.alloc (.cells #[.int .u8 k, .int .i64 n, .string t, .slice A len cap, .int .i64 r] 34)) w.heap.size 34 #[.int .u8 k, .int .i64 n, .string t, .slice A len cap, .int .i64 r]) := Lib.hid (BlkN.at_ rfl _ _)
  clear hns hv hWO hbad
  by_cases hsh : decide ((ns.length : Int) ≤ 200) = false
  · have C16 := Lib.hid (fun w' => short16_any An ns.length ncap w' _ hsh)
    clear hsh
    go_enter Try.func8, Try.ntmps8
    go_wp2_with (first | (go_at_call 16; refine (C16.out _).mono ?_; rintro e w1 ⟨rfl, rfl⟩) | (go_at_call 17; refine (lives_any _).mono ?_; rintro e w2 ⟨rfl, hb2⟩))
    go_ret
    exact ⟨rfl, bnext HB0.out hb2⟩
  have hns200 : ns.length ≤ 200 := by simp at hsh; omega
  have C16 := Lib.hid (fun w' => short16_any An ns.length ncap w' _ (by simpa using hsh : decide ((ns.length : Int) ≤ 200) = true))
  clear hsh
  have hol : ol.length ≤ 140737488351232 := by omega
  have hol2 : ol.length * 80 ≤ 140737488351232 := by omega
  have hff : (fo != fo) = false := by simp
  go_enter Try.func8, Try.ntmps8
  go_upto_region 6 with (first | (go_at_call 16; refine (C16.out _).mono ?_; rintro e w0 ⟨rfl, rfl⟩) | (go_at_call 18; refine (C18.out _ HB0.out).mono ?_; rintro e w1 ⟨vin, rfl, hvin, hb1⟩; obtain ⟨Ai, icap, rfl, hicap⟩ := hvin.list; have hB1 := bnext HB0.out hb1; have hq1 := HQ.out.below hb1; have q0 := hq1.cell 0 rfl; have q1 := hq1.cell 1 rfl; have q2 := hq1.cell 2 rfl; have q3 := hq1.cell 3 rfl; have q4 := hq1.cell 4 rfl) | (go_at_call 45; refine (C45.out _ w1.heap.size _ hvin.lt (IsVaR.mono (fun b o hr => Nat.lt_of_lt_of_le hr hB1.size) (HV.out.keep fun b hl => hB1.block b hl)) (Nat.le_refl _)).mono ?_; rintro e w2 ⟨vl, rfl, hvl, hb2⟩; obtain ⟨Al, cl, gl, Ll, rfl, hcl, hLl⟩ := ntopsH_of (show Own73 RdN34 w2 0 w1.heap.size vl ol from hvl) hol; have hB2 := bnext hB1 hb2; have hq2 := hq1.below hb2; have q0 := hq2.cell 0 rfl; have q1 := hq2.cell 1 rfl; have q2 := hq2.cell 2 rfl; have q3 := hq2.cell 3 rfl; have q4 := hq2.cell 4 rfl) | (go_at_call 46; refine (C46.out _ hB2).mono ?_; rintro e w3 ⟨vm, rfl, hvm, hb3⟩))
  have hvl' : Own73 RdN34 w2 0 w1.heap.size (.slice Al ol.length cl) ol := hvl
  have hvm' : Own73 RdN w3 w.heap.size w2.heap.size vm ol := hvm
  have HNL : Hid (IsNs w3 w3.heap.size (.slice Al ol.length cl) ol) := Lib.hid ((hvl'.below hb3).names RdN34.plain hol2)
  have HNM : Hid (IsNsR w3 (RN w.heap.size w2.heap.size w3) vm ol) := Lib.hid (hvm'.namesR hol2)
  have HLL : Hid (0 < ol.length → Al = some ⟨gl, 0, Option.none⟩ ∧ w1.heap.size ≤ gl ∧ gl < w2.heap.size ∧ Ll.length = ol.length ∧ (∀ x ∈ Ll, x ≤ 140737488351232) ∧ NTopsH w3 w1.heap.size w2.heap.size gl Ll) := Lib.hid (fun h => ⟨(hLl h).1, (hLl h).2.1, (hLl h).2.2.1, (hLl h).2.2.2.1, (hLl h).2.2.2.2.1, (hLl h).2.2.2.2.2.below hb3⟩)
  obtain ⟨Am, mcap, rfl, hmcap⟩ := HNM.out.list
  have HIN : Hid (IsNs w1 w1.heap.size (.slice Ai ns.length icap) ns) := Lib.hid hvin.lt
  have HB1 := Lib.hid hB1
  have HB2 := Lib.hid hB2
  have HB3 := Lib.hid (bnext hB2 hb3)
  have HB13 := Lib.hid (bnext hb2 hb3)
  have HB23 := Lib.hid hb3
  have HQ3 := Lib.hid (hq2.below hb3)
  have HZ : Hid (w.heap.size < w1.heap.size ∧ w1.heap.size ≤ w2.heap.size ∧ w2.heap.size ≤ w3.heap.size) := Lib.hid ⟨hq1.lt, hb2.size, hb3.size⟩
  clear hvl hvm hvl' hvm' hLl hb1 hb2 hb3 hB1 hB2 hq1 hq2 q0 q1 q2 q3 q4 hvin C18 C46 C16 HQ HB0
  by_cases hfo : fo = 0
  · subst hfo
    clear HBAD
    have C25 := Lib.hid (fun w' (hb : Below w3.heap.size w3 w') => sameNames25_any (B := w3.heap.size) (C := w3.heap.size) w' (IsNsR.keep (fun b o hl => hb.block b hl) HNL.out) (IsNsR.keep (fun b o hl => hb.block b hl) HNM.out.lt) hb.size hb.size)
    rw [sameNs_refl] at C25
    have C36 := Lib.hid (fun w' (hb : Below w3.heap.size w3 w') => Get_any (B := w3.heap.size) sx w' (IsNsR.keep (fun b o hl => hb.block b hl) HNL.out) hb.size)
    go_upto_region 13 with (first | (go_at_call 25; refine (C25.out _ (Below.refl _ _)).mono ?_; rintro e w4 ⟨rfl, hb4⟩) | (go_at_call 36; refine (C36.out _ hb4).mono ?_; rintro e w5 ⟨vx, rfl, hvx, hb5⟩; obtain ⟨k1, n1, s1, A1, len1, cap1, r1, rfl⟩ := hvx.shape))
    obtain ⟨hlc1, hl1, hrow⟩ := row_of hvx
    have hal : Below w5.heap.size w5 (w5.alloc (.cells #[.int .u8 k1, .int .i64 n1, .string s1, .slice A1 len1 cap1, .int .i64 r1] 34)) := (Below.refl _ _).alloc (Nat.le_refl _) _
    have HROW : Hid (0 < len1 → ∃ b, A1 = some ⟨b, 0, Option.none⟩ ∧ w4.heap.size ≤ b ∧ b < w5.heap.size ∧ OkB (w5.alloc (.cells #[.int .u8 k1, .int .i64 n1, .string s1, .slice A1 len1 cap1, .int .i64 r1] 34)) b len1) := Lib.hid (fun h => by obtain ⟨b, h1, h2, h3⟩ := hrow h; exact ⟨b, h1, h2, h3.lt, h3.below hal⟩)
    have HU0 := Lib.hid (bnext hb5 hal)
    have HX0 : Hid (BlkN (w5.alloc (.cells #[.int .u8 k1, .int .i64 n1, .string s1, .slice A1 len1 cap1, .int .i64 r1] 34)) w5.heap.size 34 #[.int .u8 k1, .int .i64 n1, .string s1, .slice A1 len1 cap1, .int .i64 r1]) := Lib.hid (BlkN.at_ rfl _ _)
    have HB34 := Lib.hid hb4
    clear hrow hal hvx hb4 hb5 C25 C36
    go_wp2_with fail
    go_loopw [14] (fun i wr => ∃ j : Nat, j ≤ len1 ∧ i = .int .i64 j ∧ Below w4.heap.size w4 wr ∧ BlkN wr w5.heap.size 34 #[.int .u8 k1, .int .i64 n1, .string s1, .slice A1 len1 cap1, .int .i64 r1] ∧ (0 < len1 → ∃ b, A1 = some ⟨b, 0, Option.none⟩ ∧ w4.heap.size ≤ b ∧ b < w5.heap.size ∧ OkB wr b len1)) (fun i _ => len1 - (intOf i).toNat)
    case atStart => exact ⟨0, by omega, rfl, HU0.out, HX0.out, HROW.out⟩
    case round =>
      obtain ⟨j, hj, rfl, hu, hq, ht⟩ := hrel
      have HU := Lib.hid hu
      have HX := Lib.hid hq
      have z3 := hq.cell 3 rfl
      clear hq
      by_cases hlt : j < len1
      · obtain ⟨b', rfl, hb1, hb2, cur, hc, hs⟩ := ht (by omega)
        have hokb : OkB wr b' len1 := ⟨cur, hc, hs⟩
        have HOKB := Lib.hid hokb
        obtain ⟨q0, c0⟩ := hc.some (j * 5) (by omega)
        obtain ⟨q1, c1⟩ := hc.some (j * 5 + 1) (by omega)
        obtain ⟨q2, c2⟩ := hc.some (j * 5 + 2) (by omega)
        obtain ⟨q3, c3⟩ := hc.some (j * 5 + 3) (by omega)
        obtain ⟨q4, c4⟩ := hc.some (j * 5 + 4) (by omega)
        have f0 := hc.free (j * 5)
        have f1 := hc.free (j * 5 + 1)
        have f2 := hc.free (j * 5 + 2)
        have f3 := hc.free (j * 5 + 3)
        have f4 := hc.free (j * 5 + 4)
        clear hc hokb ht hs hu
        go_wp2_with fail
        go_roundw
        case rel => exact ⟨j + 1, by omega, by go_num, ((((HU.out.setCell hb1 _).setCell hb1 _).setCell hb1 _).setCell hb1 _).setCell hb1 _, ((((HX.out.setOther (by simp; omega) _).setOther (by simp; omega) _).setOther (by simp; omega) _).setOther (by simp; omega) _).setOther (by simp; omega) _, fun _ => ⟨b', rfl, hb1, hb2, HOKB.out.set _ _ _ _ _ _ _⟩⟩
        case measure => simp [intOf]; omega
      · obtain rfl : j = len1 := by omega
        clear ht
        have hb3r := bnext HB34.out hu
        have C44 := Lib.hid (spoilNamesH_any Al ol.length cl w1.heap.size w2.heap.size gl Ll wr hcl hol (fun h => ⟨(HLL.out h).1, (HLL.out h).2.1, (HLL.out h).2.2.1, (HLL.out h).2.2.2.1, (HLL.out h).2.2.2.2.1, (HLL.out h).2.2.2.2.2.below hb3r⟩))
        have HB3R := Lib.hid hb3r
        clear hb3r hu
        go_upto_region 18 with (go_at_call 44; refine C44.out.mono ?_; rintro e w7 ⟨rfl, hw7⟩)
        have hz := HZ.out
        have hsr := HB3R.out.size
        have h17 : ∀ b, b < w1.heap.size → w7.heap[b]? = w1.heap[b]? := fun b hb => (hw7.block b (by omega) (.inl hb)).trans ((bnext HB13.out HB3R.out).block b hb)
        have hin : IsNs w7 w1.heap.size (.slice Ai ns.length icap) ns := HIN.out.keep h17
        have hBR : Below w.heap.size w wr := bnext HB3.out HB3R.out
        have hB7 : Below w.heap.size w w7 := hBR.trans ((hw7.grow (by omega)).mono (by omega))
        have hx7 : IsVa w7 w1.heap.size (.agg #[.int .u8 k, .int .i64 n, .string t, .slice A len cap, .int .i64 r]) x := IsVaR.mono (fun b o hr => Nat.lt_trans hr hz.1) (HV.out.keep fun b hl => hB7.block b hl)
        have hs7 := hw7.size
        have hm7 : IsNs w7 w3.heap.size (.slice Am ol.length mcap) ol := (IsNsR.keep (fun b o hr => (hw7.block b (by have := hr.2; omega) (by rcases hr.1 with h | h <;> omega)).trans (HB3R.out.block b hr.2)) HNM.out).mono fun b o hr => hr.2
        have hq7 : BlkN w7 w.heap.size 34 #[.int .u8 k, .int .i64 n, .string t, .slice A len cap, .int .i64 r] := (hw7.block _ (by omega) (.inl hz.1)).trans ((HB3R.out.block _ (by omega)).trans HQ3.out)
        have q0 := hq7.cell 0 rfl
        have q1 := hq7.cell 1 rfl
        have q2 := hq7.cell 2 rfl
        have q3 := hq7.cell 3 rfl
        have q4 := hq7.cell 4 rfl
        have C45' := Lib.hid (C45.out w7 w1.heap.size _ hin hx7 (by omega))
        have C25a := Lib.hid (fun w' (hb : Below w7.heap.size w7 w') => sameNames25_any (B := w1.heap.size) (C := w.heap.size) w' (hin.keep fun b hl => hb.block b (by omega)) (IsNs.keep (fun b hl => hb.block b (by omega)) (HN.out.keep fun b hl => hB7.block b hl)) (by have := hb.size; omega) (by have := hb.size; omega))
        have C25b := Lib.hid (fun w' vl (hl2 : Own73 RdN34 w' 0 w7.heap.size vl ol) (hb : Below w7.heap.size w7 w') w'' (hb2 : Below w'.heap.size w' w'') => sameNames25_any (B := w'.heap.size) (C := w3.heap.size) w'' (IsNsR.keep (fun b o hl => hb2.block b hl) (hl2.names RdN34.plain hol2)) (IsNs.keep (fun b hl => (bnext hb hb2).block b (by omega)) hm7) hb2.size (by have := hb.size; have := hb2.size; omega))
        rw [sameNs_refl] at C25a C25b
        have HB7 := Lib.hid hB7
        clear hz hsr h17 hin hBR hB7 hx7 hs7 hm7 hq7 hw7 C44 C45
        go_wp2_with (first | (go_at_call 45; refine C45'.out.mono ?_; rintro e w8 ⟨vl2, rfl, hvl2, hb8⟩; obtain ⟨A8, c8, _, _, rfl, hc8, _⟩ := ntopsH_of (show Own73 RdN34 w8 0 w7.heap.size vl2 ol from hvl2) hol) | (go_at_call 25; with_reducible refine (C25a.out _ hb8).mono ?_; rintro e w9 ⟨rfl, hb9⟩) | (go_at_call 25; refine (C25b.out w8 _ hvl2 hb8 _ hb9).mono ?_; rintro e w10 ⟨rfl, hb10⟩) | (go_at_call 17; refine (lives_any _).mono ?_; rintro e w11 ⟨rfl, hb11⟩))
        go_ret
        exact ⟨rfl, bnext (bnext (bnext (bnext HB7.out hb8) hb9) hb10) hb11⟩
  · have hf1 : (fo != 0) = true := by simpa using hfo
    have hol0 := HBAD.out hfo
    subst hol0
    clear hfo
    go_wp2_with (go_at_call 17; refine (lives_any _).mono ?_; rintro e w4 ⟨rfl, hb4⟩)
    go_ret
    exact ⟨rfl, bnext HB3.out hb4⟩
end Go.Proofs.Ytnknefdpglnbnaa
