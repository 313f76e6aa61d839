/- The document's Set, walked. Names written over, within a window of blocks. -/
import Derived.Test.YtnknefdpglnbnaaMf
namespace Go.Proofs.Ytnknefdpglnbnaa
open Go.RowKit

theorem setN_take (ns : List Na) (s : ByteArray) (x : Va) (j : Nat) (h : j < ns.length) : setN (ns.take (j + 1)) s x = setN (ns.take j) s x ++ [if ns[j].1.toList == s.toList then (ns[j].1, x) else ns[j]] := by
  unfold setN
  rw [take_snoc_get ns j h, List.map_append, List.map_singleton]
theorem getB_any : ∀ (ns : List Na) (s : ByteArray), getB ns s = ns.any fun x => x.1.toList == s.toList
  | [], _ => rfl
  | (nm, v) :: l, s => by
    have ih := getB_any l s
    unfold getB at ih ⊢
    simp only [List.any_cons, getN]
    cases nm.toList == s.toList
    · simpa using ih
    · simp
theorem setN_none : ∀ (ns : List Na) (s : ByteArray) (x : Va), (ns.any fun x => x.1.toList == s.toList) = false → setN ns s x = ns
  | [], _, _, _ => rfl
  | a :: l, s, x, h => by
    simp only [List.any_cons, Bool.or_eq_false_iff] at h
    have := setN_none l s x h.2
    unfold setN at this ⊢
    rw [List.map_cons, this]
    simp only [h.1, Bool.false_eq_true, if_false]
set_option maxRecDepth 100000 in
set_option maxHeartbeats 4000000 in
theorem Set46_any {B : Nat} {vn v : Value} {ns : List Na} {x : Va} (s : ByteArray) (w : World) (hns : IsNs w B vn ns) (hv : IsVa w B v x) (hs : s.size ≤ 140737488351232) (hB : B ≤ w.heap.size) :
    Calls Try.prog 46 #[vn, .string s, v] w fun e w' => ∃ v', e = .returned (.tuple #[v', .int .i64 (setW ns s x).2]) ∧ Own73 RdN w' B w.heap.size v' (setW ns s x).1 ∧ Below w.heap.size w w' := by
  have C24 := Lib.hid (fun w' (hb : Below w.heap.size w w') => MayNames24_any (B := B) w' (hns.keep fun b hl => hb.block b (by omega)) (Nat.le_trans hB hb.size))
  have C39 := Lib.hid (fun w' => mayName39_any s w' hs)
  have C67 := Lib.hid (fun w' (hb : Below w.heap.size w w') => May67_any (B := B) (x := x) w' (hv.keep fun b hl => hb.block b (by omega)) (Nat.le_trans hB hb.size))
  obtain ⟨W, hWW⟩ : ∃ W, W = setW ns s x := ⟨_, rfl⟩
  rw [← hWW]
  have HW : Hid (W = if mayNs ns && (mayN s && mayV x) then (if getB ns s then (setN ns s x, 0) else if 64 ≤ ns.length then ([], 8) else (ns ++ [(s, x)], 0)) else ([], 2)) := Lib.hid hWW
  have HNS := Lib.hid hns
  have HV := Lib.hid hv
  obtain ⟨hnl, An, ncap, hncap, rfl, h7⟩ := hns
  have H7 := Lib.hid h7
  obtain ⟨k, n, t, A, len, cap, r, rfl⟩ := hv.shape
  have HB0 := Lib.hid ((Below.refl w.heap.size w).alloc (Nat.le_refl _) (.cells #[.int .u8 k, .int .i64 n, .string t, .slice A len cap, .int .i64 r] 34))
  have HQ : Hid (BlkN (w.alloc (.cells #[.int .u8 k, .int .i64 n, .string t, .slice A len cap, .int .i64 r] 34)) w.heap.size 34 #[.int .u8 k, .int .i64 n, .string t, .slice A len cap, .int .i64 r]) := Lib.hid (BlkN.at_ rfl _ _)
  clear hv hWW h7
  cases hmn : mayNs ns
  · have HF : Hid (W = ([], 2)) := Lib.hid (by rw [HW.out, hmn]; rfl)
    rw [hmn] at C24
    clear hmn
    go_enter Try.func46, Try.ntmps46
    go_wp2_with (go_at_call 24; refine (C24.out _ HB0.out).mono ?_; rintro e w1 ⟨rfl, hb1⟩)
    go_ret2
    exact ⟨.slice Option.none 0 0, by rw [HF.out]; rfl, by rw [HF.out]; exact own73_nil _ _ _ _, bnext HB0.out hb1⟩
  cases hms : mayN s
  · have HF : Hid (W = ([], 2)) := Lib.hid (by rw [HW.out, hms]; simp)
    rw [hmn] at C24
    rw [hms] at C39
    clear hmn hms
    go_enter Try.func46, Try.ntmps46
    go_wp2_with (first | (go_at_call 24; refine (C24.out _ HB0.out).mono ?_; rintro e w1 ⟨rfl, hb1⟩) | (go_at_call 39; refine (C39.out _).mono ?_; rintro e w2 ⟨rfl, rfl⟩))
    go_ret2
    exact ⟨.slice Option.none 0 0, by rw [HF.out]; rfl, by rw [HF.out]; exact own73_nil _ _ _ _, bnext HB0.out hb1⟩
  cases hmv : mayV x
  · have HF : Hid (W = ([], 2)) := Lib.hid (by rw [HW.out, hmv]; simp)
    rw [hmn] at C24
    rw [hms] at C39
    rw [hmv] at C67
    clear hmn hms hmv
    go_enter Try.func46, Try.ntmps46
    go_wp2_with (first | (go_at_call 24; refine (C24.out _ HB0.out).mono ?_; rintro e w1 ⟨rfl, hb1⟩; have hq2 := HQ.out.below hb1; have q0 := hq2.cell 0 rfl; have q1 := hq2.cell 1 rfl; have q2 := hq2.cell 2 rfl; have q3 := hq2.cell 3 rfl; have q4 := hq2.cell 4 rfl; have hB2 := bnext HB0.out hb1) | (go_at_call 39; refine (C39.out _).mono ?_; rintro e w2 ⟨rfl, rfl⟩) | (go_at_call 67; refine (C67.out _ hB2).mono ?_; rintro e w3 ⟨rfl, hb3⟩))
    go_ret2
    exact ⟨.slice Option.none 0 0, by rw [HF.out]; rfl, by rw [HF.out]; exact own73_nil _ _ _ _, bnext hB2 hb3⟩
  have HF : Hid (W = if getB ns s then (setN ns s x, 0) else if 64 ≤ ns.length then ([], 8) else (ns ++ [(s, x)], 0)) := Lib.hid (by rw [HW.out, hmn, hms, hmv]; rfl)
  have hl64 := mayNs_len hmn
  rw [hmn] at C24
  rw [hms] at C39
  rw [hmv] at C67
  clear hmn hms hmv HW
  obtain ⟨i0, hi, hz0, hz1, hz2⟩ := info_parts info73
  have HIN := Lib.hid hi
  clear hi
  go_enter Try.func46, Try.ntmps46
  go_wp2_with (first | (go_at_call 24; refine (C24.out _ HB0.out).mono ?_; rintro e w1 ⟨rfl, hb1⟩; have hq2 := HQ.out.below hb1; have q0 := hq2.cell 0 rfl; have q1 := hq2.cell 1 rfl; have q2 := hq2.cell 2 rfl; have q3 := hq2.cell 3 rfl; have q4 := hq2.cell 4 rfl; have hB2 := bnext HB0.out hb1) | (go_at_call 39; refine (C39.out _).mono ?_; rintro e w2 ⟨rfl, rfl⟩) | (go_at_call 67; refine (C67.out _ hB2).mono ?_; rintro e w3 ⟨rfl, hb3⟩))
  have HB3 := Lib.hid (bnext hB2 hb3)
  have HQ3 := Lib.hid (hq2.below hb3)
  clear q0 q1 q2 q3 q4 hq2 hb1 hb3 hB2 HB0 HQ C24 C39 C67
  go_loopw [8, 9, 10] (fun sl mt i wr => ∃ j : Nat, j ≤ ns.length ∧ mt = .bool ((ns.take j).any fun x => x.1.toList == s.toList) ∧ i = .int .i64 j ∧ Own73 RdN wr B (w.heap.size + 1) sl (setN (ns.take j) s x) ∧ Below w.heap.size w wr ∧ BlkN wr w.heap.size 34 #[.int .u8 k, .int .i64 n, .string t, .slice A len cap, .int .i64 r]) (fun _ _ i _ => ns.length - (intOf i).toNat)
  case atStart => exact ⟨0, by omega, rfl, rfl, own73_nil _ _ _ _, HB3.out, HQ3.out⟩
  case round =>
    obtain ⟨j, hj, rfl, rfl, hv, hu, hq⟩ := hrel
    obtain ⟨xs, hv⟩ := hv
    have hvl : (setN (ns.take j) s x).length = j := by unfold setN; simp; omega
    obtain ⟨A0, cap0, hsl, hcap0⟩ : ∃ A0 cap0, u8 = .slice A0 j cap0 ∧ j ≤ cap0 := by
      obtain ⟨A0, cap0, h1, h2, _⟩ := hv.list
      exact ⟨A0, cap0, by rw [h1, hvl], by omega⟩
    subst hsl
    have HR := Lib.hid hv
    have HU := Lib.hid hu
    have HVL := Lib.hid hvl
    have HQ := Lib.hid hq
    have q0 := hq.cell 0 rfl
    have q1 := hq.cell 1 rfl
    have q2 := hq.cell 2 rfl
    have q3 := hq.cell 3 rfl
    have q4 := hq.cell 4 rfl
    have hql := hq.lt
    obtain ⟨mt, hmt⟩ : ∃ mt, mt = (ns.take j).any fun x => x.1.toList == s.toList := ⟨_, rfl⟩
    rw [← hmt]
    have HMT := Lib.hid hmt
    clear hv hu hvl hq hmt
    by_cases hlt : j < ns.length
    · obtain ⟨b, o, hbB, hA, hx⟩ := H7.out (by rintro rfl; simp at hlt)
      subst hA
      obtain ⟨hs0, k', n', s', A', len', cap', r', hat, hx1⟩ := hx.at2 j hlt
      have hat' := hat.keep hbB (fun b hb => HU.out.block b (by omega))
      obtain ⟨e0, e1, e2, e3, e4, e5⟩ := hat'.six
      have HX1 := Lib.hid hx1
      have HTK := Lib.hid (setN_take ns s x j hlt)
      have HTA : Hid ((ns.take (j + 1)).any (fun x => x.1.toList == s.toList) = ((ns.take j).any (fun x => x.1.toList == s.toList) || ns[j].1.toList == s.toList)) := Lib.hid (by rw [take_snoc_get ns j hlt, List.any_append]; simp)
      clear hat hat' hx hx1
      obtain ⟨sn, hsn⟩ : ∃ sn, sn = ns[j].1 := ⟨_, rfl⟩
      have HSN := Lib.hid hsn
      rw [← hsn] at e0 hs0
      clear hsn
      have hblt : b < wr.heap.size := by have := HU.out.size; omega
      cases heq : (sn.toList == s.toList)
      · have HEQ := Lib.hid heq
        have HSZ : Hid (sn.size ≤ 140737488351232) := Lib.hid hs0
        have hA1 : Below wr.heap.size wr ((wr.alloc (.cells #[.string sn, .int .u8 k', .int .i64 n', .string s', .slice A' len' cap', .int .i64 r'] 73)).alloc (.cells #[.string sn, .int .u8 k', .int .i64 n', .string s', .slice A' len' cap', .int .i64 r'] 73)) := ((Below.refl _ _).alloc (Nat.le_refl _) _).alloc (by simp) _
        have hVR := HR.out.below hA1
        clear hs0
        go_wp2_with (refine wpList_append_row _ rfl (.tmp 41) (.tmp 43) 22 rfl (w.heap.size + 1) 73 i0 _ 6 80 Try.underlying22 HIN.out hz0 hz1 hz2 rfl (by decide) (.slice A0 j cap0) j xs rfl ?hy1 ⟨wr.heap.size + 1, 0, Option.none⟩ 1 1 [.string sn, .int .u8 k', .int .i64 n', .string s', .slice A' len' cap', .int .i64 r'] rfl rfl ?hy2 ?hy3 ?hy4 ?hy5 ?hy6 ?_)
        case hy1 => have := hVR.1; rw [HVL.out] at this; exact this
        case hy2 =>
          have := row_new (wr.alloc (.cells #[.string sn, .int .u8 k', .int .i64 n', .string s', .slice A' len' cap', .int .i64 r'] 73)) [.string sn, .int .u8 k', .int .i64 n', .string s', .slice A' len' cap', .int .i64 r'] 73
          rw [World.size_alloc] at this
          exact this
        case hy3 => intro u hu; simp only [List.mem_cons, List.not_mem_nil, or_false] at hu; rcases hu with rfl | rfl | rfl | rfl | rfl | rfl <;> rfl
        case hy4 => unfold maxLen; omega
        case hy5 => omega
        case hy6 => simp; omega
        intro sl' w3 hown' hgrow hor
        have hob : ∀ g, (Value.slice A0 j cap0).ownBlock = some g → w.heap.size + 1 ≤ g ∧ g < wr.heap.size := fun g hg => HR.out.blk hg
        have hpush := GRow.push (x := ns[j]) (cs := [.string sn, .int .u8 k', .int .i64 n', .string s', .slice A' len' cap', .int .i64 r']) (lo2 := wr.heap.size) hVR rfl ⟨by rw [← HSN.out]; exact HSZ.out, _, _, _, _, _, by rw [← HSN.out], ((IsVa.keep (fun b hb => ((HU.out.trans (hA1.mono HU.out.size)).block b (Nat.lt_of_lt_of_le hb hB))) HX1.out).mono fun b o hr => ⟨.inl hr, by have := HU.out.size; have := hA1.size; omega⟩)⟩ hql (by omega) (fun g hg => (hob g hg).2) (by rw [HVL.out]; exact hown') hgrow (by simpa using hor)
        have HV3 : Hid (Own73 RdN w3 B (w.heap.size + 1) sl' (setN (ns.take (j + 1)) s x)) := Lib.hid (by
          rw [HTK.out, ← HSN.out, HEQ.out]
          exact ⟨_, by simpa [HSN.out] using hpush⟩)
        have hU1 := bnext HU.out hA1
        have HU3 : Hid (Below w.heap.size w w3) := Lib.hid (hU1.grown hgrow hU1.size (fun g hg => by have := (hob g hg).1; omega))
        have HQ3 : Hid (BlkN w3 w.heap.size 34 #[.int .u8 k, .int .i64 n, .string t, .slice A len cap, .int .i64 r]) := Lib.hid (by
          have h1 := HQ.out.below hA1
          exact (hgrow.block w.heap.size h1.lt (fun e => by have := (hob _ e.symm).1; omega)).trans h1)
        clear hown' hgrow hor hob hU1 hVR hA1 hpush
        go_wp2_with fail
        go_roundw
        case rel => exact ⟨j + 1, by omega, by rw [HTA.out, ← HMT.out, ← HSN.out, HEQ.out]; simp, by go_num, HV3.out, HU3.out, HQ3.out⟩
        case measure => simp [intOf]; omega
      · have HEQ := Lib.hid heq
        have HSZ : Hid (sn.size ≤ 140737488351232) := Lib.hid hs0
        have hA1 : Below wr.heap.size wr ((wr.alloc (.cells #[.string sn, .int .u8 k, .int .i64 n, .string t, .slice A len cap, .int .i64 r] 73)).alloc (.cells #[.string sn, .int .u8 k, .int .i64 n, .string t, .slice A len cap, .int .i64 r] 73)) := ((Below.refl _ _).alloc (Nat.le_refl _) _).alloc (by simp) _
        have hVR := HR.out.below hA1
        clear hs0
        go_wp2_with (refine wpList_append_row _ rfl (.tmp 41) (.tmp 43) 22 rfl (w.heap.size + 1) 73 i0 _ 6 80 Try.underlying22 HIN.out hz0 hz1 hz2 rfl (by decide) (.slice A0 j cap0) j xs rfl ?hy1 ⟨wr.heap.size + 1, 0, Option.none⟩ 1 1 [.string sn, .int .u8 k, .int .i64 n, .string t, .slice A len cap, .int .i64 r] rfl rfl ?hy2 ?hy3 ?hy4 ?hy5 ?hy6 ?_)
        case hy1 => have := hVR.1; rw [HVL.out] at this; exact this
        case hy2 =>
          have := row_new (wr.alloc (.cells #[.string sn, .int .u8 k, .int .i64 n, .string t, .slice A len cap, .int .i64 r] 73)) [.string sn, .int .u8 k, .int .i64 n, .string t, .slice A len cap, .int .i64 r] 73
          rw [World.size_alloc] at this
          exact this
        case hy3 => intro u hu; simp only [List.mem_cons, List.not_mem_nil, or_false] at hu; rcases hu with rfl | rfl | rfl | rfl | rfl | rfl <;> rfl
        case hy4 => unfold maxLen; omega
        case hy5 => omega
        case hy6 => simp; omega
        intro sl' w3 hown' hgrow hor
        have hob : ∀ g, (Value.slice A0 j cap0).ownBlock = some g → w.heap.size + 1 ≤ g ∧ g < wr.heap.size := fun g hg => HR.out.blk hg
        have hpush := GRow.push (x := (ns[j].1, x)) (cs := [.string sn, .int .u8 k, .int .i64 n, .string t, .slice A len cap, .int .i64 r]) (lo2 := wr.heap.size) hVR rfl ⟨by rw [← HSN.out]; exact HSZ.out, _, _, _, _, _, by rw [← HSN.out], ((IsVa.keep (fun b hb => ((HU.out.trans (hA1.mono HU.out.size)).block b (Nat.lt_of_lt_of_le hb hB))) HV.out).mono fun b o hr => ⟨.inl hr, by have := HU.out.size; have := hA1.size; omega⟩)⟩ hql (by omega) (fun g hg => (hob g hg).2) (by rw [HVL.out]; exact hown') hgrow (by simpa using hor)
        have HV3 : Hid (Own73 RdN w3 B (w.heap.size + 1) sl' (setN (ns.take (j + 1)) s x)) := Lib.hid (by
          rw [HTK.out, ← HSN.out, HEQ.out]
          exact ⟨_, by simpa [HSN.out] using hpush⟩)
        have hU1 := bnext HU.out hA1
        have HU3 : Hid (Below w.heap.size w w3) := Lib.hid (hU1.grown hgrow hU1.size (fun g hg => by have := (hob g hg).1; omega))
        have HQ3 : Hid (BlkN w3 w.heap.size 34 #[.int .u8 k, .int .i64 n, .string t, .slice A len cap, .int .i64 r]) := Lib.hid (by
          have h1 := HQ.out.below hA1
          exact (hgrow.block w.heap.size h1.lt (fun e => by have := (hob _ e.symm).1; omega)).trans h1)
        clear hown' hgrow hor hob hU1 hVR hA1 hpush
        go_wp2_with fail
        go_roundw
        case rel => exact ⟨j + 1, by omega, by rw [HTA.out, ← HMT.out, ← HSN.out, HEQ.out]; simp, by go_num, HV3.out, HU3.out, HQ3.out⟩
        case measure => simp [intOf]; omega
    · obtain rfl : j = ns.length := by omega
      have HRR : Hid (Own73 RdN wr B (w.heap.size + 1) (.slice A0 ns.length cap0) (setN ns s x)) := Lib.hid (by
        have := HR.out
        rw [List.take_length] at this
        exact ⟨_, this⟩)
      have HM2 : Hid (mt = getB ns s) := Lib.hid (by rw [HMT.out, List.take_length, getB_any])
      cases mt
      · have hsn : setN ns s x = ns := setN_none ns s x (by rw [← getB_any, ← HM2.out])
        have HF2 : Hid (W = if 64 ≤ ns.length then ([], 8) else (ns ++ [(s, x)], 0)) := Lib.hid (by rw [HF.out, ← HM2.out]; rfl)
        rw [hsn] at HRR
        clear hsn
        by_cases h64 : 64 ≤ ns.length
        · have HFF : Hid (W = ([], 8)) := Lib.hid (by rw [HF2.out, if_pos h64])
          have h64' : (64 : Int) ≤ ns.length := by omega
          go_wp2_with fail
          go_ret2
          exact ⟨.slice Option.none 0 0, by rw [HFF.out]; rfl, by rw [HFF.out]; exact own73_nil _ _ _ _, HU.out⟩
        · have HFF : Hid (W = (ns ++ [(s, x)], 0)) := Lib.hid (by rw [HF2.out, if_neg h64])
          have h64' : ¬ (64 : Int) ≤ ns.length := by omega
          obtain ⟨ys, hrow⟩ := HRR.out
          have hA1 : Below wr.heap.size wr (wr.alloc (.cells #[.string s, .int .u8 k, .int .i64 n, .string t, .slice A len cap, .int .i64 r] 73)) := (Below.refl _ _).alloc (Nat.le_refl _) _
          have hVR := hrow.below hA1
          have HVR := Lib.hid hVR
          have HA1 := Lib.hid hA1
          clear hrow hA1 hVR
          go_wp2_with (refine wpList_append_row _ rfl (.tmp 50) (.tmp 54) 22 rfl (w.heap.size + 1) 73 i0 _ 6 80 Try.underlying22 HIN.out hz0 hz1 hz2 rfl (by decide) (.slice A0 ns.length cap0) ns.length ys rfl ?hy1 ⟨wr.heap.size, 0, Option.none⟩ 1 1 [.string s, .int .u8 k, .int .i64 n, .string t, .slice A len cap, .int .i64 r] rfl rfl ?hy2 ?hy3 ?hy4 ?hy5 ?hy6 ?_)
          case hy1 => exact HVR.out.1
          case hy3 => exact ⟨rfl, rfl, rfl, rfl, rfl, rfl⟩
          case hy4 => unfold maxLen; omega
          case hy5 => omega
          case hy6 => omega
          intro sl' w3 hown' hgrow hor
          have hob : ∀ g, (Value.slice A0 ns.length cap0).ownBlock = some g → w.heap.size + 1 ≤ g ∧ g < wr.heap.size := fun g hg => HR.out.blk hg
          have hpush := GRow.push (x := (s, x)) (cs := [.string s, .int .u8 k, .int .i64 n, .string t, .slice A len cap, .int .i64 r]) (lo2 := wr.heap.size) HVR.out rfl ⟨hs, _, _, _, _, _, rfl, ((IsVa.keep (fun b hb => ((HU.out.trans (HA1.out.mono HU.out.size)).block b (Nat.lt_of_lt_of_le hb hB))) HV.out).mono fun b o hr => ⟨.inl hr, by have := HU.out.size; have := HA1.out.size; omega⟩)⟩ hql (by omega) (fun g hg => (hob g hg).2) hown' hgrow (by simpa using hor)
          have hU1 := bnext HU.out HA1.out
          have HU3 : Hid (Below w.heap.size w w3) := Lib.hid (hU1.grown hgrow hU1.size (fun g hg => by have := (hob g hg).1; omega))
          have HP : Hid (Own73 RdN w3 B w.heap.size sl' (ns ++ [(s, x)])) := Lib.hid (Own73.low ⟨_, hpush⟩ (by omega))
          clear hown' hgrow hor hob hU1 hpush
          go_wp2_with fail
          go_ret2
          exact ⟨_, by rw [HFF.out]; rfl, by rw [HFF.out]; exact HP.out, HU3.out⟩
      · have HFF : Hid (W = (setN ns s x, 0)) := Lib.hid (by
          have := HMT.out
          rw [List.take_length] at this
          rw [HF.out, getB_any, ← this]; rfl)
        go_wp2_with fail
        go_ret2
        refine ⟨_, by rw [HFF.out]; rfl, ?_, HU.out⟩
        rw [HFF.out]
        have := HR.out
        rw [List.take_length] at this
        exact Own73.low ⟨_, this⟩ (by omega)
end Go.Proofs.Ytnknefdpglnbnaa
namespace Go.Proofs.Ytnknefdpglnbnaa
open Go.RowKit

/-- The world has changed in the window's blocks alone, and has grown. -/
structure Win (lo hi : Nat) (w w' : World) : Prop where
  os : w'.os = w.os
  tape : w'.tape = w.tape
  output : w'.output = w.output
  size : w.heap.size ≤ w'.heap.size
  block : ∀ b, b < w.heap.size → b < lo ∨ hi ≤ b → w'.heap[b]? = w.heap[b]?
theorem Win.refl (lo hi : Nat) (w : World) : Win lo hi w w := ⟨rfl, rfl, rfl, Nat.le_refl _, fun _ _ _ => rfl⟩
theorem Win.setCell {lo hi : Nat} {w w' : World} (h : Win lo hi w w') {b o : Nat} (h1 : lo ≤ b) (h2 : b < hi) (v : Value) : Win lo hi w (w'.setCell ⟨b, o, Option.none⟩ v) :=
  ⟨h.os, h.tape, h.output, by simpa [World.setCell] using h.size, fun k hk hw => (Below.heap_setCell _ _ _ _ (by show k ≠ b; rcases hw with hw | hw <;> omega)).trans (h.block k hk hw)⟩
theorem Win.grow {lo hi : Nat} {w w' : World} (h : Win lo hi w w') (hl : lo ≤ w.heap.size) : Below lo w w' := ⟨h.os, h.tape, h.output, h.size, fun b hb => h.block b (by omega) (.inl hb)⟩
/-- Block g is a row of names, whose values' lists (so long at most) lie in rows somewhere. -/
def NTopsH (w : World) (lo hi g : Nat) (L : List Nat) : Prop :=
  (∃ cur, BlkN w g 73 cur ∧ L.length * 6 ≤ cur.size) ∧ ∀ (i : Nat) (h : i < L.length), ∃ s k m t A l c r, At w g (i * 6) [.string s, .int .u8 k, .int .i64 m, .string t, .slice A l c, .int .i64 r] ∧ l ≤ L[i] ∧ l ≤ c ∧ (0 < l → ∃ b, A = some ⟨b, 0, Option.none⟩ ∧ lo ≤ b ∧ b < hi ∧ OkB w b l)
theorem NTopsH.set {w : World} {lo hi g : Nat} {L : List Nat} (h : NTopsH w lo hi g L) {b n : Nat} (hb : OkB w b n) (o : Nat) (c0 c1 c2 c3 c4 : Value) : NTopsH (set5 w b o c0 c1 c2 c3 c4) lo hi g L := by
  obtain ⟨⟨cur, h1, h2⟩, h3⟩ := h
  have hne := hb.ne h1
  have hk := set5_other w b o c0 c1 c2 c3 c4 hne
  refine ⟨⟨cur, hk.trans h1, h2⟩, fun i hi => ?_⟩
  obtain ⟨s, k, m, t, A, l, c, r, h4, h5, h6, h7⟩ := h3 i hi
  exact ⟨s, k, m, t, A, l, c, r, fun j v hv => (World.cell?_of_block (w := w) (w' := set5 w b o c0 c1 c2 c3 c4) (a := ⟨g, i * 6 + j, Option.none⟩) hk).trans (h4 j v hv), h5, h6, fun hl => by obtain ⟨b', g1, g2, g9, g3⟩ := h7 hl; exact ⟨b', g1, g2, g9, g3.set _ _ _ _ _ _ _⟩⟩
set_option maxHeartbeats 2000000 in
theorem NTopsH.setN6 {w : World} {lo hi g : Nat} {L : List Nat} (h : NTopsH w lo hi g L) (j : Nat) (hj : j < L.length) (s : ByteArray) (k m : Int) (t : ByteArray) (r : Int) :
    NTopsH (set6 w g (j * 6) (.string s) (.int .u8 k) (.int .i64 m) (.string t) (.slice Option.none 0 0) (.int .i64 r)) lo hi g L := by
  obtain ⟨⟨cur, h1, h2⟩, h3⟩ := h
  have hB := (set5_blk (o := j * 6) h1 (.string s) (.int .u8 k) (.int .i64 m) (.string t) (.slice Option.none 0 0)).set (j * 6 + 5) (.int .i64 r)
  have hok : ∀ {b n : Nat}, OkB w b n → OkB (set6 w g (j * 6) (.string s) (.int .u8 k) (.int .i64 m) (.string t) (.slice Option.none 0 0) (.int .i64 r)) b n := by
    rintro b n ⟨cur', hc, hs⟩
    have hne : b ≠ g := fun e => by subst e; exact (OkB.ne ⟨cur', hc, hs⟩ h1) rfl
    exact ⟨cur', ((Below.heap_setCell _ _ _ _ hne).trans (set5_other w g (j * 6) _ _ _ _ _ hne)).trans hc, hs⟩
  refine ⟨⟨_, hB, by simpa using h2⟩, fun i hi => ?_⟩
  obtain ⟨s', k', m', t', A, l, c, r', h4, h5, h6, h7⟩ := h3 i hi
  by_cases ei : i = j
  · subst ei
    refine ⟨s, k, m, t, Option.none, 0, 0, r, fun q v hv => ?_, by omega, by omega, fun h => by omega⟩
    show World.cell? (set6 _ _ _ _ _ _ _ _ _) _ = _
    unfold set6
    rw [hB.cell_eq]
    have hq : q < 6 := by have := (List.getElem?_eq_some_iff.1 hv).1; simpa using this
    obtain rfl | rfl | rfl | rfl | rfl | rfl : q = 0 ∨ q = 1 ∨ q = 2 ∨ q = 3 ∨ q = 4 ∨ q = 5 := by omega
    all_goals
      simp at hv
      subst hv
      simp [Array.getElem?_setIfInBounds]
      try omega
  · refine ⟨s', k', m', t', A, l, c, r', fun q v hv => ?_, h5, h6, fun hl => by obtain ⟨b', g1, g2, g9, g3⟩ := h7 hl; exact ⟨b', g1, g2, g9, hok g3⟩⟩
    have h0 := h4 q v hv
    have hq : q < 6 := by have := (List.getElem?_eq_some_iff.1 hv).1; simpa using this
    rw [h1.cell_eq] at h0
    show World.cell? (set6 _ _ _ _ _ _ _ _ _) _ = _
    unfold set6
    rw [hB.cell_eq]
    rw [Array.getElem?_setIfInBounds_ne (by omega), Array.getElem?_setIfInBounds_ne (by omega), Array.getElem?_setIfInBounds_ne (by omega), Array.getElem?_setIfInBounds_ne (by omega), Array.getElem?_setIfInBounds_ne (by omega), Array.getElem?_setIfInBounds_ne (by omega)]
    exact h0
set_option maxRecDepth 100000 in
set_option maxHeartbeats 2000000 in
theorem spoilNamesH_any (A : Option Addr) (n cap lo hi g : Nat) (L : List Nat) (w : World) (hcap : n ≤ cap) (hn : n ≤ 140737488351232) (hg : 0 < n → A = some ⟨g, 0, Option.none⟩ ∧ lo ≤ g ∧ g < hi ∧ L.length = n ∧ (∀ x ∈ L, x ≤ 140737488351232) ∧ NTopsH w lo hi g L) :
    Calls Try.prog 44 #[.slice A n cap] w fun e w' => e = .returned (.tuple #[]) ∧ Win lo hi w w' := by
  have HG := Lib.hid hg
  have HG9 : Hid (0 < n → NTopsH w lo hi g L) := Lib.hid (fun h => (hg h).2.2.2.2.2)
  clear hg
  go_enter Try.func44, Try.ntmps44
  go_wp2_with fail
  go_loopw [2] (fun i wr => ∃ j : Nat, j ≤ n ∧ i = .int .i64 j ∧ Win lo hi w wr ∧ (0 < n → NTopsH wr lo hi g L)) (fun i _ => n - (intOf i).toNat)
  case atStart => exact ⟨0, by omega, rfl, Win.refl _ _ _, HG9.out⟩
  case round =>
    obtain ⟨j, hj, rfl, hu, ht⟩ := hrel
    have HU := Lib.hid hu
    have HT := Lib.hid ht
    clear hu ht
    by_cases hlt : j < n
    · obtain ⟨hA1, hg1, hg2, hL1, hL2, _⟩ := HG.out (by omega)
      subst hA1
      have hjL : j < L.length := by omega
      have hM := hL2 _ (List.getElem_mem hjL)
      obtain ⟨M, hMd⟩ : ∃ M, M = L[j] := ⟨_, rfl⟩
      rw [← hMd] at hM
      have HM := Lib.hid hMd
      have HL1 := Lib.hid hL1
      clear hMd hL1 hL2
      go_wp2_with fail
      obtain ⟨wo, rfl⟩ : ∃ wo : World, wo = wr := ⟨_, rfl⟩
      go_loopw [3] (fun i wi => ∃ m : Nat, m ≤ M ∧ i = .int .i64 m ∧ Win lo hi w wi ∧ NTopsH wi lo hi g L) (fun i _ => M - (intOf i).toNat)
      case atStart => exact ⟨0, by omega, rfl, HU.out, HT.out (by omega)⟩
      case round =>
        obtain ⟨m, hm, rfl, hu, ht⟩ := hrel
        have HU1 := Lib.hid hu
        have HT1 := Lib.hid ht
        obtain ⟨s', k', m', t', A', l', c', r', hat, hlM, hlc, htar⟩ := ht.2 j hjL
        rw [← HM.out] at hlM
        have e4 : wr.cell? ⟨g, j * 6 + 4, Option.none⟩ = some (.slice A' l' c') := hat 4 _ rfl
        obtain ⟨cur0, hc0, hs0⟩ := ht.1
        rw [HL1.out] at hs0
        clear hu ht hat
        by_cases hml : m < l'
        · obtain ⟨b', rfl, hb1, hb2, cur, hc, hs⟩ := htar (by omega)
          have hokb : OkB wr b' l' := ⟨cur, hc, hs⟩
          have HOKB := Lib.hid hokb
          obtain ⟨q0, c0⟩ := hc.some (m * 5) (by omega)
          obtain ⟨q1, c1⟩ := hc.some (m * 5 + 1) (by omega)
          obtain ⟨q2, c2⟩ := hc.some (m * 5 + 2) (by omega)
          obtain ⟨q3, c3⟩ := hc.some (m * 5 + 3) (by omega)
          obtain ⟨q4, c4⟩ := hc.some (m * 5 + 4) (by omega)
          have f0 := hc.free (m * 5)
          have f1 := hc.free (m * 5 + 1)
          have f2 := hc.free (m * 5 + 2)
          have f3 := hc.free (m * 5 + 3)
          have f4 := hc.free (m * 5 + 4)
          clear hc hokb htar hs hc0 hs0
          go_wp2_with fail
          go_roundw
          case rel => exact ⟨m + 1, by omega, by go_num, ((((HU1.out.setCell hb1 hb2 _).setCell hb1 hb2 _).setCell hb1 hb2 _).setCell hb1 hb2 _).setCell hb1 hb2 _, HT1.out.set HOKB.out _ _ _ _ _ _⟩
          case measure => simp [intOf]; omega
        · obtain ⟨q0, c0⟩ := hc0.some (j * 6) (by omega)
          obtain ⟨q1, c1⟩ := hc0.some (j * 6 + 1) (by omega)
          obtain ⟨q2, c2⟩ := hc0.some (j * 6 + 2) (by omega)
          obtain ⟨q3, c3⟩ := hc0.some (j * 6 + 3) (by omega)
          obtain ⟨q5, c5⟩ := hc0.some (j * 6 + 5) (by omega)
          have f0 := hc0.free (j * 6)
          have f1 := hc0.free (j * 6 + 1)
          have f2 := hc0.free (j * 6 + 2)
          have f3 := hc0.free (j * 6 + 3)
          have f4 := hc0.free (j * 6 + 4)
          have f5 := hc0.free (j * 6 + 5)
          clear hc0 hs0 htar
          go_wp2_with fail
          go_roundw
          case rel => exact ⟨j + 1, by omega, by go_num, (((((HU1.out.setCell hg1 hg2 _).setCell hg1 hg2 _).setCell hg1 hg2 _).setCell hg1 hg2 _).setCell hg1 hg2 _).setCell hg1 hg2 _, fun _ => HT1.out.setN6 j hjL _ _ _ _ _⟩
          case measure => simp [intOf]; omega
    · obtain rfl : j = n := by omega
      go_wp2_with fail
      go_end0
      exact ⟨rfl, HU.out⟩
/-- What Only told may be written over. -/
theorem ntopsH_of {w : World} {lo : Nat} {v : Value} {l : List Na} (h : Own73 RdN34 w 0 lo v l) (hl : l.length ≤ 140737488351232) :
    ∃ A cap g L, v = .slice A l.length cap ∧ l.length ≤ cap ∧ (0 < l.length → A = some ⟨g, 0, Option.none⟩ ∧ lo ≤ g ∧ g < w.heap.size ∧ L.length = l.length ∧ (∀ x ∈ L, x ≤ 140737488351232) ∧ NTopsH w lo w.heap.size g L) := by
  obtain ⟨xs, h⟩ := h
  obtain ⟨A, cap, h1, h2, h3⟩ := h.row
  by_cases hz : l = []
  · exact ⟨A, cap, 0, [], h1, h2, fun h => by subst hz; simp at h⟩
  · obtain ⟨g, cur, hA, hlo, hc, hs, hp⟩ := h3 hz
    have key : ∀ (i : Nat) (hi : i < l.length), ∃ s k m t A l' c r, At w g (i * 6) [.string s, .int .u8 k, .int .i64 m, .string t, .slice A l' c, .int .i64 r] ∧ l' = vlen l[i].2 ∧ l' ≤ c ∧ l' ≤ 140737488351232 ∧ (0 < l' → ∃ b, A = some ⟨b, 0, Option.none⟩ ∧ lo ≤ b ∧ b < w.heap.size ∧ OkB w b l') := by
      intro i hi
      obtain ⟨cs, _, hat, h0, c0, c1, c2, c3, c4, rfl, hx⟩ := hp i hi
      generalize l[i] = x at hx h0 hat ⊢
      obtain ⟨sn, y⟩ := x
      obtain ⟨k', n', s', m, r'⟩ := y
      have hml := hx.len
      obtain ⟨_, _, _, _, A', cap', h5, h6, h7⟩ := hx.form
      simp only [Value.agg.injEq, Array.mk.injEq, List.cons.injEq, and_true] at h6
      obtain ⟨rfl, rfl, rfl, rfl, rfl⟩ := h6
      refine ⟨sn, k', n', s', A', m.length, cap', r', hat, rfl, h5, by omega, fun hpos => ?_⟩
      obtain ⟨b, o, ⟨hr, rfl, cur', hc'⟩, rfl, h9⟩ := h7 (by rintro rfl; simp at hpos)
      refine ⟨b, rfl, by rcases hr.1 with h | h <;> omega, hr.2, cur', hc', ?_⟩
      obtain ⟨d0, d1, d2, d3, d4, ha, _⟩ := h9.at (m.length - 1) (by omega)
      have := ha 4 d4 rfl
      rw [hc'.cell_eq] at this
      have := (Array.getElem?_eq_some_iff.1 this).1
      omega
    refine ⟨A, cap, g, l.map fun x => vlen x.2, h1, h2, fun _ => ⟨hA, hlo, hc.lt, by simp, fun x hx => ?_, ⟨cur, hc, by simpa using hs⟩, fun i hi => ?_⟩⟩
    · obtain ⟨i, hi, rfl⟩ := List.mem_iff_getElem.1 hx
      obtain ⟨_, _, _, _, _, _, _, _, _, e, _, h4, _⟩ := key i (by simpa using hi)
      simp only [List.getElem_map]
      omega
    · obtain ⟨s, k, m, t, A2, l', c, r, e1, e2, e3, _, e4⟩ := key i (by simpa using hi)
      exact ⟨s, k, m, t, A2, l', c, r, e1, by simp only [List.getElem_map]; omega, e3, e4⟩
theorem NTopsH.below {w w' : World} {lo hi g : Nat} {L : List Nat} (h : NTopsH w lo hi g L) (hb : Below w.heap.size w w') : NTopsH w' lo hi g L := by
  obtain ⟨⟨cur, h1, h2⟩, h3⟩ := h
  refine ⟨⟨cur, h1.below hb, h2⟩, fun i hi => ?_⟩
  obtain ⟨s, k, m, t, A, l, c, r, h4, h5, h6, h7⟩ := h3 i hi
  exact ⟨s, k, m, t, A, l, c, r, h4.below h1.lt hb, h5, h6, fun hl => by obtain ⟨b', g1, g2, g9, g3⟩ := h7 hl; exact ⟨b', g1, g2, g9, g3.below hb⟩⟩
theorem Own73.namesR {w : World} {B lo : Nat} {v : Value} {l : List Na} (h : Own73 RdN w B lo v l) (hl : l.length * 80 ≤ 140737488351232) : IsNsR w (RN B lo w) v l := by
  obtain ⟨xs, h⟩ := h
  obtain ⟨A, cap, h1, h2, h3⟩ := h.list
  exact ⟨hl, A, cap, h2, h1, fun hne => by
    obtain ⟨b, hr, hA, hp⟩ := h3 hne
    refine ⟨b, 0, hr, hA, (RdN.list fun i hi => ?_)⟩
    obtain ⟨cs, e1, e2, e3⟩ := hp i hi
    exact ⟨cs, e1, e2, e3⟩⟩
end Go.Proofs.Ytnknefdpglnbnaa
