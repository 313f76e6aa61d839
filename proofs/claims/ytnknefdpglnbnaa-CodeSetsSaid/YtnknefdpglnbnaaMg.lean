/- The document's Set, walked. -/
import Derived.Test.YtnknefdpglnbnaaMf
namespace Go.Proofs.Ytnknefdpglnbnaa
open Go.RowKit

theorem setN_take (ns : List Na) (s : ByteArray) (x : Va) (j : Nat) (h : j < ns.length) : setN (ns.take (j + 1)) s x = setN (ns.take j) s x ++ [if ns[j].1.toList == s.toList then (ns[j].1, x) else ns[j]] := by
  unfold setN
  rw [take_snoc_get ns j h, List.map_append, List.map_singleton]
theorem getB_any : ∀ (ns : List Na) (s : ByteArray), getB ns s = ns.any fun x => x.1.toList == s.toList
  | [], _ => rfl
  | (nm, v) :: l, s => by
    have ih := getB_any l s
    unfold getB at ih ⊢
    simp only [List.any_cons, getN]
    cases nm.toList == s.toList
    · simpa using ih
    · simp
theorem setN_none : ∀ (ns : List Na) (s : ByteArray) (x : Va), (ns.any fun x => x.1.toList == s.toList) = false → setN ns s x = ns
  | [], _, _, _ => rfl
  | a :: l, s, x, h => by
    simp only [List.any_cons, Bool.or_eq_false_iff] at h
    have := setN_none l s x h.2
    unfold setN at this ⊢
    rw [List.map_cons, this]
    simp only [h.1, Bool.false_eq_true, if_false]
set_option maxRecDepth 100000 in
set_option maxHeartbeats 4000000 in
theorem Set46_any {B : Nat} {vn v : Value} {ns : List Na} {x : Va} (s : ByteArray) (w : World) (hns : IsNs w B vn ns) (hv : IsVa w B v x) (hs : s.size ≤ 140737488351232) (hB : B ≤ w.heap.size) :
    Calls Try.prog 46 #[vn, .string s, v] w fun e w' => ∃ v', e = .returned (.tuple #[v', .int .i64 (setW ns s x).2]) ∧ Own73 RdN w' B w.heap.size v' (setW ns s x).1 ∧ Below w.heap.size w w' := by
  have C24 := Lib.hid (fun w' (hb : Below w.heap.size w w') => MayNames24_any (B := B) w' (hns.keep fun b hl => hb.block b (by omega)) (Nat.le_trans hB hb.size))
  have C39 := Lib.hid (fun w' => mayName39_any s w' hs)
  have C67 := Lib.hid (fun w' (hb : Below w.heap.size w w') => May67_any (B := B) (x := x) w' (hv.keep fun b hl => hb.block b (by omega)) (Nat.le_trans hB hb.size))
  obtain ⟨W, hWW⟩ : ∃ W, W = setW ns s x := ⟨_, rfl⟩
  rw [← hWW]
  have HW : Hid (W = if mayNs ns && (mayN s && mayV x) then (if getB ns s then (setN ns s x, 0) else if 64 ≤ ns.length then ([], 8) else (ns ++ [(s, x)], 0)) else ([], 2)) := Lib.hid hWW
  have HNS := Lib.hid hns
  have HV := Lib.hid hv
  obtain ⟨hnl, An, ncap, hncap, rfl, h7⟩ := hns
  have H7 := Lib.hid h7
  obtain ⟨k, n, t, A, len, cap, r, rfl⟩ := hv.shape
  have HB0 := Lib.hid ((Below.refl w.heap.size w).alloc (Nat.le_refl _) (.cells #[.int .u8 k, .int .i64 n, .string t, .slice A len cap, .int .i64 r] 34))
  have HQ : Hid (BlkN (w.alloc (.cells #[.int .u8 k, .int .i64 n, .string t, .slice A len cap, .int .i64 r] 34)) w.heap.size 34 #[.int .u8 k, .int .i64 n, .string t, .slice A len cap, .int .i64 r]) := Lib.hid (BlkN.at_ rfl _ _)
  clear hv hWW h7
  cases hmn : mayNs ns
  · have HF : Hid (W = ([], 2)) := Lib.hid (by rw [HW.out, hmn]; rfl)
    rw [hmn] at C24
    clear hmn
    go_enter Try.func46, Try.ntmps46
    go_wp2_with (go_at_call 24; refine (C24.out _ HB0.out).mono ?_; rintro e w1 ⟨rfl, hb1⟩)
    go_ret2
    exact ⟨.slice Option.none 0 0, by rw [HF.out]; rfl, by rw [HF.out]; exact own73_nil _ _ _ _, bnext HB0.out hb1⟩
  cases hms : mayN s
  · have HF : Hid (W = ([], 2)) := Lib.hid (by rw [HW.out, hms]; simp)
    rw [hmn] at C24
    rw [hms] at C39
    clear hmn hms
    go_enter Try.func46, Try.ntmps46
    go_wp2_with (first | (go_at_call 24; refine (C24.out _ HB0.out).mono ?_; rintro e w1 ⟨rfl, hb1⟩) | (go_at_call 39; refine (C39.out _).mono ?_; rintro e w2 ⟨rfl, rfl⟩))
    go_ret2
    exact ⟨.slice Option.none 0 0, by rw [HF.out]; rfl, by rw [HF.out]; exact own73_nil _ _ _ _, bnext HB0.out hb1⟩
  cases hmv : mayV x
  · have HF : Hid (W = ([], 2)) := Lib.hid (by rw [HW.out, hmv]; simp)
    rw [hmn] at C24
    rw [hms] at C39
    rw [hmv] at C67
    clear hmn hms hmv
    go_enter Try.func46, Try.ntmps46
    go_wp2_with (first | (go_at_call 24; refine (C24.out _ HB0.out).mono ?_; rintro e w1 ⟨rfl, hb1⟩; have hq2 := HQ.out.below hb1; have q0 := hq2.cell 0 rfl; have q1 := hq2.cell 1 rfl; have q2 := hq2.cell 2 rfl; have q3 := hq2.cell 3 rfl; have q4 := hq2.cell 4 rfl; have hB2 := bnext HB0.out hb1) | (go_at_call 39; refine (C39.out _).mono ?_; rintro e w2 ⟨rfl, rfl⟩) | (go_at_call 67; refine (C67.out _ hB2).mono ?_; rintro e w3 ⟨rfl, hb3⟩))
    go_ret2
    exact ⟨.slice Option.none 0 0, by rw [HF.out]; rfl, by rw [HF.out]; exact own73_nil _ _ _ _, bnext hB2 hb3⟩
  have HF : Hid (W = if getB ns s then (setN ns s x, 0) else if 64 ≤ ns.length then ([], 8) else (ns ++ [(s, x)], 0)) := Lib.hid (by rw [HW.out, hmn, hms, hmv]; rfl)
  have hl64 := mayNs_len hmn
  rw [hmn] at C24
  rw [hms] at C39
  rw [hmv] at C67
  clear hmn hms hmv HW
  obtain ⟨i0, hi, hz0, hz1, hz2⟩ := info_parts info73
  have HIN := Lib.hid hi
  clear hi
  go_enter Try.func46, Try.ntmps46
  go_wp2_with (first | (go_at_call 24; refine (C24.out _ HB0.out).mono ?_; rintro e w1 ⟨rfl, hb1⟩; have hq2 := HQ.out.below hb1; have q0 := hq2.cell 0 rfl; have q1 := hq2.cell 1 rfl; have q2 := hq2.cell 2 rfl; have q3 := hq2.cell 3 rfl; have q4 := hq2.cell 4 rfl; have hB2 := bnext HB0.out hb1) | (go_at_call 39; refine (C39.out _).mono ?_; rintro e w2 ⟨rfl, rfl⟩) | (go_at_call 67; refine (C67.out _ hB2).mono ?_; rintro e w3 ⟨rfl, hb3⟩))
  have HB3 := Lib.hid (bnext hB2 hb3)
  have HQ3 := Lib.hid (hq2.below hb3)
  clear q0 q1 q2 q3 q4 hq2 hb1 hb3 hB2 HB0 HQ C24 C39 C67
  go_loopw [8, 9, 10] (fun sl mt i wr => ∃ j : Nat, j ≤ ns.length ∧ mt = .bool ((ns.take j).any fun x => x.1.toList == s.toList) ∧ i = .int .i64 j ∧ Own73 RdN wr B (w.heap.size + 1) sl (setN (ns.take j) s x) ∧ Below w.heap.size w wr ∧ BlkN wr w.heap.size 34 #[.int .u8 k, .int .i64 n, .string t, .slice A len cap, .int .i64 r]) (fun _ _ i _ => ns.length - (intOf i).toNat)
  case atStart => exact ⟨0, by omega, rfl, rfl, own73_nil _ _ _ _, HB3.out, HQ3.out⟩
  case round =>
    obtain ⟨j, hj, rfl, rfl, hv, hu, hq⟩ := hrel
    obtain ⟨xs, hv⟩ := hv
    have hvl : (setN (ns.take j) s x).length = j := by unfold setN; simp; omega
    obtain ⟨A0, cap0, hsl, hcap0⟩ : ∃ A0 cap0, u8 = .slice A0 j cap0 ∧ j ≤ cap0 := by
      obtain ⟨A0, cap0, h1, h2, _⟩ := hv.list
      exact ⟨A0, cap0, by rw [h1, hvl], by omega⟩
    subst hsl
    have HR := Lib.hid hv
    have HU := Lib.hid hu
    have HVL := Lib.hid hvl
    have HQ := Lib.hid hq
    have q0 := hq.cell 0 rfl
    have q1 := hq.cell 1 rfl
    have q2 := hq.cell 2 rfl
    have q3 := hq.cell 3 rfl
    have q4 := hq.cell 4 rfl
    have hql := hq.lt
    obtain ⟨mt, hmt⟩ : ∃ mt, mt = (ns.take j).any fun x => x.1.toList == s.toList := ⟨_, rfl⟩
    rw [← hmt]
    have HMT := Lib.hid hmt
    clear hv hu hvl hq hmt
    by_cases hlt : j < ns.length
    · obtain ⟨b, o, hbB, hA, hx⟩ := H7.out (by rintro rfl; simp at hlt)
      subst hA
      obtain ⟨hs0, k', n', s', A', len', cap', r', hat, hx1⟩ := hx.at2 j hlt
      have hat' := hat.keep hbB (fun b hb => HU.out.block b (by omega))
      obtain ⟨e0, e1, e2, e3, e4, e5⟩ := hat'.six
      have HX1 := Lib.hid hx1
      have HTK := Lib.hid (setN_take ns s x j hlt)
      have HTA : Hid ((ns.take (j + 1)).any (fun x => x.1.toList == s.toList) = ((ns.take j).any (fun x => x.1.toList == s.toList) || ns[j].1.toList == s.toList)) := Lib.hid (by rw [take_snoc_get ns j hlt, List.any_append]; simp)
      clear hat hat' hx hx1
      obtain ⟨sn, hsn⟩ : ∃ sn, sn = ns[j].1 := ⟨_, rfl⟩
      have HSN := Lib.hid hsn
      rw [← hsn] at e0 hs0
      clear hsn
      have hblt : b < wr.heap.size := by have := HU.out.size; omega
      cases heq : (sn.toList == s.toList)
      · have HEQ := Lib.hid heq
        have HSZ : Hid (sn.size ≤ 140737488351232) := Lib.hid hs0
        have hA1 : Below wr.heap.size wr ((wr.alloc (.cells #[.string sn, .int .u8 k', .int .i64 n', .string s', .slice A' len' cap', .int .i64 r'] 73)).alloc (.cells #[.string sn, .int .u8 k', .int .i64 n', .string s', .slice A' len' cap', .int .i64 r'] 73)) := ((Below.refl _ _).alloc (Nat.le_refl _) _).alloc (by simp) _
        have hVR := HR.out.below hA1
        clear hs0
        go_wp2_with (refine wpList_append_row _ rfl (.tmp 41) (.tmp 43) 22 rfl (w.heap.size + 1) 73 i0 _ 6 80 Try.underlying22 HIN.out hz0 hz1 hz2 rfl (by decide) (.slice A0 j cap0) j xs rfl ?hy1 ⟨wr.heap.size + 1, 0, Option.none⟩ 1 1 [.string sn, .int .u8 k', .int .i64 n', .string s', .slice A' len' cap', .int .i64 r'] rfl rfl ?hy2 ?hy3 ?hy4 ?hy5 ?hy6 ?_)
        case hy1 => have := hVR.1; rw [HVL.out] at this; exact this
        case hy2 =>
          have := row_new (wr.alloc (.cells #[.string sn, .int .u8 k', .int .i64 n', .string s', .slice A' len' cap', .int .i64 r'] 73)) [.string sn, .int .u8 k', .int .i64 n', .string s', .slice A' len' cap', .int .i64 r'] 73
          rw [World.size_alloc] at this
          exact this
        case hy3 => intro u hu; simp only [List.mem_cons, List.not_mem_nil, or_false] at hu; rcases hu with rfl | rfl | rfl | rfl | rfl | rfl <;> rfl
        case hy4 => unfold maxLen; omega
        case hy5 => omega
        case hy6 => simp; omega
        intro sl' w3 hown' hgrow hor
        have hob : ∀ g, (Value.slice A0 j cap0).ownBlock = some g → w.heap.size + 1 ≤ g ∧ g < wr.heap.size := fun g hg => HR.out.blk hg
        have hpush := GRow.push (x := ns[j]) (cs := [.string sn, .int .u8 k', .int .i64 n', .string s', .slice A' len' cap', .int .i64 r']) (lo2 := wr.heap.size) hVR rfl ⟨by rw [← HSN.out]; exact HSZ.out, _, _, _, _, _, by rw [← HSN.out], ((IsVa.keep (fun b hb => ((HU.out.trans (hA1.mono HU.out.size)).block b (Nat.lt_of_lt_of_le hb hB))) HX1.out).mono fun b o hr => ⟨.inl hr, by have := HU.out.size; have := hA1.size; omega⟩)⟩ hql (by omega) (fun g hg => (hob g hg).2) (by rw [HVL.out]; exact hown') hgrow (by simpa using hor)
        have HV3 : Hid (Own73 RdN w3 B (w.heap.size + 1) sl' (setN (ns.take (j + 1)) s x)) := Lib.hid (by
          rw [HTK.out, ← HSN.out, HEQ.out]
          exact ⟨_, by simpa [HSN.out] using hpush⟩)
        have hU1 := bnext HU.out hA1
        have HU3 : Hid (Below w.heap.size w w3) := Lib.hid (hU1.grown hgrow hU1.size (fun g hg => by have := (hob g hg).1; omega))
        have HQ3 : Hid (BlkN w3 w.heap.size 34 #[.int .u8 k, .int .i64 n, .string t, .slice A len cap, .int .i64 r]) := Lib.hid (by
          have h1 := HQ.out.below hA1
          exact (hgrow.block w.heap.size h1.lt (fun e => by have := (hob _ e.symm).1; omega)).trans h1)
        clear hown' hgrow hor hob hU1 hVR hA1 hpush
        go_wp2_with fail
        go_roundw
        case rel => exact ⟨j + 1, by omega, by rw [HTA.out, ← HMT.out, ← HSN.out, HEQ.out]; simp, by go_num, HV3.out, HU3.out, HQ3.out⟩
        case measure => simp [intOf]; omega
      · have HEQ := Lib.hid heq
        have HSZ : Hid (sn.size ≤ 140737488351232) := Lib.hid hs0
        have hA1 : Below wr.heap.size wr ((wr.alloc (.cells #[.string sn, .int .u8 k, .int .i64 n, .string t, .slice A len cap, .int .i64 r] 73)).alloc (.cells #[.string sn, .int .u8 k, .int .i64 n, .string t, .slice A len cap, .int .i64 r] 73)) := ((Below.refl _ _).alloc (Nat.le_refl _) _).alloc (by simp) _
        have hVR := HR.out.below hA1
        clear hs0
        go_wp2_with (refine wpList_append_row _ rfl (.tmp 41) (.tmp 43) 22 rfl (w.heap.size + 1) 73 i0 _ 6 80 Try.underlying22 HIN.out hz0 hz1 hz2 rfl (by decide) (.slice A0 j cap0) j xs rfl ?hy1 ⟨wr.heap.size + 1, 0, Option.none⟩ 1 1 [.string sn, .int .u8 k, .int .i64 n, .string t, .slice A len cap, .int .i64 r] rfl rfl ?hy2 ?hy3 ?hy4 ?hy5 ?hy6 ?_)
        case hy1 => have := hVR.1; rw [HVL.out] at this; exact this
        case hy2 =>
          have := row_new (wr.alloc (.cells #[.string sn, .int .u8 k, .int .i64 n, .string t, .slice A len cap, .int .i64 r] 73)) [.string sn, .int .u8 k, .int .i64 n, .string t, .slice A len cap, .int .i64 r] 73
          rw [World.size_alloc] at this
          exact this
        case hy3 => intro u hu; simp only [List.mem_cons, List.not_mem_nil, or_false] at hu; rcases hu with rfl | rfl | rfl | rfl | rfl | rfl <;> rfl
        case hy4 => unfold maxLen; omega
        case hy5 => omega
        case hy6 => simp; omega
        intro sl' w3 hown' hgrow hor
        have hob : ∀ g, (Value.slice A0 j cap0).ownBlock = some g → w.heap.size + 1 ≤ g ∧ g < wr.heap.size := fun g hg => HR.out.blk hg
        have hpush := GRow.push (x := (ns[j].1, x)) (cs := [.string sn, .int .u8 k, .int .i64 n, .string t, .slice A len cap, .int .i64 r]) (lo2 := wr.heap.size) hVR rfl ⟨by rw [← HSN.out]; exact HSZ.out, _, _, _, _, _, by rw [← HSN.out], ((IsVa.keep (fun b hb => ((HU.out.trans (hA1.mono HU.out.size)).block b (Nat.lt_of_lt_of_le hb hB))) HV.out).mono fun b o hr => ⟨.inl hr, by have := HU.out.size; have := hA1.size; omega⟩)⟩ hql (by omega) (fun g hg => (hob g hg).2) (by rw [HVL.out]; exact hown') hgrow (by simpa using hor)
        have HV3 : Hid (Own73 RdN w3 B (w.heap.size + 1) sl' (setN (ns.take (j + 1)) s x)) := Lib.hid (by
          rw [HTK.out, ← HSN.out, HEQ.out]
          exact ⟨_, by simpa [HSN.out] using hpush⟩)
        have hU1 := bnext HU.out hA1
        have HU3 : Hid (Below w.heap.size w w3) := Lib.hid (hU1.grown hgrow hU1.size (fun g hg => by have := (hob g hg).1; omega))
        have HQ3 : Hid (BlkN w3 w.heap.size 34 #[.int .u8 k, .int .i64 n, .string t, .slice A len cap, .int .i64 r]) := Lib.hid (by
          have h1 := HQ.out.below hA1
          exact (hgrow.block w.heap.size h1.lt (fun e => by have := (hob _ e.symm).1; omega)).trans h1)
        clear hown' hgrow hor hob hU1 hVR hA1 hpush
        go_wp2_with fail
        go_roundw
        case rel => exact ⟨j + 1, by omega, by rw [HTA.out, ← HMT.out, ← HSN.out, HEQ.out]; simp, by go_num, HV3.out, HU3.out, HQ3.out⟩
        case measure => simp [intOf]; omega
    · obtain rfl : j = ns.length := by omega
      have HRR : Hid (Own73 RdN wr B (w.heap.size + 1) (.slice A0 ns.length cap0) (setN ns s x)) := Lib.hid (by
        have := HR.out
        rw [List.take_length] at this
        exact ⟨_, this⟩)
      have HM2 : Hid (mt = getB ns s) := Lib.hid (by rw [HMT.out, List.take_length, getB_any])
      cases mt
      · have hsn : setN ns s x = ns := setN_none ns s x (by rw [← getB_any, ← HM2.out])
        have HF2 : Hid (W = if 64 ≤ ns.length then ([], 8) else (ns ++ [(s, x)], 0)) := Lib.hid (by rw [HF.out, ← HM2.out]; rfl)
        rw [hsn] at HRR
        clear hsn
        by_cases h64 : 64 ≤ ns.length
        · have HFF : Hid (W = ([], 8)) := Lib.hid (by rw [HF2.out, if_pos h64])
          have h64' : (64 : Int) ≤ ns.length := by omega
          go_wp2_with fail
          go_ret2
          exact ⟨.slice Option.none 0 0, by rw [HFF.out]; rfl, by rw [HFF.out]; exact own73_nil _ _ _ _, HU.out⟩
        · have HFF : Hid (W = (ns ++ [(s, x)], 0)) := Lib.hid (by rw [HF2.out, if_neg h64])
          have h64' : ¬ (64 : Int) ≤ ns.length := by omega
          obtain ⟨ys, hrow⟩ := HRR.out
          have hA1 : Below wr.heap.size wr (wr.alloc (.cells #[.string s, .int .u8 k, .int .i64 n, .string t, .slice A len cap, .int .i64 r] 73)) := (Below.refl _ _).alloc (Nat.le_refl _) _
          have hVR := hrow.below hA1
          have HVR := Lib.hid hVR
          have HA1 := Lib.hid hA1
          clear hrow hA1 hVR
          go_wp2_with (refine wpList_append_row _ rfl (.tmp 50) (.tmp 54) 22 rfl (w.heap.size + 1) 73 i0 _ 6 80 Try.underlying22 HIN.out hz0 hz1 hz2 rfl (by decide) (.slice A0 ns.length cap0) ns.length ys rfl ?hy1 ⟨wr.heap.size, 0, Option.none⟩ 1 1 [.string s, .int .u8 k, .int .i64 n, .string t, .slice A len cap, .int .i64 r] rfl rfl ?hy2 ?hy3 ?hy4 ?hy5 ?hy6 ?_)
          case hy1 => exact HVR.out.1
          case hy3 => exact ⟨rfl, rfl, rfl, rfl, rfl, rfl⟩
          case hy4 => unfold maxLen; omega
          case hy5 => omega
          case hy6 => omega
          intro sl' w3 hown' hgrow hor
          have hob : ∀ g, (Value.slice A0 ns.length cap0).ownBlock = some g → w.heap.size + 1 ≤ g ∧ g < wr.heap.size := fun g hg => HR.out.blk hg
          have hpush := GRow.push (x := (s, x)) (cs := [.string s, .int .u8 k, .int .i64 n, .string t, .slice A len cap, .int .i64 r]) (lo2 := wr.heap.size) HVR.out rfl ⟨hs, _, _, _, _, _, rfl, ((IsVa.keep (fun b hb => ((HU.out.trans (HA1.out.mono HU.out.size)).block b (Nat.lt_of_lt_of_le hb hB))) HV.out).mono fun b o hr => ⟨.inl hr, by have := HU.out.size; have := HA1.out.size; omega⟩)⟩ hql (by omega) (fun g hg => (hob g hg).2) hown' hgrow (by simpa using hor)
          have hU1 := bnext HU.out HA1.out
          have HU3 : Hid (Below w.heap.size w w3) := Lib.hid (hU1.grown hgrow hU1.size (fun g hg => by have := (hob g hg).1; omega))
          have HP : Hid (Own73 RdN w3 B w.heap.size sl' (ns ++ [(s, x)])) := Lib.hid (Own73.low ⟨_, hpush⟩ (by omega))
          clear hown' hgrow hor hob hU1 hpush
          go_wp2_with fail
          go_ret2
          exact ⟨_, by rw [HFF.out]; rfl, by rw [HFF.out]; exact HP.out, HU3.out⟩
      · have HFF : Hid (W = (setN ns s x, 0)) := Lib.hid (by
          have := HMT.out
          rw [List.take_length] at this
          rw [HF.out, getB_any, ← this]; rfl)
        go_wp2_with fail
        go_ret2
        refine ⟨_, by rw [HFF.out]; rfl, ?_, HU.out⟩
        rw [HFF.out]
        have := HR.out
        rw [List.take_length] at this
        exact Own73.low ⟨_, this⟩ (by omega)
end Go.Proofs.Ytnknefdpglnbnaa
