/- Only, the program's and the document's, walked. The document's Only, and the law's helpers same and spoilNames, walked. The law's helper spoilNames, walked; appending names. -/
import Derived.Test.YtnknefdpglnbnaaLn
import Derived.Test.YtnknefdpglnbnaaLo
import Derived.Laws.AppendOwnNone
namespace Go.Proofs.Ytnknefdpglnbnaa
open Go.RowKit

theorem only1_any (s : ByteArray) (w : World) : Calls Try.prog 88 #[.string s] w fun e w' => e = .returned (.bool (!mayN s)) ∧ Below w.heap.size w w' := by
  go_enter Try.func88, Try.ntmps88
  go_wp2_with (go_at_call 38; refine (mayName_any s _).mono ?_; rintro e w' ⟨rfl, hb⟩)
  go_ret
  exact ⟨rfl, hb⟩
set_option maxRecDepth 100000 in
set_option maxHeartbeats 1000000 in
theorem indexF88_any {B : Nat} {v : Value} {l : List ByteArray} (w : World) (h : IsSs w B v l) (hB : B ≤ w.heap.size) :
    Calls Try.prog 123 #[v, .func (.func 88) #[] #[]] w fun e w' => (∃ i : Int, e = .returned (.int .i64 i) ∧ decide (0 ≤ i) = !(l.all mayN)) ∧ Below w.heap.size w w' := by
  obtain ⟨hlen, hsz, A, cap, hcap, rfl, h7⟩ := h
  have H7 := Lib.hid h7
  have hl : l.length ≤ 140737488351232 := by omega
  clear h7 hsz
  go_enter Try.func123, Try.ntmps123
  go_wp2_with fail
  go_loopw [8] (fun i wr => ∃ k : Nat, k ≤ l.length ∧ i = .int .i64 k ∧ (l.take k).all mayN = true ∧ Below w.heap.size w wr)
    (fun i _ => l.length - (intOf i).toNat)
  case atStart => exact ⟨0, Nat.zero_le _, rfl, by simp, Below.refl _ _⟩
  case round =>
    obtain ⟨k, hk, rfl, hu, hnx⟩ := hrel
    have HU := Lib.hid hu
    have HN := Lib.hid hnx
    clear hu hnx
    by_cases hlt : k < l.length
    · obtain ⟨b, o, hbB, hA, hx⟩ := H7.out (by rintro rfl; simp at hlt)
      subst hA
      have hcell : wr.cell? ⟨b, o + k, Option.none⟩ = some (.string l[k]) := (HN.out.cell (by show b < _; omega)).trans (hx k hlt)
      obtain ⟨sk, hsk⟩ : ∃ sk, sk = l[k] := ⟨_, rfl⟩
      rw [← hsk] at hcell
      have HK := Lib.hid hsk
      clear hsk hx
      have q := fun w' => only1_any sk w'
      cases hm : mayN sk
      · have HM := Lib.hid hm
        rw [hm] at q
        clear hm
        go_wp2_with (go_at_call 88; refine (q _).mono ?_; rintro e w1 ⟨rfl, hb1⟩)
        go_ret
        refine ⟨⟨_, rfl, ?_⟩, HN.out.trans (hb1.mono HN.out.size)⟩
        have hf : l.all mayN = false := by
          rw [Bool.eq_false_iff]; intro ha
          have := List.all_eq_true.1 ha l[k] (List.getElem_mem hlt)
          rw [← HK.out, HM.out] at this; cases this
        simp [hf]
      · have HM := Lib.hid hm
        rw [hm] at q
        clear hm
        go_wp2_with (go_at_call 88; refine (q _).mono ?_; rintro e w1 ⟨rfl, hb1⟩)
        go_round
        case rel => exact ⟨k + 1, by omega, by go_num, by rw [List.take_succ_eq_append_getElem hlt, List.all_append, HU.out, ← HK.out]; simp [HM.out], HN.out.trans (hb1.mono HN.out.size)⟩
        case measure => simp [intOf]; omega
    · obtain rfl : k = l.length := by omega
      go_wp2_with fail
      go_ret
      exact ⟨⟨_, rfl, by have := HU.out; rw [List.take_length] at this; simp [this]⟩, HN.out⟩
theorem containsF88_any {B : Nat} {v : Value} {l : List ByteArray} (w : World) (h : IsSs w B v l) (hB : B ≤ w.heap.size) :
    Calls Try.prog 87 #[v, .func (.func 88) #[] #[]] w fun e w' => e = .returned (.bool (!(l.all mayN))) ∧ Below w.heap.size w w' := by
  have HH := Lib.hid h
  obtain ⟨hlen, hsz, A, cap, hcap, rfl, h7⟩ := h
  clear h7 hsz
  go_enter Try.func87, Try.ntmps87
  go_wp2_with (go_at_call 123; refine (indexF88_any _ HH.out hB).mono ?_; rintro e w1 ⟨⟨i, rfl, hi⟩, hb1⟩; have HI := Lib.hid hi; clear hi)
  go_ret
  exact ⟨by rw [← HI.out]; rfl, hb1⟩
/-- A row of values, of the call's own. -/
def T34 (w : World) (b o : Nat) : Prop := o = 0 ∧ ∃ cur, BlkN w b 34 cur
/-- Names, whose values' lists are rows of values. -/
def RdN34 : Rd Na where
  P := fun w R cs x => x.1.size ≤ 140737488351232 ∧ ∃ c0 c1 c2 c3 c4, cs = [.string x.1, c0, c1, c2, c3, c4] ∧ IsVaR w (fun b o => R b o ∧ T34 w b o) (.agg #[c0, c1, c2, c3, c4]) x.2
  keep := fun hk ⟨h0, c0, c1, c2, c3, c4, h1, h2⟩ => ⟨h0, c0, c1, c2, c3, c4, h1, (h2.keep fun b o hr => hk b o hr.1).mono fun b o ⟨hr, ho, cur, hc⟩ => ⟨hr, ho, cur, (hk b o hr).trans hc⟩⟩
  mono := fun hk ⟨h0, c0, c1, c2, c3, c4, h1, h2⟩ => ⟨h0, c0, c1, c2, c3, c4, h1, h2.mono fun b o hr => ⟨hk b o hr.1, hr.2⟩⟩
theorem RdN34.plain {w : World} {R : Nat → Nat → Prop} {cs : List Value} {x : Na} (h : RdN34.P w R cs x) : RdN.P w R cs x := by
  obtain ⟨h0, c0, c1, c2, c3, c4, h1, h2⟩ := h
  exact ⟨h0, c0, c1, c2, c3, c4, h1, h2.mono fun b o hr => hr.1⟩
/-- .. as a row lies in its block. -/
theorem GRow.row {α : Type} {D : Rd α} {E : TypeId} {sz : Nat} {w : World} {B lo : Nat} {v : Value} {vs : List α} {xs : List Value} (h : GRow D E sz w B lo v vs xs) :
    ∃ A cap, v = .slice A vs.length cap ∧ vs.length ≤ cap ∧ (vs ≠ [] → ∃ g cur, A = some ⟨g, 0, Option.none⟩ ∧ lo ≤ g ∧ BlkN w g E cur ∧ vs.length * sz ≤ cur.size ∧ ∀ (i : Nat) (hi : i < vs.length), ∃ cs : List Value, cs.length = sz ∧ At w g (i * sz) cs ∧ D.P w (RN B lo w) cs vs[i]) := by
  obtain ⟨A, cap, h1, h2, h3⟩ := h.list
  refine ⟨A, cap, h1, h2, fun hne => ?_⟩
  obtain ⟨b, hr, hA, hp⟩ := h3 hne
  rcases h.1.2 with ⟨hv, h0⟩ | ⟨g, cap', cur, hv, hb, hg, hc, _, hcs, htake⟩
  · exact absurd (List.length_eq_zero_iff.1 h0) hne
  · rw [h1] at hv
    simp only [Value.slice.injEq] at hv
    obtain ⟨e1, _, _⟩ := hv
    rw [hA] at e1
    simp only [Option.some.injEq, Addr.mk.injEq, and_true] at e1
    subst e1
    exact ⟨b, cur, hA, hb, hg, by rw [hcs]; exact Nat.mul_le_mul_right sz hc, fun i hi => by have := hp i hi; rwa [Nat.zero_add] at this⟩
/-- What Only answers. -/
def onlyW (ns : List Na) (ss : List ByteArray) : List Na × Int := if mayNs ns && (ss.all mayN && !twB ss) then (ss.map fun s => (s, rawX ns s), 0) else ([], 2)
/-- The value is a row of names of the call's own, or nil. -/
def Own73 (D : Rd Na) (w : World) (B lo : Nat) (v : Value) (l : List Na) : Prop := ∃ xs, GRow D 73 6 w B lo v l xs
theorem Own73.below {D : Rd Na} {w w' : World} {B lo : Nat} {v : Value} {l : List Na} (h : Own73 D w B lo v l) (hb : Below w.heap.size w w') : Own73 D w' B lo v l := by
  obtain ⟨xs, h⟩ := h; exact ⟨xs, h.below hb⟩
theorem own73_nil (D : Rd Na) (w : World) (B lo : Nat) : Own73 D w B lo (.slice Option.none 0 0) [] := ⟨[], GRow.nil _ _ _ _ _ _⟩
theorem only_map (ns : List Na) (ss : List ByteArray) (hm : mayNs ns = true) : (ss.map fun s => (s, getX ns s)) = ss.map fun s => (s, rawX ns s) := by
  apply List.map_congr_left
  intro s _
  rw [getX_raw ns s hm]
set_option maxRecDepth 100000 in
set_option maxHeartbeats 2000000 in
theorem Only41_any {B : Nat} {vn vs : Value} {ns : List Na} {ss : List ByteArray} (w : World) (hns : IsNs w B vn ns) (hss : IsSs w B vs ss) (hB : B ≤ w.heap.size) (hlen : ss.length ≤ 1000000) :
    Calls Try.prog 41 #[vn, vs] w fun e w' => ∃ v', e = .returned (.tuple #[v', .int .i64 (onlyW ns ss).2]) ∧ Own73 RdN34 w' 0 w.heap.size v' (onlyW ns ss).1 ∧ Below w.heap.size w w' := by
  have HN := Lib.hid hns
  have HS := Lib.hid hss
  have C40 := Lib.hid (fun w' (hb : Below w.heap.size w w') => MayNames_any (B := B) w' (hns.keep fun b hl => hb.block b (by omega)) (Nat.le_trans hB hb.size))
  have C87 := Lib.hid (fun w' (hb : Below w.heap.size w w') => containsF88_any (B := B) w' (hss.keep fun b o hl => hb.block b (by omega)) (Nat.le_trans hB hb.size))
  have C86 := Lib.hid (fun w' (hb : Below w.heap.size w w') => twice_any (B := B) w' (hss.keep fun b o hl => hb.block b (by omega)) (Nat.le_trans hB hb.size))
  have C36 := Lib.hid (fun w' s (hb : Below w.heap.size w w') => Get_any (B := B) s w' (hns.keep fun b hl => hb.block b (by omega)) (Nat.le_trans hB hb.size))
  have hW : onlyW ns ss = if mayNs ns && (ss.all mayN && !twB ss) then (ss.map fun s => (s, getX ns s), 0) else ([], 2) := by
    unfold onlyW
    cases hm : mayNs ns
    · rfl
    · rw [only_map ns ss hm]
  obtain ⟨W, hWW⟩ : ∃ W, W = onlyW ns ss := ⟨_, rfl⟩
  rw [← hWW] at hW ⊢
  obtain ⟨mn, hmn⟩ : ∃ mn, mn = mayNs ns := ⟨_, rfl⟩
  obtain ⟨ma, hma⟩ : ∃ ma, ma = ss.all mayN := ⟨_, rfl⟩
  obtain ⟨mt, hmt⟩ : ∃ mt, mt = twB ss := ⟨_, rfl⟩
  rw [← hmn, ← hma, ← hmt] at hW
  rw [← hmn] at C40
  rw [← hma] at C87
  rw [← hmt] at C86
  have HW := Lib.hid hW
  obtain ⟨_, An, ncap, _, rfl, _⟩ := hns
  obtain ⟨hl16, _, A, cap, hcap, rfl, h7⟩ := hss
  have H7 := Lib.hid h7
  clear h7 hW hWW hmn hma hmt
  cases mn
  · have HF : Hid (W = ([], 2)) := Lib.hid (by rw [HW.out]; rfl)
    go_enter Try.func41, Try.ntmps41
    go_wp2_with (go_at_call 40; refine (C40.out _ (Below.refl _ _)).mono ?_; rintro e w1 ⟨rfl, hb1⟩)
    go_ret2
    exact ⟨.slice Option.none 0 0, by rw [HF.out]; rfl, by rw [HF.out]; exact own73_nil _ _ _ _, hb1⟩
  cases ma
  · have HF : Hid (W = ([], 2)) := Lib.hid (by rw [HW.out]; rfl)
    go_enter Try.func41, Try.ntmps41
    go_wp2_with (first | (go_at_call 40; refine (C40.out _ (Below.refl _ _)).mono ?_; rintro e w1 ⟨rfl, hb1⟩) | (go_at_call 87; refine (C87.out _ hb1).mono ?_; rintro e w2 ⟨rfl, hb2⟩))
    go_ret2
    exact ⟨.slice Option.none 0 0, by rw [HF.out]; rfl, by rw [HF.out]; exact own73_nil _ _ _ _, bnext hb1 hb2⟩
  cases mt
  · have HF : Hid (W = (ss.map fun s => (s, getX ns s), 0)) := Lib.hid (by rw [HW.out]; rfl)
    obtain ⟨i0, hi, hz0, hz1, hz2⟩ := info_parts info73
    have HIN := Lib.hid hi
    clear hi
    go_enter Try.func41, Try.ntmps41
    go_wp2_with (first | (go_at_call 40; refine (C40.out _ (Below.refl _ _)).mono ?_; rintro e w1 ⟨rfl, hb1⟩) | (go_at_call 87; refine (C87.out _ hb1).mono ?_; rintro e w2 ⟨rfl, hb2⟩; have hB2 := bnext hb1 hb2) | (go_at_call 86; refine (C86.out _ hB2).mono ?_; rintro e w3 ⟨rfl, hb3⟩))
    have HB3 := Lib.hid (bnext hB2 hb3)
    clear hb1 hb2 hb3 hB2
    go_loopw [6, 24] (fun sl i wr => ∃ j : Nat, j ≤ ss.length ∧ i = .int .i64 j ∧ Own73 RdN34 wr 0 w.heap.size sl ((ss.take j).map fun s => (s, getX ns s)) ∧ Below w.heap.size w wr) (fun _ i _ => ss.length - (intOf i).toNat)
    case atStart => exact ⟨0, by omega, rfl, own73_nil _ _ _ _, HB3.out⟩
    case round =>
      obtain ⟨j, hj, rfl, hv, hu⟩ := hrel
      obtain ⟨xs, hv⟩ := hv
      have hvl : ((ss.take j).map fun s => (s, getX ns s)).length = j := by simp; omega
      obtain ⟨A0, cap0, hsl, hcap0⟩ : ∃ A0 cap0, u6 = .slice A0 j cap0 ∧ j ≤ cap0 := by
        obtain ⟨A0, cap0, h1, h2, _⟩ := hv.list
        exact ⟨A0, cap0, by rw [h1, hvl], by omega⟩
      subst hsl
      have HV := Lib.hid hv
      have HU := Lib.hid hu
      have HVL := Lib.hid hvl
      clear hv hu hvl
      by_cases hlt : j < ss.length
      · obtain ⟨b, o, hbB, hA, hx⟩ := H7.out (by rintro rfl; simp at hlt)
        subst hA
        have hcell : wr.cell? ⟨b, o + j, Option.none⟩ = some (.string ss[j]) := (World.cell?_of_block (a := ⟨b, o + j, Option.none⟩) (HU.out.block b (by omega))).trans (hx j hlt)
        have hszs : ss[j].size ≤ 140737488351232 := HS.out.2.1 _ (List.getElem_mem hlt)
        obtain ⟨sj, hsj⟩ : ∃ sj, sj = ss[j] := ⟨_, rfl⟩
        rw [← hsj] at hcell hszs
        have HSJ := Lib.hid hsj
        clear hx hsj
        go_wp2_with (first | (go_at_call 36; refine (C36.out _ sj HU.out).mono ?_; rintro e w1 ⟨v', rfl, hv', hb1⟩; obtain ⟨k2, n2, s2, A2, len2, cap2, r2, rfl⟩ := hv'.shape; have hA1 : Below w1.heap.size w1 ((w1.alloc (.cells #[.int .u8 k2, .int .i64 n2, .string s2, .slice A2 len2 cap2, .int .i64 r2] 34)).alloc (.cells #[.string sj, .int .u8 k2, .int .i64 n2, .string s2, .slice A2 len2 cap2, .int .i64 r2] 73)) := ((Below.refl _ _).alloc (Nat.le_refl _) _).alloc (by simp) _; have hVR := (HV.out.below hb1).below hA1) | (refine wpList_append_row _ rfl (.tmp 34) (.tmp 38) 22 rfl w.heap.size 73 i0 _ 6 80 Try.underlying22 HIN.out hz0 hz1 hz2 rfl (by decide) (.slice A0 j cap0) j xs rfl ?hy1 ⟨w1.heap.size + 1, 0, Option.none⟩ 1 1 [.string sj, .int .u8 k2, .int .i64 n2, .string s2, .slice A2 len2 cap2, .int .i64 r2] rfl rfl ?hy2 ?hy3 ?hy4 ?hy5 ?hy6 ?_))
        case hy1 => have := hVR.1; rw [HVL.out] at this; exact this
        case hy2 =>
          have := row_new (w1.alloc (.cells #[.int .u8 k2, .int .i64 n2, .string s2, .slice A2 len2 cap2, .int .i64 r2] 34)) [.string sj, .int .u8 k2, .int .i64 n2, .string s2, .slice A2 len2 cap2, .int .i64 r2] 73
          rw [World.size_alloc] at this
          exact this
        case hy3 => intro u hu; simp only [List.mem_cons, List.not_mem_nil, or_false] at hu; rcases hu with rfl | rfl | rfl | rfl | rfl | rfl <;> rfl
        case hy4 => unfold maxLen; omega
        case hy5 => omega
        case hy6 => have := hb1.size; have := HU.out.size; simp; omega
        intro sl' w3 hown' hgrow hor
        have hob : ∀ g, (Value.slice A0 j cap0).ownBlock = some g → w.heap.size ≤ g ∧ g < wr.heap.size := fun g hg => HV.out.blk hg
        have hs1 := hb1.size
        have hsu := HU.out.size
        have hU1 := bnext (bnext HU.out hb1) hA1
        have hpush := GRow.push (x := (sj, getX ns sj)) (cs := [.string sj, .int .u8 k2, .int .i64 n2, .string s2, .slice A2 len2 cap2, .int .i64 r2]) (lo2 := wr.heap.size) hVR rfl ⟨hszs, _, _, _, _, _, rfl, ((hv'.keep fun b o hr => hA1.block b hr.lt).mono fun b o hr => ⟨⟨.inr hr.1, by have := hr.lt; have := hA1.size; omega⟩, hr.2.1, by obtain ⟨cur, hc⟩ := hr.2.2; exact ⟨cur, (hA1.block b hc.lt).trans hc⟩⟩)⟩ hsu (Nat.zero_le _) (fun g hg => (hob g hg).2) (by rw [HVL.out]; exact hown') hgrow (by simpa using hor)
        have HV3 : Hid (Own73 RdN34 w3 0 w.heap.size sl' ((ss.take (j + 1)).map fun s => (s, getX ns s))) := Lib.hid (by
          rw [take_snoc_get ss j hlt, List.map_append, List.map_singleton, ← HSJ.out]
          exact ⟨_, hpush⟩)
        have HU3 : Hid (Below w.heap.size w w3) := Lib.hid (hU1.grown hgrow hU1.size (fun g hg => (hob g hg).1))
        clear hown' hgrow hor hob hU1 hVR hA1 hv' hpush hb1
        go_wp2_with fail
        go_roundw
        case rel => exact ⟨j + 1, by omega, by go_num, HV3.out, HU3.out⟩
        case measure => simp [intOf]; omega
      · obtain rfl : j = ss.length := by omega
        go_wp2_with fail
        go_ret2
        refine ⟨_, by rw [HF.out]; rfl, ?_, HU.out⟩
        rw [HF.out]
        have := HV.out
        rw [List.take_length] at this
        exact ⟨_, this⟩
  · have HF : Hid (W = ([], 2)) := Lib.hid (by rw [HW.out]; rfl)
    go_enter Try.func41, Try.ntmps41
    go_wp2_with (first | (go_at_call 40; refine (C40.out _ (Below.refl _ _)).mono ?_; rintro e w1 ⟨rfl, hb1⟩) | (go_at_call 87; refine (C87.out _ hb1).mono ?_; rintro e w2 ⟨rfl, hb2⟩; have hB2 := bnext hb1 hb2) | (go_at_call 86; refine (C86.out _ hB2).mono ?_; rintro e w3 ⟨rfl, hb3⟩))
    go_ret2
    exact ⟨.slice Option.none 0 0, by rw [HF.out]; rfl, by rw [HF.out]; exact own73_nil _ _ _ _, bnext hB2 hb3⟩
end Go.Proofs.Ytnknefdpglnbnaa
namespace Go.Proofs.Ytnknefdpglnbnaa
open Go.RowKit

set_option maxRecDepth 100000 in
set_option maxHeartbeats 2000000 in
theorem Only42_any {B : Nat} {vn vs : Value} {ns : List Na} {ss : List ByteArray} (w : World) (hns : IsNs w B vn ns) (hss : IsSs w B vs ss) (hB : B ≤ w.heap.size) (hlen : ss.length ≤ 1000000) :
    Calls Try.prog 42 #[vn, vs] w fun e w' => ∃ v', e = .returned (.tuple #[v', .int .i64 (onlyW ns ss).2]) ∧ Own73 RdN w' B w.heap.size v' (onlyW ns ss).1 ∧ Below w.heap.size w w' := by
  have HN := Lib.hid hns
  have HS := Lib.hid hss
  have C24 := Lib.hid (fun w' (hb : Below w.heap.size w w') => MayNames24_any (B := B) w' (hns.keep fun b hl => hb.block b (by omega)) (Nat.le_trans hB hb.size))
  have C72 := Lib.hid (fun w' (hb : Below w.heap.size w w') => alike72_any (B := B) w' (hss.keep fun b o hl => hb.block b (by omega)) (Nat.le_trans hB hb.size))
  have C37 := Lib.hid (fun w' s (hb : Below w.heap.size w w') => Get37_any (B := B) s w' (hns.keep fun b hl => hb.block b (by omega)) (Nat.le_trans hB hb.size))
  have hW : onlyW ns ss = if mayNs ns && (ss.all mayN && !twB ss) then (ss.map fun s => (s, rawX ns s), 0) else ([], 2) := rfl
  obtain ⟨W, hWW⟩ : ∃ W, W = onlyW ns ss := ⟨_, rfl⟩
  rw [← hWW] at hW ⊢
  obtain ⟨mn, hmn⟩ : ∃ mn, mn = mayNs ns := ⟨_, rfl⟩
  obtain ⟨mt, hmt⟩ : ∃ mt, mt = twB ss := ⟨_, rfl⟩
  rw [← hmn, ← hmt] at hW
  rw [← hmn] at C24
  rw [← hmt] at C72
  have HW := Lib.hid hW
  obtain ⟨_, An, ncap, _, rfl, _⟩ := hns
  obtain ⟨hl16, _, A, cap, hcap, rfl, h7⟩ := hss
  have H7 := Lib.hid h7
  clear h7 hW hWW hmn hmt
  cases mn
  · have HF : Hid (W = ([], 2)) := Lib.hid (by rw [HW.out]; rfl)
    go_enter Try.func42, Try.ntmps42
    go_wp2_with (go_at_call 24; refine (C24.out _ (Below.refl _ _)).mono ?_; rintro e w1 ⟨rfl, hb1⟩)
    go_ret2
    exact ⟨.slice Option.none 0 0, by rw [HF.out]; rfl, by rw [HF.out]; exact own73_nil _ _ _ _, hb1⟩
  cases mt
  · obtain ⟨i0, hi, hz0, hz1, hz2⟩ := info_parts info73
    have HIN := Lib.hid hi
    clear hi
    go_enter Try.func42, Try.ntmps42
    go_wp2_with (first | (go_at_call 24; refine (C24.out _ (Below.refl _ _)).mono ?_; rintro e w1 ⟨rfl, hb1⟩) | (go_at_call 72; refine (C72.out _ hb1).mono ?_; rintro e w3 ⟨rfl, hb3⟩))
    have HB3 := Lib.hid (bnext hb1 hb3)
    clear hb1 hb3
    go_loopw [6, 7] (fun sl i wr => ∃ j : Nat, j ≤ ss.length ∧ i = .int .i64 j ∧ (ss.take j).all mayN = true ∧ Own73 RdN wr B w.heap.size sl ((ss.take j).map fun s => (s, rawX ns s)) ∧ Below w.heap.size w wr) (fun _ i _ => ss.length - (intOf i).toNat)
    case atStart => exact ⟨0, by omega, rfl, rfl, own73_nil _ _ _ _, HB3.out⟩
    case round =>
      obtain ⟨j, hj, rfl, hall, hv, hu⟩ := hrel
      obtain ⟨xs, hv⟩ := hv
      have hvl : ((ss.take j).map fun s => (s, rawX ns s)).length = j := by simp; omega
      obtain ⟨A0, cap0, hsl, hcap0⟩ : ∃ A0 cap0, u6 = .slice A0 j cap0 ∧ j ≤ cap0 := by
        obtain ⟨A0, cap0, h1, h2, _⟩ := hv.list
        exact ⟨A0, cap0, by rw [h1, hvl], by omega⟩
      subst hsl
      have HALL := Lib.hid hall
      have HV := Lib.hid hv
      have HU := Lib.hid hu
      have HVL := Lib.hid hvl
      clear hall hv hu hvl
      by_cases hlt : j < ss.length
      · obtain ⟨b, o, hbB, hA, hx⟩ := H7.out (by rintro rfl; simp at hlt)
        subst hA
        have hcell : wr.cell? ⟨b, o + j, Option.none⟩ = some (.string ss[j]) := (World.cell?_of_block (a := ⟨b, o + j, Option.none⟩) (HU.out.block b (by omega))).trans (hx j hlt)
        have hszs : ss[j].size ≤ 140737488351232 := HS.out.2.1 _ (List.getElem_mem hlt)
        have hcn := fun w => mayName39_any ss[j] w hszs
        obtain ⟨mj, hmj⟩ : ∃ mj, mj = mayN ss[j] := ⟨_, rfl⟩
        rw [← hmj] at hcn
        have HMJ := Lib.hid hmj
        obtain ⟨sj, hsj⟩ : ∃ sj, sj = ss[j] := ⟨_, rfl⟩
        rw [← hsj] at hcell hszs hcn
        have HSJ := Lib.hid hsj
        have HCN := Lib.hid hcn
        clear hx hsj hmj hcn
        cases mj
        · have HF : Hid (W = ([], 2)) := Lib.hid (by
            have hf : ss.all mayN = false := by rw [List.all_eq_false]; exact ⟨ss[j], List.getElem_mem hlt, by rw [← HMJ.out]; simp⟩
            rw [HW.out, hf]; rfl)
          go_wp2_with (go_at_call 39; refine (HCN.out _).mono ?_; rintro e w0 ⟨rfl, rfl⟩)
          go_ret2
          exact ⟨.slice Option.none 0 0, by rw [HF.out]; rfl, by rw [HF.out]; exact own73_nil _ _ _ _, HU.out⟩
        · go_wp2_with (first | (go_at_call 39; refine (HCN.out _).mono ?_; rintro e w0 ⟨rfl, rfl⟩) | (go_at_call 37; refine (C37.out _ sj HU.out).mono ?_; rintro e w1 ⟨v', rfl, hv', hb1⟩; obtain ⟨k2, n2, s2, A2, len2, cap2, r2, rfl⟩ := hv'.shape))
          have hs1 := hb1.size
          have hsu := HU.out.size
          have hA0 : Below w1.heap.size w1 (w1.alloc (.cells #[.int .u8 k2, .int .i64 n2, .string s2, .slice A2 len2 cap2, .int .i64 r2] 34)) := (Below.refl _ _).alloc (Nat.le_refl _) _
          have e0 := (World.cell?_of_block (w := wr) (a := ⟨b, o + j, Option.none⟩) ((hA0.block b (by omega)).trans (hb1.block b (by omega)))).trans hcell
          have y0 : BlkN (w1.alloc (.cells #[.int .u8 k2, .int .i64 n2, .string s2, .slice A2 len2 cap2, .int .i64 r2] 34)) w1.heap.size 34 #[.int .u8 k2, .int .i64 n2, .string s2, .slice A2 len2 cap2, .int .i64 r2] := BlkN.at_ rfl _ _
          obtain ⟨W2, hW2⟩ : ∃ W2, W2 = w1.alloc (.cells #[.int .u8 k2, .int .i64 n2, .string s2, .slice A2 len2 cap2, .int .i64 r2] 34) := ⟨_, rfl⟩
          rw [← hW2] at hA0 e0 y0 ⊢
          have hsz2 : W2.heap.size = w1.heap.size + 1 := by rw [hW2]; simp
          clear hW2
          have g0 := y0.cell 0 rfl
          have g1 := y0.cell 1 rfl
          have g2 := y0.cell 2 rfl
          have g3 := y0.cell 3 rfl
          have g4 := y0.cell 4 rfl
          clear hcell
          refine RegT.region_seq (fun i => Nat.ble i 7) (fun W => W.cell? ⟨b, o + j, Option.none⟩ = some (.string sj) ∧ W.cell? ⟨w1.heap.size, 0, Option.none⟩ = some (.int .u8 k2) ∧ W.cell? ⟨w1.heap.size, 1, Option.none⟩ = some (.int .i64 n2) ∧ W.cell? ⟨w1.heap.size, 2, Option.none⟩ = some (.string s2) ∧ W.cell? ⟨w1.heap.size, 3, Option.none⟩ = some (.slice A2 len2 cap2) ∧ W.cell? ⟨w1.heap.size, 4, Option.none⟩ = some (.int .i64 r2)) [0, 1, 2, 3, 4, 5] [6, 7, 8, 9] (by kernel_rfl) (by kernel_rfl) (by decide +kernel) (by decide) ⟨e0, g0, g1, g2, g3, g4⟩ ?_
          refine RegT.quiet_step rfl (fun _ _ _ h => h) (by kernel_rfl) (v := .slice A0 j cap0) (fun w' hS => ?_) ?_
          · go_simp
          refine RegT.quiet_step rfl (fun _ _ _ h => h) (by kernel_rfl) (v := .slice (some ⟨b, o, Option.none⟩) ss.length cap) (fun w' hS => ?_) ?_
          · go_simp
          refine RegT.quiet_step rfl (fun _ _ _ h => h) (by kernel_rfl) (v := .int .i64 j) (fun w' hS => ?_) ?_
          · go_simp
          refine RegT.quiet_step rfl (fun _ _ _ h => h) (by kernel_rfl) (v := .pointer (some ⟨b, o + j, Option.none⟩)) (fun w' hS => ?_) ?_
          · go_simp
          refine RegT.quiet_step rfl (fun _ _ _ h => h) (by kernel_rfl) (v := .string sj) (fun w' hS => ?_) ?_
          · obtain ⟨t0, t1, t2, t3, t4, t5⟩ := hS; go_simp
          refine RegT.quiet_step rfl (fun _ _ _ h => h) (by kernel_rfl) (v := .agg #[.int .u8 k2, .int .i64 n2, .string s2, .slice A2 len2 cap2, .int .i64 r2]) (fun w' hS => ?_) ?_
          · obtain ⟨t0, t1, t2, t3, t4, t5⟩ := hS; go_simp
          have hbl2 : b < W2.heap.size := by omega
          have hwl2 : w1.heap.size < W2.heap.size := by omega
          have HSZ2 := Lib.hid hsz2
          clear hsz2
          refine RegT.seqT_held rfl ?_
          go_wp2_with fail
          refine ⟨⟨e0, g0, g1, g2, g3, g4⟩, RegT.seqT_held rfl ?_⟩
          go_wp2_with fail
          refine ⟨⟨by go_simp, by go_simp, by go_simp, by go_simp, by go_simp, by go_simp⟩, RegT.seqT_tail [8, 9] [_, _] rfl rfl _ _ ?_⟩
          clear e0 g0 g1 g2 g3 g4
          have hAD : Below W2.heap.size W2 W2.drew := (Below.refl _ _).drew
          have hA1 : Below w1.heap.size w1 ((W2.alloc (.cells #[.string sj, .int .u8 k2, .int .i64 n2, .string s2, .slice A2 len2 cap2, .int .i64 r2] 73)).drew) := (hA0.alloc hA0.size _).drew
          have hVR := (HV.out.below hb1).below hA1
          go_wp2_with (refine wpList_append_row _ rfl (.tmp 38) (.tmp 45) 22 rfl w.heap.size 73 i0 _ 6 80 Try.underlying22 HIN.out hz0 hz1 hz2 rfl (by decide) (.slice A0 j cap0) j xs rfl ?hy1 ⟨W2.heap.size, 0, Option.none⟩ 1 1 [.string sj, .int .u8 k2, .int .i64 n2, .string s2, .slice A2 len2 cap2, .int .i64 r2] rfl rfl ?hy2 ?hy3 ?hy4 ?hy5 ?hy6 ?_)
          case hy1 => have := hVR.1; rw [HVL.out] at this; exact this
          case hy2 => exact row_new _ _ _
          case hy3 => intro u hu; simp only [List.mem_cons, List.not_mem_nil, or_false] at hu; rcases hu with rfl | rfl | rfl | rfl | rfl | rfl <;> rfl
          case hy4 => unfold maxLen; omega
          case hy5 => omega
          case hy6 => have := HSZ2.out; simp; omega
          intro sl' w3 hown' hgrow hor
          have hsz2 := HSZ2.out
          have hob : ∀ g, (Value.slice A0 j cap0).ownBlock = some g → w.heap.size ≤ g ∧ g < wr.heap.size := fun g hg => HV.out.blk hg
          have hU1 := bnext (bnext HU.out hb1) hA1
          have hsA := hA1.size
          have hpush := GRow.push (x := (sj, rawX ns sj)) (cs := [.string sj, .int .u8 k2, .int .i64 n2, .string s2, .slice A2 len2 cap2, .int .i64 r2]) (lo2 := wr.heap.size) hVR rfl ⟨hszs, _, _, _, _, _, rfl, ((IsVa.keep (fun b hb => hA1.block b (by omega)) hv').mono fun b o hr => ⟨.inl hr, by omega⟩)⟩ hsu (by omega) (fun g hg => (hob g hg).2) (by rw [HVL.out]; exact hown') hgrow (by simpa using hor)
          have HV3 : Hid (Own73 RdN w3 B w.heap.size sl' ((ss.take (j + 1)).map fun s => (s, rawX ns s))) := Lib.hid (by
            rw [take_snoc_get ss j hlt, List.map_append, List.map_singleton, ← HSJ.out]
            exact ⟨_, hpush⟩)
          have HU3 : Hid (Below w.heap.size w w3) := Lib.hid (hU1.grown hgrow hU1.size (fun g hg => (hob g hg).1))
          have HA3 : Hid ((ss.take (j + 1)).all mayN = true) := Lib.hid (by rw [take_snoc_get ss j hlt, List.all_append, HALL.out]; simp [← HMJ.out])
          clear hown' hgrow hor hob hU1 hVR hA1 hv' hpush hb1
          go_wp2_with fail
          simp only [RegT.NP, Exit.inBlock]
          go_wp2_with fail
          go_roundw
          case rel => exact ⟨j + 1, by omega, by go_num, HA3.out, HV3.out, HU3.out⟩
          case measure => simp [intOf]; omega
      · obtain rfl : j = ss.length := by omega
        have HF : Hid (W = (ss.map fun s => (s, rawX ns s), 0)) := Lib.hid (by
          have := HALL.out
          rw [List.take_length] at this
          rw [HW.out, this]; rfl)
        go_wp2_with fail
        go_ret2
        refine ⟨_, by rw [HF.out]; rfl, ?_, HU.out⟩
        rw [HF.out]
        have := HV.out
        rw [List.take_length] at this
        exact ⟨_, this⟩
  · have HF : Hid (W = ([], 2)) := Lib.hid (by rw [HW.out]; cases ss.all mayN <;> rfl)
    go_enter Try.func42, Try.ntmps42
    go_wp2_with (first | (go_at_call 24; refine (C24.out _ (Below.refl _ _)).mono ?_; rintro e w1 ⟨rfl, hb1⟩) | (go_at_call 72; refine (C72.out _ hb1).mono ?_; rintro e w3 ⟨rfl, hb3⟩))
    go_ret2
    exact ⟨.slice Option.none 0 0, by rw [HF.out]; rfl, by rw [HF.out]; exact own73_nil _ _ _ _, bnext hb1 hb3⟩
def sameSs : List ByteArray → List ByteArray → Bool
  | [], [] => true
  | x :: l, y :: m => x.toList == y.toList && sameSs l m
  | _, _ => false
theorem sameSs_len : ∀ (l m : List ByteArray), sameSs l m = true → l.length = m.length
  | [], [], _ => rfl
  | x :: l, y :: m, h => by simp only [sameSs, Bool.and_eq_true] at h; simp [sameSs_len l m h.2]
  | [], _ :: _, h => by simp [sameSs] at h
  | _ :: _, [], h => by simp [sameSs] at h
theorem sameSs_refl : ∀ (l : List ByteArray), sameSs l l = true
  | [] => rfl
  | x :: l => by simp [sameSs, sameSs_refl l]
theorem sameSs_cons (x y : ByteArray) (l m : List ByteArray) : sameSs (x :: l) (y :: m) = (x.toList == y.toList && sameSs l m) := by simp [sameSs]
set_option maxRecDepth 100000 in
set_option maxHeartbeats 1000000 in
theorem same43_any {B C : Nat} {v u : Value} {l m : List ByteArray} (w : World) (h : IsSs w B v l) (hy : IsSs w C u m) (hB : B ≤ w.heap.size) (hC : C ≤ w.heap.size) :
    Calls Try.prog 43 #[v, u] w fun e w' => e = .returned (.bool (sameSs l m)) ∧ Below w.heap.size w w' := by
  obtain ⟨hlen, hsz, A, cap, hcap, rfl, h7⟩ := h
  obtain ⟨hlen', hsz', A', cap', hcap', rfl, h7'⟩ := hy
  have H7 := Lib.hid h7
  have H7' := Lib.hid h7'
  have hl : l.length ≤ 140737488351232 := by omega
  have hl' : m.length ≤ 140737488351232 := by omega
  obtain ⟨T, hT⟩ : ∃ T, T = sameSs l m := ⟨_, rfl⟩
  rw [← hT]
  have HTT := Lib.hid hT
  clear h7 h7' hsz hsz' hT
  by_cases gl : l.length = m.length
  · have HLL := Lib.hid gl
    have gl' : ((l.length : Int) != m.length) = false := by rw [gl]; simp
    clear gl
    go_enter Try.func43, Try.ntmps43
    go_wp2_with fail
    clear gl'
    go_loopw [5] (fun i wr => ∃ j : Nat, j ≤ l.length ∧ i = .int .i64 j ∧ sameSs (l.drop j) (m.drop j) = T ∧ Below w.heap.size w wr) (fun i _ => l.length - (intOf i).toNat)
    case atStart => exact ⟨0, by omega, rfl, HTT.out.symm, Below.refl _ _⟩
    case round =>
      obtain ⟨j, hj, rfl, ht, hu⟩ := hrel
      have HT := Lib.hid ht
      have HU := Lib.hid hu
      clear ht hu
      by_cases hlt : j < l.length
      · have hlt' : j < m.length := by have := HLL.out; omega
        obtain ⟨b, o, hbB, hA, hx⟩ := H7.out (by rintro rfl; simp at hlt)
        obtain ⟨b', o', hbB', hA', hx'⟩ := H7'.out (by rintro rfl; simp at hlt')
        subst hA hA'
        have e1 := (World.cell?_of_block (w := w) (a := ⟨b, o + j, Option.none⟩) (HU.out.block b (by omega))).trans (hx j hlt)
        have e2 := (World.cell?_of_block (w := w) (a := ⟨b', o' + j, Option.none⟩) (HU.out.block b' (by omega))).trans (hx' j hlt')
        have HD1 := Lib.hid (List.drop_eq_getElem_cons hlt)
        have HD2 := Lib.hid (List.drop_eq_getElem_cons hlt')
        obtain ⟨sn, hsn⟩ : ∃ sn, sn = l[j] := ⟨_, rfl⟩
        obtain ⟨sm, hsm⟩ : ∃ sm, sm = m[j] := ⟨_, rfl⟩
        have HSN := Lib.hid hsn
        have HSM := Lib.hid hsm
        rw [← hsn] at e1
        rw [← hsm] at e2
        clear hx hx' hsn hsm
        cases heq : (sn.toList == sm.toList)
        · have HF : Hid (T = false) := Lib.hid (by rw [← HT.out, HD1.out, HD2.out, sameSs_cons, ← HSN.out, ← HSM.out, heq]; rfl)
          have heq2 : (sn.toList != sm.toList) = true := by rw [bne, heq]; rfl
          go_wp2_with fail
          go_quiet (fail)
          go_wp2_with fail
          go_ret
          rw [HF.out]
          exact ⟨rfl, belowN HU.out _⟩
        · have heq2 : (sn.toList != sm.toList) = false := by rw [bne, heq]; rfl
          have HEQ := Lib.hid heq
          go_wp2_with fail
          go_quiet (fail)
          go_wp2_with fail
          go_roundw
          case rel => exact ⟨j + 1, by omega, by go_num, by rw [← HT.out, HD1.out, HD2.out, sameSs_cons, ← HSN.out, ← HSM.out, HEQ.out]; rfl, belowN HU.out _⟩
          case measure => simp [intOf]; omega
      · obtain rfl : j = l.length := by omega
        have HF : Hid (T = true) := Lib.hid (by rw [← HT.out, List.drop_length, HLL.out, List.drop_length]; rfl)
        go_wp2_with fail
        go_ret
        rw [HF.out]
        exact ⟨rfl, HU.out⟩
  · have gl' : ((l.length : Int) != m.length) = true := by simp; omega
    have HF : Hid (T = false) := Lib.hid (by
      rw [HTT.out]
      cases hs : sameSs l m
      · rfl
      · exact absurd (sameSs_len l m hs) gl)
    clear H7 H7' HTT gl
    go_enter Try.func43, Try.ntmps43
    go_wp2_with fail
    go_ret
    rw [HF.out]
    exact ⟨rfl, Below.refl _ _⟩
/-- Block g is a row of names, whose values' lists (so long at most) lie in rows somewhere. -/
def NTops (w : World) (lo g : Nat) (L : List Nat) : Prop :=
  (∃ cur, BlkN w g 73 cur ∧ L.length * 6 ≤ cur.size) ∧ ∀ (i : Nat) (h : i < L.length), ∃ s k m t A l c r, At w g (i * 6) [.string s, .int .u8 k, .int .i64 m, .string t, .slice A l c, .int .i64 r] ∧ l ≤ L[i] ∧ l ≤ c ∧ (0 < l → ∃ b, A = some ⟨b, 0, Option.none⟩ ∧ lo ≤ b ∧ OkB w b l)
theorem OkB.ne {w : World} {b n g : Nat} {cur : Array Value} (h : OkB w b n) (hg : BlkN w g 73 cur) : g ≠ b := by
  rintro rfl
  obtain ⟨cur', h1, _⟩ := h
  have := h1.symm.trans hg
  simp at this
theorem NTops.set {w : World} {lo g : Nat} {L : List Nat} (h : NTops w lo g L) {b n : Nat} (hb : OkB w b n) (o : Nat) (c0 c1 c2 c3 c4 : Value) : NTops (set5 w b o c0 c1 c2 c3 c4) lo g L := by
  obtain ⟨⟨cur, h1, h2⟩, h3⟩ := h
  have hne := hb.ne h1
  have hk := set5_other w b o c0 c1 c2 c3 c4 hne
  refine ⟨⟨cur, hk.trans h1, h2⟩, fun i hi => ?_⟩
  obtain ⟨s, k, m, t, A, l, c, r, h4, h5, h6, h7⟩ := h3 i hi
  exact ⟨s, k, m, t, A, l, c, r, fun j v hv => (World.cell?_of_block (w := w) (w' := set5 w b o c0 c1 c2 c3 c4) (a := ⟨g, i * 6 + j, Option.none⟩) hk).trans (h4 j v hv), h5, h6, fun hl => by obtain ⟨b', g1, g2, g3⟩ := h7 hl; exact ⟨b', g1, g2, g3.set _ _ _ _ _ _ _⟩⟩
def set6 (w : World) (g o : Nat) (c0 c1 c2 c3 c4 c5 : Value) : World := (set5 w g o c0 c1 c2 c3 c4).setCell ⟨g, o + 5, Option.none⟩ c5
set_option maxHeartbeats 2000000 in
theorem NTops.set6 {w : World} {lo g : Nat} {L : List Nat} (h : NTops w lo g L) (j : Nat) (hj : j < L.length) (s : ByteArray) (k m : Int) (t : ByteArray) (r : Int) :
    NTops (set6 w g (j * 6) (.string s) (.int .u8 k) (.int .i64 m) (.string t) (.slice Option.none 0 0) (.int .i64 r)) lo g L := by
  obtain ⟨⟨cur, h1, h2⟩, h3⟩ := h
  have hB := (set5_blk (o := j * 6) h1 (.string s) (.int .u8 k) (.int .i64 m) (.string t) (.slice Option.none 0 0)).set (j * 6 + 5) (.int .i64 r)
  have hok : ∀ {b n : Nat}, OkB w b n → OkB (Proofs.Ytnknefdpglnbnaa.set6 w g (j * 6) (.string s) (.int .u8 k) (.int .i64 m) (.string t) (.slice Option.none 0 0) (.int .i64 r)) b n := by
    rintro b n ⟨cur', hc, hs⟩
    have hne : b ≠ g := fun e => by subst e; exact (OkB.ne ⟨cur', hc, hs⟩ h1) rfl
    exact ⟨cur', ((Below.heap_setCell _ _ _ _ hne).trans (set5_other w g (j * 6) _ _ _ _ _ hne)).trans hc, hs⟩
  refine ⟨⟨_, hB, by simpa using h2⟩, fun i hi => ?_⟩
  obtain ⟨s', k', m', t', A, l, c, r', h4, h5, h6, h7⟩ := h3 i hi
  by_cases ei : i = j
  · subst ei
    refine ⟨s, k, m, t, Option.none, 0, 0, r, fun q v hv => ?_, by omega, by omega, fun h => by omega⟩
    show World.cell? (Proofs.Ytnknefdpglnbnaa.set6 _ _ _ _ _ _ _ _ _) _ = _
    unfold Proofs.Ytnknefdpglnbnaa.set6
    rw [hB.cell_eq]
    have hq : q < 6 := by have := (List.getElem?_eq_some_iff.1 hv).1; simpa using this
    obtain rfl | rfl | rfl | rfl | rfl | rfl : q = 0 ∨ q = 1 ∨ q = 2 ∨ q = 3 ∨ q = 4 ∨ q = 5 := by omega
    all_goals
      simp at hv
      subst hv
      simp [Array.getElem?_setIfInBounds]
      try omega
  · refine ⟨s', k', m', t', A, l, c, r', fun q v hv => ?_, h5, h6, fun hl => by obtain ⟨b', g1, g2, g3⟩ := h7 hl; exact ⟨b', g1, g2, hok g3⟩⟩
    have h0 := h4 q v hv
    have hq : q < 6 := by have := (List.getElem?_eq_some_iff.1 hv).1; simpa using this
    rw [h1.cell_eq] at h0
    show World.cell? (Proofs.Ytnknefdpglnbnaa.set6 _ _ _ _ _ _ _ _ _) _ = _
    unfold Proofs.Ytnknefdpglnbnaa.set6
    rw [hB.cell_eq]
    rw [Array.getElem?_setIfInBounds_ne (by omega), Array.getElem?_setIfInBounds_ne (by omega), Array.getElem?_setIfInBounds_ne (by omega), Array.getElem?_setIfInBounds_ne (by omega), Array.getElem?_setIfInBounds_ne (by omega), Array.getElem?_setIfInBounds_ne (by omega)]
    exact h0
end Go.Proofs.Ytnknefdpglnbnaa
namespace Go.Proofs.Ytnknefdpglnbnaa
open Go.RowKit

set_option maxRecDepth 100000 in
set_option maxHeartbeats 2000000 in
theorem spoilNames44_any (A : Option Addr) (n cap lo g : Nat) (L : List Nat) (w : World) (_hlo : lo ≤ w.heap.size) (hcap : n ≤ cap) (hn : n ≤ 140737488351232) (hg : 0 < n → A = some ⟨g, 0, Option.none⟩ ∧ lo ≤ g ∧ L.length = n ∧ (∀ x ∈ L, x ≤ 140737488351232) ∧ NTops w lo g L) :
    Calls Try.prog 44 #[.slice A n cap] w fun e w' => e = .returned (.tuple #[]) ∧ Below lo w w' := by
  have HG := Lib.hid hg
  have HG9 : Hid (0 < n → NTops w lo g L) := Lib.hid (fun h => (hg h).2.2.2.2)
  clear hg
  go_enter Try.func44, Try.ntmps44
  go_wp2_with fail
  go_loopw [2] (fun i wr => ∃ j : Nat, j ≤ n ∧ i = .int .i64 j ∧ Below lo w wr ∧ (0 < n → NTops wr lo g L)) (fun i _ => n - (intOf i).toNat)
  case atStart => exact ⟨0, by omega, rfl, Below.refl _ _, HG9.out⟩
  case round =>
    obtain ⟨j, hj, rfl, hu, ht⟩ := hrel
    have HU := Lib.hid hu
    have HT := Lib.hid ht
    clear hu ht
    by_cases hlt : j < n
    · obtain ⟨hA1, hg1, hL1, hL2, _⟩ := HG.out (by omega)
      subst hA1
      have hjL : j < L.length := by omega
      have hM := hL2 _ (List.getElem_mem hjL)
      obtain ⟨M, hMd⟩ : ∃ M, M = L[j] := ⟨_, rfl⟩
      rw [← hMd] at hM
      have HM := Lib.hid hMd
      have HL1 := Lib.hid hL1
      clear hMd hL1 hL2
      go_wp2_with fail
      obtain ⟨wo, rfl⟩ : ∃ wo : World, wo = wr := ⟨_, rfl⟩
      go_loopw [3] (fun i wi => ∃ m : Nat, m ≤ M ∧ i = .int .i64 m ∧ Below lo w wi ∧ NTops wi lo g L) (fun i _ => M - (intOf i).toNat)
      case atStart => exact ⟨0, by omega, rfl, HU.out, HT.out (by omega)⟩
      case round =>
        obtain ⟨m, hm, rfl, hu, ht⟩ := hrel
        have HU1 := Lib.hid hu
        have HT1 := Lib.hid ht
        obtain ⟨s', k', m', t', A', l', c', r', hat, hlM, hlc, htar⟩ := ht.2 j hjL
        rw [← HM.out] at hlM
        have e4 : wr.cell? ⟨g, j * 6 + 4, Option.none⟩ = some (.slice A' l' c') := hat 4 _ rfl
        obtain ⟨cur0, hc0, hs0⟩ := ht.1
        rw [HL1.out] at hs0
        clear hu ht hat
        by_cases hml : m < l'
        · obtain ⟨b', rfl, hb1, cur, hc, hs⟩ := htar (by omega)
          have hokb : OkB wr b' l' := ⟨cur, hc, hs⟩
          have HOKB := Lib.hid hokb
          obtain ⟨q0, c0⟩ := hc.some (m * 5) (by omega)
          obtain ⟨q1, c1⟩ := hc.some (m * 5 + 1) (by omega)
          obtain ⟨q2, c2⟩ := hc.some (m * 5 + 2) (by omega)
          obtain ⟨q3, c3⟩ := hc.some (m * 5 + 3) (by omega)
          obtain ⟨q4, c4⟩ := hc.some (m * 5 + 4) (by omega)
          have f0 := hc.free (m * 5)
          have f1 := hc.free (m * 5 + 1)
          have f2 := hc.free (m * 5 + 2)
          have f3 := hc.free (m * 5 + 3)
          have f4 := hc.free (m * 5 + 4)
          clear hc hokb htar hs hc0 hs0
          go_wp2_with fail
          go_roundw
          case rel => exact ⟨m + 1, by omega, by go_num, ((((HU1.out.setCell hb1 _).setCell hb1 _).setCell hb1 _).setCell hb1 _).setCell hb1 _, HT1.out.set HOKB.out _ _ _ _ _ _⟩
          case measure => simp [intOf]; omega
        · obtain ⟨q0, c0⟩ := hc0.some (j * 6) (by omega)
          obtain ⟨q1, c1⟩ := hc0.some (j * 6 + 1) (by omega)
          obtain ⟨q2, c2⟩ := hc0.some (j * 6 + 2) (by omega)
          obtain ⟨q3, c3⟩ := hc0.some (j * 6 + 3) (by omega)
          obtain ⟨q5, c5⟩ := hc0.some (j * 6 + 5) (by omega)
          have f0 := hc0.free (j * 6)
          have f1 := hc0.free (j * 6 + 1)
          have f2 := hc0.free (j * 6 + 2)
          have f3 := hc0.free (j * 6 + 3)
          have f4 := hc0.free (j * 6 + 4)
          have f5 := hc0.free (j * 6 + 5)
          clear hc0 hs0 htar
          go_wp2_with fail
          go_roundw
          case rel => exact ⟨j + 1, by omega, by go_num, (((((HU1.out.setCell hg1 _).setCell hg1 _).setCell hg1 _).setCell hg1 _).setCell hg1 _).setCell hg1 _, fun _ => HT1.out.set6 j hjL _ _ _ _ _⟩
          case measure => simp [intOf]; omega
    · obtain rfl : j = n := by omega
      go_wp2_with fail
      go_end0
      exact ⟨rfl, HU.out⟩
/-- What Only told may be written over. -/
theorem ntops_of {w : World} {lo : Nat} {v : Value} {l : List Na} (h : Own73 RdN34 w 0 lo v l) (hl : l.length ≤ 140737488351232) :
    ∃ A cap g L, v = .slice A l.length cap ∧ l.length ≤ cap ∧ (0 < l.length → A = some ⟨g, 0, Option.none⟩ ∧ lo ≤ g ∧ L.length = l.length ∧ (∀ x ∈ L, x ≤ 140737488351232) ∧ NTops w lo g L) := by
  obtain ⟨xs, h⟩ := h
  obtain ⟨A, cap, h1, h2, h3⟩ := h.row
  by_cases hz : l = []
  · exact ⟨A, cap, 0, [], h1, h2, fun h => by subst hz; simp at h⟩
  · obtain ⟨g, cur, hA, hlo, hc, hs, hp⟩ := h3 hz
    have key : ∀ (i : Nat) (hi : i < l.length), ∃ s k m t A l' c r, At w g (i * 6) [.string s, .int .u8 k, .int .i64 m, .string t, .slice A l' c, .int .i64 r] ∧ l' = vlen l[i].2 ∧ l' ≤ c ∧ l' ≤ 140737488351232 ∧ (0 < l' → ∃ b, A = some ⟨b, 0, Option.none⟩ ∧ lo ≤ b ∧ OkB w b l') := by
      intro i hi
      obtain ⟨cs, _, hat, h0, c0, c1, c2, c3, c4, rfl, hx⟩ := hp i hi
      generalize l[i] = x at hx h0 hat ⊢
      obtain ⟨sn, y⟩ := x
      obtain ⟨k', n', s', m, r'⟩ := y
      have hml := hx.len
      obtain ⟨_, _, _, _, A', cap', h5, h6, h7⟩ := hx.form
      simp only [Value.agg.injEq, Array.mk.injEq, List.cons.injEq, and_true] at h6
      obtain ⟨rfl, rfl, rfl, rfl, rfl⟩ := h6
      refine ⟨sn, k', n', s', A', m.length, cap', r', hat, rfl, h5, by omega, fun hpos => ?_⟩
      obtain ⟨b, o, ⟨hr, rfl, cur', hc'⟩, rfl, h9⟩ := h7 (by rintro rfl; simp at hpos)
      refine ⟨b, rfl, by rcases hr.1 with h | h <;> omega, cur', hc', ?_⟩
      obtain ⟨d0, d1, d2, d3, d4, ha, _⟩ := h9.at (m.length - 1) (by omega)
      have := ha 4 d4 rfl
      rw [hc'.cell_eq] at this
      have := (Array.getElem?_eq_some_iff.1 this).1
      omega
    refine ⟨A, cap, g, l.map fun x => vlen x.2, h1, h2, fun _ => ⟨hA, hlo, by simp, fun x hx => ?_, ⟨cur, hc, by simpa using hs⟩, fun i hi => ?_⟩⟩
    · obtain ⟨i, hi, rfl⟩ := List.mem_iff_getElem.1 hx
      obtain ⟨_, _, _, _, _, _, _, _, _, e, _, h4, _⟩ := key i (by simpa using hi)
      simp only [List.getElem_map]
      omega
    · obtain ⟨s, k, m, t, A2, l', c, r, e1, e2, e3, _, e4⟩ := key i (by simpa using hi)
      exact ⟨s, k, m, t, A2, l', c, r, e1, by simp only [List.getElem_map]; omega, e3, e4⟩
theorem Own73.names {D : Rd Na} (hD : ∀ {w : World} {R : Nat → Nat → Prop} {cs : List Value} {x : Na}, D.P w R cs x → RdN.P w R cs x) {w : World} {B lo : Nat} {v : Value} {l : List Na} (h : Own73 D w B lo v l) (hl : l.length * 80 ≤ 140737488351232) : IsNs w w.heap.size v l := by
  obtain ⟨xs, h⟩ := h
  obtain ⟨A, cap, h1, h2, h3⟩ := h.list
  exact ⟨hl, A, cap, h2, h1, fun hne => by
    obtain ⟨b, hr, hA, hp⟩ := h3 hne
    refine ⟨b, 0, hr.2, hA, (RdN.list fun i hi => ?_)⟩
    obtain ⟨cs, e1, e2, e3⟩ := hp i hi
    exact ⟨cs, e1, e2, RdN.mono (fun b o hr => hr.2) (hD e3)⟩⟩
end Go.Proofs.Ytnknefdpglnbnaa
