/- The contract of package code's Work. -/
import Derived.Test.YtnknefdpglnbnaaJ
namespace Go.Proofs.Ytnknefdpglnbnaa
open Go.RowKit

theorem IsNasR.mono {w : World} {R R' : Nat → Nat → Prop} (hk : ∀ b o, R b o → R' b o) {b : Nat} : ∀ {o : Nat} {l : List Na}, IsNasR w R b o l → IsNasR w R' b o l
  | _, [], _ => by unfold IsNasR; trivial
  | _, (s, x) :: l, h => by
    unfold IsNasR at h ⊢
    obtain ⟨⟨h0, c0, c1, c2, c3, c4, h1, h2⟩, h3⟩ := h
    exact ⟨⟨h0, c0, c1, c2, c3, c4, h1, IsVaR.mono hk h2⟩, IsNasR.mono hk h3⟩
theorem IsNsR.mono {w : World} {R R' : Nat → Nat → Prop} (hk : ∀ b o, R b o → R' b o) {v : Value} {l : List Na} (h : IsNsR w R v l) : IsNsR w R' v l := by
  obtain ⟨h1, A, cap, h2, h3, h4⟩ := h
  refine ⟨h1, A, cap, h2, h3, fun hl => ?_⟩
  obtain ⟨b, o, hb, hA, hx⟩ := h4 hl
  exact ⟨b, o, hk b o hb, hA, hx.mono hk⟩
/-- What Work answers. -/
def workV (ns : List Na) (x : Ex) : Va × Int :=
  if mayNs ns && orNoneE x then (if (workX ns x 512).2 < 0 || !mayV (workX ns x 512).1 then (zeroVa, 8) else ((workX ns x 512).1, 0)) else (zeroVa, 2)
set_option maxRecDepth 100000 in
set_option maxHeartbeats 1000000 in
theorem Work_any {B : Nat} {v vn : Value} {x : Ex} {ns : List Na} (w : World) (h : IsEx w B v x) (hns : IsNs w B vn ns) (hB : B ≤ w.heap.size) :
    Calls Try.prog 19 #[vn, v] w fun e w' => ∃ v', e = .returned (.tuple #[v', .int .i64 (workV ns x).2]) ∧ IsVaR w' (Own34 w' w.heap.size) v' (workV ns x).1 ∧ Below w.heap.size w w' := by
  have HH := Lib.hid h
  have HN := Lib.hid hns
  obtain ⟨k, n, s, l⟩ := x
  obtain ⟨h1, h2, h3, h4, A, cap, h5, rfl, h7⟩ := h.form
  obtain ⟨_, An, ncap, _, rfl, _⟩ := hns
  clear h h7
  obtain ⟨y, hy⟩ : ∃ y, y = Ex.mk k n s l := ⟨_, rfl⟩
  rw [← hy] at HH ⊢
  clear hy
  have HB0 := Lib.hid (((Below.refl w.heap.size w).alloc (Nat.le_refl _) (.cells #[.int .u8 k, .int .i64 n, .string s, .slice A l.length cap] 26)).alloc (by simp) (.cells zeroV 34))
  have HR0 : Hid (BlkN ((w.alloc (.cells #[.int .u8 k, .int .i64 n, .string s, .slice A l.length cap] 26)).alloc (.cells zeroV 34)) (w.heap.size + 1) 34 zeroV) := Lib.hid (BlkN.at_ (by simp) _ _)
  have HE0 : Hid (BlkN ((w.alloc (.cells #[.int .u8 k, .int .i64 n, .string s, .slice A l.length cap] 26)).alloc (.cells zeroV 34)) w.heap.size 26 #[.int .u8 k, .int .i64 n, .string s, .slice A l.length cap]) := Lib.hid ((BlkN.at_ rfl _ _).alloc _)
  go_enter Try.func19, Try.ntmps19
  go_wp2_with fail
  refine (MayNames_any (B := B) _ (HN.out.keep (fun b hb => HB0.out.block b (by omega))) (by simp; omega)).mono ?_
  rintro e w1 ⟨rfl, hb1⟩
  have HB1 := Lib.hid (bnext HB0.out hb1)
  have HR1 := Lib.hid (HR0.out.below hb1)
  have HE1 := Lib.hid (HE0.out.below hb1)
  have hs1 := hb1.size
  simp only [World.size_alloc] at hs1
  clear hb1
  have d0 := HR1.out.cell 0 rfl
  have d1 := HR1.out.cell 1 rfl
  have d2 := HR1.out.cell 2 rfl
  have d3 := HR1.out.cell 3 rfl
  have d4 := HR1.out.cell 4 rfl
  have x0 := HR1.out.free 0
  have x1 := HR1.out.free 1
  have x2 := HR1.out.free 2
  have x3 := HR1.out.free 3
  have x4 := HR1.out.free 4
  cases hmn : mayNs ns
  · have HWV : Hid (workV ns y = (zeroVa, 2)) := Lib.hid (by simp [workV, hmn])
    go_wp2_with fail
    obtain ⟨WF, hWF, y0, y1, y2, y3, y4, hk, hbel, _⟩ := res5 HR1.out (.int .u8 0) (.int .i64 0) (.string ⟨#[]⟩) (.slice Option.none 0 0) (.int .i64 0)
    rw [hWF]
    refine bodyPost_ret (v := .tuple #[.agg #[.int .u8 0, .int .i64 0, .string ⟨#[]⟩, .slice Option.none 0 0, .int .i64 0], .int .i64 2]) (by simp [results, Try.results19, go_sem, y0, y1, y2, y3, y4]) rfl ⟨_, by rw [HWV.out], ?_, hbel _ _ (by omega) HB1.out⟩
    rw [HWV.out]
    exact IsVaR.zero _ _
  · have HMN := Lib.hid hmn
    clear hmn
    have e0 := HE1.out.cell 0 rfl
    have e1 := HE1.out.cell 1 rfl
    have e2 := HE1.out.cell 2 rfl
    have e3 := HE1.out.cell 3 rfl
    go_wp2_with fail
    refine (orNone_any (B := B) (x := y) _ (HH.out.keep (fun b hb => HB1.out.block b (by omega))) (by omega)).mono ?_
    rintro e w2 ⟨rfl, hb2⟩
    have HB2 := Lib.hid (bnext HB1.out hb2)
    have HR2 := Lib.hid (HR1.out.below hb2)
    have HE2 := Lib.hid (HE1.out.below hb2)
    have hs2 := hb2.size
    clear hb2 d0 d1 d2 d3 d4 x0 x1 x2 x3 x4 e0 e1 e2 e3
    have d0 := HR2.out.cell 0 rfl
    have d1 := HR2.out.cell 1 rfl
    have d2 := HR2.out.cell 2 rfl
    have d3 := HR2.out.cell 3 rfl
    have d4 := HR2.out.cell 4 rfl
    have x0 := HR2.out.free 0
    have x1 := HR2.out.free 1
    have x2 := HR2.out.free 2
    have x3 := HR2.out.free 3
    have x4 := HR2.out.free 4
    have e0 := HE2.out.cell 0 rfl
    have e1 := HE2.out.cell 1 rfl
    have e2 := HE2.out.cell 2 rfl
    have e3 := HE2.out.cell 3 rfl
    cases hon : orNoneE y
    · have HWV : Hid (workV ns y = (zeroVa, 2)) := Lib.hid (by simp [workV, hon])
      go_wp2_with fail
      obtain ⟨WF, hWF, y0, y1, y2, y3, y4, hk, hbel, _⟩ := res5 HR2.out (.int .u8 0) (.int .i64 0) (.string ⟨#[]⟩) (.slice Option.none 0 0) (.int .i64 0)
      rw [hWF]
      refine bodyPost_ret (v := .tuple #[.agg #[.int .u8 0, .int .i64 0, .string ⟨#[]⟩, .slice Option.none 0 0, .int .i64 0], .int .i64 2]) (by simp [results, Try.results19, go_sem, y0, y1, y2, y3, y4]) rfl ⟨_, by rw [HWV.out], ?_, hbel _ _ (by omega) HB2.out⟩
      rw [HWV.out]
      exact IsVaR.zero _ _
    · have HON := Lib.hid hon
      have hszy : szE y ≤ 512 := by
        unfold orNoneE at hon
        simp only [Bool.or_eq_true] at hon
        rcases hon with h | h
        · have := noneX_sz y h; omega
        · exact mayE_sz y h
      clear hon
      obtain ⟨l0, l1, l2, l3, l4⟩ := lts (show w.heap.size < w2.heap.size by omega)
      go_wp2_with fail
      have hA2 := (Below.refl w2.heap.size w2).alloc (Nat.le_refl _) (.cells #[.int .i64 512] 3)
      refine (work_any ns y (w2.alloc (.cells #[.int .i64 512] 3)) w2.heap.size _ _ w2.heap.size 512 ?ha ?hb (Nat.le_refl _) (Blk.new _ _ _) (by omega) (by omega) hszy).mono ?_
      case ha => exact IsEx.keep (fun b hb => hA2.block b hb) (IsExR.mono (fun b _ hb => by show b < w2.heap.size; omega) (HH.out.keep (fun b hb => HB2.out.block b (by omega))))
      case hb => exact IsNs.keep (fun b hb => hA2.block b hb) (IsNsR.mono (fun b _ hb => by show b < w2.heap.size; omega) (HN.out.keep (fun b hb => HB2.out.block b (by omega))))
      rintro e w3 ⟨v', rfl, hv', hp3, hu3⟩
      obtain ⟨k2, n2, s2, A2, len2, cap2, r2, rfl⟩ := hv'.shape
      have HB3 := Lib.hid (hu3.toBelow (a := w) (by omega) (bnext HB2.out hA2))
      have HR3 := Lib.hid ((HR2.out.below hA2).upd hu3 (by omega))
      have HP3 := Lib.hid hp3
      have HV3 := Lib.hid hv'
      have hs3 := hu3.size
      simp only [World.size_alloc] at hs3
      have hpc := hp3.cell
      obtain ⟨m0, m1, m2, m3, m4⟩ := lts (show w2.heap.size < w3.heap.size by omega)
      obtain ⟨o0, o1, o2, o3, o4⟩ := lts (show w.heap.size + 1 < w3.heap.size by omega)
      have hlb := workX_left ns y 512
      clear hA2 hv' hp3 hu3 d0 d1 d2 d3 d4 x0 x1 x2 x3 x4 e0 e1 e2 e3 l0 l1 l2 l3 l4
      have d0 := HR3.out.cell 0 rfl
      have d1 := HR3.out.cell 1 rfl
      have d2 := HR3.out.cell 2 rfl
      have d3 := HR3.out.cell 3 rfl
      have d4 := HR3.out.cell 4 rfl
      have x0 := HR3.out.free 0
      have x1 := HR3.out.free 1
      have x2 := HR3.out.free 2
      have x3 := HR3.out.free 3
      have x4 := HR3.out.free 4
      have HRA := Lib.hid (HR3.out.alloc (.cells #[.int .u8 k2, .int .i64 n2, .string s2, .slice A2 len2 cap2, .int .i64 r2] 34))
      have HBA := Lib.hid (HB3.out.alloc HB3.out.size (.cells #[.int .u8 k2, .int .i64 n2, .string s2, .slice A2 len2 cap2, .int .i64 r2] 34))
      have HVA := Lib.hid (HV3.out.below ((Below.refl _ _).alloc (Nat.le_refl _) (.cells #[.int .u8 k2, .int .i64 n2, .string s2, .slice A2 len2 cap2, .int .i64 r2] 34)))
      have HTA : Hid (BlkN (w3.alloc (.cells #[.int .u8 k2, .int .i64 n2, .string s2, .slice A2 len2 cap2, .int .i64 r2] 34)) w3.heap.size 34 #[.int .u8 k2, .int .i64 n2, .string s2, .slice A2 len2 cap2, .int .i64 r2]) := Lib.hid (BlkN.at_ rfl _ _)
      obtain ⟨q, hq⟩ : ∃ q, q = (workX ns y 512).2 := ⟨_, rfl⟩
      obtain ⟨vx, hvx⟩ : ∃ vx, vx = (workX ns y 512).1 := ⟨_, rfl⟩
      have HQ := Lib.hid hq
      have HVX := Lib.hid hvx
      rw [← hq] at hpc hlb
      rw [← hvx] at HVA
      clear hq hvx
      by_cases hneg : q < 0
      · have HWV : Hid (workV ns y = (zeroVa, 8)) := Lib.hid (by simp [workV, HMN.out, HON.out, ← HQ.out, hneg])
        go_wp2_with fail
        obtain ⟨WF, hWF, _, _, _, _, _, hk, hbel, hRF⟩ := res5 HR3.out (.int .u8 0) (.int .i64 0) (.string ⟨#[]⟩) (.slice Option.none 0 0) (.int .i64 0)
        rw [hWF]
        have hRF' := hRF.alloc (.cells #[.int .u8 k2, .int .i64 n2, .string s2, .slice A2 len2 cap2, .int .i64 r2] 34)
        have y0 := hRF'.cell 0 rfl
        have y1 := hRF'.cell 1 rfl
        have y2 := hRF'.cell 2 rfl
        have y3 := hRF'.cell 3 rfl
        have y4 := hRF'.cell 4 rfl
        have hbw := hbel _ _ (by omega) HB3.out
        refine bodyPost_ret (v := .tuple #[.agg #[.int .u8 0, .int .i64 0, .string ⟨#[]⟩, .slice Option.none 0 0, .int .i64 0], .int .i64 8]) (by simp [results, Try.results19, go_sem, y0, y1, y2, y3, y4]) rfl ⟨_, by rw [HWV.out], ?_, hbw.alloc hbw.size _⟩
        rw [HWV.out]
        exact IsVaR.zero _ _
      · go_wp2_with fail
        refine (vmay_any (B := (w3.alloc (.cells #[.int .u8 k2, .int .i64 n2, .string s2, .slice A2 len2 cap2, .int .i64 r2] 34)).heap.size) (x := vx) _ (IsVaR.mono (fun b o hr => hr.lt) HVA.out) (Nat.le_refl _)).mono ?_
        rintro e w4 ⟨rfl, hb4⟩
        have HB4 := Lib.hid (bnext HBA.out hb4)
        have HR4 := Lib.hid (HRA.out.below hb4)
        have HV4 := Lib.hid (HVA.out.below hb4)
        have HT4 := Lib.hid (HTA.out.below hb4)
        have hs4 := hb4.size
        simp only [World.size_alloc] at hs4
        clear hb4 d0 d1 d2 d3 d4 x0 x1 x2 x3 x4
        have d0 := HR4.out.cell 0 rfl
        have d1 := HR4.out.cell 1 rfl
        have d2 := HR4.out.cell 2 rfl
        have d3 := HR4.out.cell 3 rfl
        have d4 := HR4.out.cell 4 rfl
        have x0 := HR4.out.free 0
        have x1 := HR4.out.free 1
        have x2 := HR4.out.free 2
        have x3 := HR4.out.free 3
        have x4 := HR4.out.free 4
        have e0 := HT4.out.cell 0 rfl
        have e1 := HT4.out.cell 1 rfl
        have e2 := HT4.out.cell 2 rfl
        have e3 := HT4.out.cell 3 rfl
        have e4 := HT4.out.cell 4 rfl
        cases hmv : mayV vx
        · have HWV : Hid (workV ns y = (zeroVa, 8)) := Lib.hid (by simp [workV, HMN.out, HON.out, ← HQ.out, ← HVX.out, hmv])
          go_wp2_with fail
          obtain ⟨WF, hWF, y0, y1, y2, y3, y4, hk, hbel, hRF⟩ := res5 HR4.out (.int .u8 0) (.int .i64 0) (.string ⟨#[]⟩) (.slice Option.none 0 0) (.int .i64 0)
          rw [hWF]
          refine bodyPost_ret (v := .tuple #[.agg #[.int .u8 0, .int .i64 0, .string ⟨#[]⟩, .slice Option.none 0 0, .int .i64 0], .int .i64 8]) (by simp [results, Try.results19, go_sem, y0, y1, y2, y3, y4]) rfl ⟨_, by rw [HWV.out], ?_, hbel _ _ (by omega) HB4.out⟩
          rw [HWV.out]
          exact IsVaR.zero _ _
        · have HWV : Hid (workV ns y = (vx, 0)) := Lib.hid (by
            have h1 : ¬ (workX ns y 512).2 < 0 := by rw [← HQ.out]; omega
            simp only [workV, HMN.out, HON.out, ← HVX.out, hmv, Bool.and_self, if_true, h1, decide_false, Bool.not_true, Bool.or_self, Bool.false_eq_true, if_false])
          go_wp2_with fail
          obtain ⟨WF, hWF, y0, y1, y2, y3, y4, hk, hbel, hRF⟩ := res5 HR4.out (.int .u8 k2) (.int .i64 n2) (.string s2) (.slice A2 len2 cap2) (.int .i64 r2)
          rw [hWF]
          refine bodyPost_ret (v := .tuple #[.agg #[.int .u8 k2, .int .i64 n2, .string s2, .slice A2 len2 cap2, .int .i64 r2], .int .i64 0]) (by simp [results, Try.results19, go_sem, y0, y1, y2, y3, y4]) rfl ⟨_, by rw [HWV.out], ?_, hbel _ _ (by omega) HB4.out⟩
          rw [HWV.out]
          exact (HV4.out.other hk (by simp; omega)).low (by simp; omega)
end Go.Proofs.Ytnknefdpglnbnaa
