/- The document's comparison of codes, walked. -/
import Derived.Test.YtnknefdpglnbnaaCs
import Derived.Test.YtnknefdpglnbnaaCt
namespace Go.Proofs.Ytnknefdpglnbnaa
open Go.RowKit

mutual
def sameSt : St → St → Bool
  | .mk op nm sec ab wh a b t e c ws, .mk op' nm' sec' ab' wh' a' b' t' e' c' ws' =>
    op == op' && (nm.toList == nm'.toList && (sec.toList == sec'.toList && (ab == ab' && (wh == wh' && (sameX a a' && (sameX b b' && (sameSts t t' && (sameSts e e' && (sameSts c c' && sameW ws ws')))))))))
def sameSts : List St → List St → Bool
  | [], [] => true
  | x :: l, y :: m => sameSt x y && sameSts l m
  | _, _ => false
end
theorem sameSts_len : ∀ (l m : List St), sameSts l m = true → l.length = m.length
  | [], [], _ => rfl
  | x :: l, y :: m, h => by simp only [sameSts, Bool.and_eq_true] at h; simp [sameSts_len l m h.2]
  | [], _ :: _, h => by simp [sameSts] at h
  | _ :: _, [], h => by simp [sameSts] at h
mutual
theorem sameSt_refl : ∀ (x : St), sameSt x x = true
  | .mk op nm sec ab wh a b t e c ws => by simp [sameSt, sameX_refl, sameSts_refl t, sameSts_refl e, sameSts_refl c, sameW_refl]
theorem sameSts_refl : ∀ (l : List St), sameSts l l = true
  | [] => rfl
  | x :: l => by simp [sameSts, sameSt_refl x, sameSts_refl l]
end
theorem sameSts_cons (x y : St) (l m : List St) : sameSts (x :: l) (y :: m) = (sameSt x y && sameSts l m) := by simp [sameSts]
def SameSC (l : List St) : Prop := ∀ (m : List St) (w : World) (B C : Nat) (A : Option Addr) (len cap : Nat) (A' : Option Addr) (len' cap' : Nat),
  LR (fun b _ => b < B) 256 A len cap l (fun b o => IsSts w B b o l) → LR (fun b _ => b < C) 256 A' len' cap' m (fun b o => IsSts w C b o m) → B ≤ w.heap.size → C ≤ w.heap.size →
  Calls Try.prog 34 #[.slice A len cap, .slice A' len' cap'] w fun e w' => e = .returned (.bool (sameSts l m)) ∧ Below w.heap.size w w'
attribute [local go_sem] SV.g0 SV.g1 SV.g2 SV.g3 SV.g4 SV.g5 SV.g6 SV.g7 SV.g8 SV.g9 SV.g10 SV.g11 SV.g12 SV.g13 SV.g14 SV.g15 SV.g16
set_option maxRecDepth 100000 in
set_option maxHeartbeats 8000000 in
theorem same34_step (l : List St) (IH : ∀ x ∈ l, ∀ op nm sec ab wh a b t e c ws, x = .mk op nm sec ab wh a b t e c ws → SameSC t ∧ SameSC e ∧ SameSC c) : SameSC l := by
  intro m w B C A len cap A' len' cap' hl hm hB hC
  obtain ⟨rfl, hcap, hsz, h7⟩ := hl
  obtain ⟨rfl, hcap', hsz', h7'⟩ := hm
  have H7 := Lib.hid h7
  have H7' := Lib.hid h7'
  have HI := Lib.hid IH
  have hlen : l.length ≤ 140737488351232 := by omega
  have hlen' : m.length ≤ 140737488351232 := by omega
  obtain ⟨T, hT⟩ : ∃ T, T = sameSts l m := ⟨_, rfl⟩
  rw [← hT]
  have HT := Lib.hid hT
  clear h7 h7' IH hsz hsz' hT
  by_cases hll : l.length = m.length
  rotate_left
  · have hll' : ((l.length : Int) != m.length) = true := by simp; omega
    have HF : Hid (T = false) := Lib.hid (by
      rw [HT.out]
      cases h : sameSts l m
      · rfl
      · exact absurd (sameSts_len l m h) hll)
    clear hll
    go_enter Try.func34, Try.ntmps34
    go_wp2_with fail
    go_ret
    exact ⟨ret_bool HF.out.symm, Below.refl _ _⟩
  have hll' : ((l.length : Int) != m.length) = false := by rw [hll]; simp
  have HLL := Lib.hid hll
  clear hll
  go_enter Try.func34, Try.ntmps34
  go_wp2_with fail
  clear hll'
  go_loopw [5] (fun i wr => ∃ j : Nat, j ≤ l.length ∧ i = .int .i64 j ∧ sameSts (l.drop j) (m.drop j) = T ∧ Below w.heap.size w wr) (fun i _ => l.length - (intOf i).toNat)
  case atStart => exact ⟨0, by omega, rfl, HT.out.symm, Below.refl _ _⟩
  case round =>
    obtain ⟨j, hj, rfl, ht, hu⟩ := hrel
    have HTJ := Lib.hid ht
    have HU := Lib.hid hu
    have hus := hu.size
    clear ht hu
    by_cases hlt : j < l.length
    rotate_left
    · obtain rfl : j = l.length := by omega
      have hF : T = true := by rw [← HTJ.out, List.drop_length, HLL.out, List.drop_length]; rfl
      have HF := Lib.hid hF
      clear hF
      go_wp2_with fail
      go_ret
      exact ⟨ret_bool HF.out.symm, HU.out⟩
    have hlt' : j < m.length := by have := HLL.out; omega
    obtain ⟨b, o, hbB, hA, hx⟩ := H7.out (by rintro rfl; simp at hlt)
    obtain ⟨b2, o2, hbC, hA', hx'⟩ := H7'.out (by rintro rfl; simp at hlt')
    subst hA hA'
    obtain ⟨s, hat, hs⟩ := hx.at j hlt
    obtain ⟨z, hat', hz⟩ := hx'.at j hlt'
    have hat2 := At.keep hat hbB (fun b hb => HU.out.block b (by omega))
    have hat2' := At.keep hat' hbC (fun b hb => HU.out.block b (by omega))
    have HS := Lib.hid hs
    have HZ := Lib.hid hz
    have HI3 := Lib.hid (HI.out _ (List.getElem_mem hlt))
    have hd : sameSts (l.drop j) (m.drop j) = (sameSt l[j] m[j] && sameSts (l.drop (j + 1)) (m.drop (j + 1))) := by rw [List.drop_eq_getElem_cons hlt, List.drop_eq_getElem_cons hlt', sameSts_cons]
    have hd2 : T = (sameSt l[j] m[j] && sameSts (l.drop (j + 1)) (m.drop (j + 1))) := by rw [← HTJ.out, hd]
    obtain ⟨x, hxe⟩ : ∃ x, x = l[j] := ⟨_, rfl⟩
    obtain ⟨y, hye⟩ : ∃ y, y = m[j] := ⟨_, rfl⟩
    rw [← hxe] at HS HI3 hd2
    rw [← hye] at HZ hd2
    have HD := Lib.hid hd2
    clear hd hd2 hxe hye hx hx' hat hat' hs hz
    go_upto_region 6 with (fail)
    refine reg34_6 s z b o l.length cap b2 o2 m.length cap' j wr hlt hlt' hlen hlen' hcap hcap' (by omega) (by omega) hat2 hat2' _ _ _ _ _ _ _ _ _ _ _ _ _ _ _ _ _ _ _ _ _ _ _ _ _ _ _ _ _ _ _ _ _ _ _ _ _ _ _ _ _ _ _ _ _ _ _ _ _ _ _ _ _ _ _ _ _ _ _ _ _ _ _ _ _ _ _ _ _ _ _ _ _ _ _ _ _ _ _ _ _ _ _ _ _ _ _ _ _ _ _ _ _ _ _ _ _ _ _ _ _ _ _ _ _ _ _ _ _ _ _ _ _ _ _ _ _ _ _ _ _ _ _ _ _ ?_
    intro W6 p q hpq hBp hBq hb6
    have HBP := Lib.hid hBp
    have HBQ := Lib.hid hBq
    have HU6 := Lib.hid (bnext HU.out hb6)
    have hu6 := HU6.out.size
    have hpl := hBp.lt
    have hql := hBq.lt
    clear hBp hBq hb6 hat2 hat2'
    obtain ⟨op, nm, sec, ab, wh, xa, xb, xt, xe, xc, xw⟩ := x
    obtain ⟨op', nm', sec', ab', wh', ya, yb, yt, ye, yc, yw⟩ := y
    obtain ⟨⟨rfl, rfl, rfl, rfl, rfl⟩, hbd, ha, hb, hxt, hxe, hxc, hxw⟩ := HS.out.form
    obtain ⟨⟨rfl, rfl, rfl, rfl, rfl⟩, hbd', ha', hb', hyt, hye, hyc, hyw⟩ := HZ.out.form
    obtain ⟨it, ie, ic⟩ := HI3.out _ _ _ _ _ _ _ _ _ _ _ rfl
    have k1 : ∀ w', Below W6.heap.size W6 w' → ∀ b, b < B → w'.heap[b]? = w.heap[b]? := fun w' hb b hl => (bnext HU6.out hb).block b (by omega)
    have k2 : ∀ w', Below W6.heap.size W6 w' → ∀ b, b < C → w'.heap[b]? = w.heap[b]? := fun w' hb b hl => (bnext HU6.out hb).block b (by omega)
    have hsw : s.wl = xw.length ∧ s.wl ≤ 140737488351232 := by
      obtain ⟨h1, h2, A, cap, h3, h4, h5⟩ := hxw
      simp only [Value.slice.injEq] at h4
      exact ⟨h4.2.1, by omega⟩
    have hzw : z.wl = yw.length ∧ z.wl ≤ 140737488351232 := by
      obtain ⟨h1, h2, A, cap, h3, h4, h5⟩ := hyw
      simp only [Value.slice.injEq] at h4
      exact ⟨h4.2.1, by omega⟩
    have HSW := Lib.hid hsw.1
    have HZW := Lib.hid hzw.1
    have HXW := Lib.hid hxw
    have HYW := Lib.hid hyw
    obtain ⟨ra, hra⟩ : ∃ r, r = sameX xa ya := ⟨_, rfl⟩
    obtain ⟨rb, hrb⟩ : ∃ r, r = sameX xb yb := ⟨_, rfl⟩
    obtain ⟨rt, hrt⟩ : ∃ r, r = sameSts xt yt := ⟨_, rfl⟩
    obtain ⟨re, hre⟩ : ∃ r, r = sameSts xe ye := ⟨_, rfl⟩
    obtain ⟨rc, hrc⟩ : ∃ r, r = sameSts xc yc := ⟨_, rfl⟩
    have HD2 : Hid (T = ((s.op == z.op && (s.nm.toList == z.nm.toList && (s.sec.toList == z.sec.toList && (s.ab == z.ab && (s.wh == z.wh && (ra && (rb && (rt && (re && (rc && sameW xw yw)))))))))) && sameSts (l.drop (j + 1)) (m.drop (j + 1)))) := Lib.hid (by rw [HD.out, sameSt, hra, hrb, hrt, hre, hrc])
    have ca : ∀ w', Below W6.heap.size W6 w' → Calls Try.prog 80 #[.agg #[.int .u8 s.a0, .int .i64 s.a1, .string s.a2, .slice s.aA s.al s.ac], .agg #[.int .u8 z.a0, .int .i64 z.a1, .string z.a2, .slice z.aA z.al z.ac]] w' fun e w'' => e = .returned (.bool ra) ∧ Below w'.heap.size w' w'' := fun w' hb6 => by
      rw [hra]; exact sameExpr80_any xa ya w' B C _ _ (IsEx.keep (B := B) (k1 w' hb6) ha) (IsEx.keep (B := C) (k2 w' hb6) ha') (by have := hb6.size; omega) (by have := hb6.size; omega)
    have cb : ∀ w', Below W6.heap.size W6 w' → Calls Try.prog 80 #[.agg #[.int .u8 s.b0, .int .i64 s.b1, .string s.b2, .slice s.bA s.bl s.bc], .agg #[.int .u8 z.b0, .int .i64 z.b1, .string z.b2, .slice z.bA z.bl z.bc]] w' fun e w'' => e = .returned (.bool rb) ∧ Below w'.heap.size w' w'' := fun w' hb6 => by
      rw [hrb]; exact sameExpr80_any xb yb w' B C _ _ (IsEx.keep (B := B) (k1 w' hb6) hb) (IsEx.keep (B := C) (k2 w' hb6) hb') (by have := hb6.size; omega) (by have := hb6.size; omega)
    have ct : ∀ w', Below W6.heap.size W6 w' → Calls Try.prog 34 #[.slice s.tA s.tl s.tc, .slice z.tA z.tl z.tc] w' fun e w'' => e = .returned (.bool rt) ∧ Below w'.heap.size w' w'' := fun w' hb6 => by
      rw [hrt]; exact it yt w' B C _ _ _ _ _ _ (hxt.imp fun b o hr hp => ⟨hr, IsSts.keep (k1 w' hb6) hr hp⟩) (hyt.imp fun b o hr hp => ⟨hr, IsSts.keep (k2 w' hb6) hr hp⟩) (by have := hb6.size; omega) (by have := hb6.size; omega)
    have ce : ∀ w', Below W6.heap.size W6 w' → Calls Try.prog 34 #[.slice s.eA s.el s.ec, .slice z.eA z.el z.ec] w' fun e w'' => e = .returned (.bool re) ∧ Below w'.heap.size w' w'' := fun w' hb6 => by
      rw [hre]; exact ie ye w' B C _ _ _ _ _ _ (hxe.imp fun b o hr hp => ⟨hr, IsSts.keep (k1 w' hb6) hr hp⟩) (hye.imp fun b o hr hp => ⟨hr, IsSts.keep (k2 w' hb6) hr hp⟩) (by have := hb6.size; omega) (by have := hb6.size; omega)
    have cc : ∀ w', Below W6.heap.size W6 w' → Calls Try.prog 34 #[.slice s.cA s.cl s.cc, .slice z.cA z.cl z.cc] w' fun e w'' => e = .returned (.bool rc) ∧ Below w'.heap.size w' w'' := fun w' hb6 => by
      rw [hrc]; exact ic yc w' B C _ _ _ _ _ _ (hxc.imp fun b o hr hp => ⟨hr, IsSts.keep (k1 w' hb6) hr hp⟩) (hyc.imp fun b o hr hp => ⟨hr, IsSts.keep (k2 w' hb6) hr hp⟩) (by have := hb6.size; omega) (by have := hb6.size; omega)
    have HCA := Lib.hid ca
    have HCB := Lib.hid cb
    have HCT := Lib.hid ct
    have HCE := Lib.hid ce
    have HCC := Lib.hid cc
    have HW1 := Lib.hid hsw.2
    have HW2 := Lib.hid hzw.2
    clear ca cb ct ce cc hsw hzw hxw hyw hra hrb hrt hre hrc k1 k2 hxt hxe hxc hyt hye hyc ha hb ha' hb' it ie ic hbd hbd' HD HS HZ HI3
    go_upto_region 7 with (fail)
    refine reg34_7 s z p q W6 ra rb rt re rc HW1.out HW2.out HBP.out HBQ.out HCA.out HCB.out HCT.out HCE.out HCC.out _ _ _ _ _ _ _ _ _ _ _ _ _ _ _ _ _ _ _ _ _ _ _ _ _ _ _ _ _ _ _ _ _ _ _ _ _ _ _ _ _ _ _ _ _ _ _ _ _ _ _ _ _ _ _ _ _ _ _ _ _ _ _ _ _ _ _ _ _ _ _ _ _ _ _ _ _ _ _ _ _ _ _ _ _ _ _ _ _ _ _ _ _ _ _ _ _ _ _ _ _ _ _ _ _ _ _ _ _ _ _ _ _ _ _ _ _ _ _ _ _ _ _ _ _ _ ?_
    intro R W7 v28 v29 v30 v31 v32 v33 v34 v35 v36 v37 v38 v39 v40 v41 v42 v43 v44 v45 v46 v47 v48 v49 v50 v51 v52 v53 v54 v55 v56 v57 v58 v59 v60 v61 v62 v63 v64 v65 v66 v67 v68 v69 v70 v71 v72 v73 v74 v75 v76 v77 v78 v79 v80 v81 v82 v83 v84 v85 v86 v87 v88 v89 v90 v91 v92 v93 v94 v95 v96 v97 v98 v99 v100 v101 v102 v103 v104 v105 v106 v107 v108 hR hb7
    have HU7 := Lib.hid (bnext HU6.out hb7)
    have HBP7 := Lib.hid (HBP.out.below hb7)
    have HBQ7 := Lib.hid (HBQ.out.below hb7)
    have hR' := Lib.hid hR
    clear hR hb7 HCA HCB HCT HCE HCC HW1 HW2 HBP HBQ hpl hql
    cases R
    rotate_left
    · have HF : Hid (T = false) := Lib.hid (by
        cases hTT : T
        · rfl
        · exfalso
          have h := HD2.out
          rw [hTT] at h
          have h := h.symm
          simp only [Bool.and_eq_true] at h
          obtain ⟨⟨e0, e1, e2, e3, e4, e5, e6, e7, e8, e9, e10⟩, _⟩ := h
          have hw : (s.wl == z.wl) = true := by rw [HSW.out, HZW.out, sameW_len _ _ e10]; simp
          have hr := hR'.out
          rw [e0, e1, e2, e3, e4, e5, e6, e7, e8, e9, hw] at hr
          cases hr)
      go_wp2_with fail
      go_ret
      exact ⟨ret_bool HF.out.symm, HU7.out⟩
    have hX := (Bool.not_eq_false' _).mp hR'.out.symm
    simp only [Bool.and_eq_true] at hX
    obtain ⟨e0, e1, e2, e3, e4, e5, e6, e7, e8, e9, ew⟩ := hX
    have HD3 : Hid (T = (sameW xw yw && sameSts (l.drop (j + 1)) (m.drop (j + 1)))) := Lib.hid (by rw [HD2.out, e0, e1, e2, e3, e4, e5, e6, e7, e8, e9]; simp only [Bool.true_and])
    have hxy : xw.length = yw.length := by rw [← HSW.out, ← HZW.out]; exact eq_of_beq ew
    have HXY := Lib.hid hxy
    obtain ⟨S, hS⟩ : ∃ S, S = sameW xw yw := ⟨_, rfl⟩
    rw [← hS] at HD3
    have HSS := Lib.hid hS
    have hwl : s.wl ≤ 140737488351232 := by have := HXW.out.1; have := HSW.out; omega
    have hzl : z.wl ≤ 140737488351232 := by have := HYW.out.1; have := HZW.out; omega
    have hcapS : s.wl ≤ s.wc := by
      obtain ⟨h1, h2, A, cap, h3, h4, h5⟩ := HXW.out
      simp only [Value.slice.injEq] at h4
      omega
    have hcapZ : z.wl ≤ z.wc := by
      obtain ⟨h1, h2, A, cap, h3, h4, h5⟩ := HYW.out
      simp only [Value.slice.injEq] at h4
      omega
    clear e0 e1 e2 e3 e4 e5 e6 e7 e8 e9 ew hS hxy hR' HD2 hu6 HU6
    go_wp2_with fail
    obtain ⟨wo, rfl⟩ : ∃ wo : World, wo = wr := ⟨_, rfl⟩
    go_loopw [8] (fun i wr => ∃ k : Nat, k ≤ xw.length ∧ i = .int .i64 k ∧ sameW (xw.drop k) (yw.drop k) = S ∧ Below W7.heap.size W7 wr) (fun i _ => xw.length - (intOf i).toNat)
    case atStart => exact ⟨0, by omega, rfl, HSS.out.symm, Below.refl _ _⟩
    case round =>
      obtain ⟨k, hk, rfl, hsk, hbk⟩ := hrel
      have HSK := Lib.hid hsk
      have HBK := Lib.hid (bnext HU7.out hbk)
      have HB7K := Lib.hid hbk
      have hp7 := HBP7.out.below hbk
      have hq7 := HBQ7.out.below hbk
      have p16 := hp7.cell 16 s.at16
      have q16 := hq7.cell 16 z.at16
      have pl := hp7.lt
      have ql := hq7.lt
      clear hsk hbk hp7 hq7
      by_cases hkl : k < xw.length
      rotate_left
      · obtain rfl : k = xw.length := by omega
        have HS1 : Hid (T = sameSts (l.drop (j + 1)) (m.drop (j + 1))) := Lib.hid (by
          rw [HD3.out, ← HSK.out, List.drop_length, HXY.out, List.drop_length]
          rfl)
        have hki : ¬ ((xw.length : Nat) : Int) < s.wl := by have := HSW.out; omega
        go_wp2_with fail
        go_roundw
        case rel => exact ⟨j + 1, by omega, by go_num, HS1.out.symm, HBK.out⟩
        case measure => simp [intOf]; omega
      have hkl' : k < yw.length := by have := HXY.out; omega
      have hki : (k : Int) < s.wl := by have := HSW.out; omega
      have hkz : (k : Int) < z.wl := by have := HZW.out; omega
      obtain ⟨bw, ow, hA, hc1⟩ : ∃ b' o', s.wA = some ⟨b', o', Option.none⟩ ∧ wr.cell? ⟨b', o' + k, Option.none⟩ = some (.string xw[k]) := by
        obtain ⟨h1, h2, A, cap, h3, h4, h5⟩ := HXW.out
        simp only [Value.slice.injEq] at h4
        obtain ⟨b', o', h6, h7, h8⟩ := h5 (by rintro rfl; simp at hkl)
        exact ⟨b', o', by rw [h4.1, h7], (World.cell?_of_block (w := w) (a := ⟨b', o' + k, Option.none⟩) (HBK.out.block b' (by omega))).trans (h8 k hkl)⟩
      obtain ⟨bz, oz, hA', hc2⟩ : ∃ b' o', z.wA = some ⟨b', o', Option.none⟩ ∧ wr.cell? ⟨b', o' + k, Option.none⟩ = some (.string yw[k]) := by
        obtain ⟨h1, h2, A, cap, h3, h4, h5⟩ := HYW.out
        simp only [Value.slice.injEq] at h4
        obtain ⟨b', o', h6, h7, h8⟩ := h5 (by rintro rfl; simp at hkl')
        exact ⟨b', o', by rw [h4.1, h7], (World.cell?_of_block (w := w) (a := ⟨b', o' + k, Option.none⟩) (HBK.out.block b' (by omega))).trans (h8 k hkl')⟩
      rw [hA] at p16
      rw [hA'] at q16
      have hd : sameW (xw.drop k) (yw.drop k) = (xw[k].toList == yw[k].toList && sameW (xw.drop (k + 1)) (yw.drop (k + 1))) := by rw [List.drop_eq_getElem_cons hkl, List.drop_eq_getElem_cons hkl', sameW_cons]
      have hd2 : S = (xw[k].toList == yw[k].toList && sameW (xw.drop (k + 1)) (yw.drop (k + 1))) := by rw [← HSK.out, hd]
      obtain ⟨sx, hsx⟩ : ∃ sx, sx = xw[k] := ⟨_, rfl⟩
      obtain ⟨sy, hsy⟩ : ∃ sy, sy = yw[k] := ⟨_, rfl⟩
      rw [← hsx] at hc1 hd2
      rw [← hsy] at hc2 hd2
      have HDK := Lib.hid hd2
      clear hA hA' hd hd2 hsx hsy
      cases heq : (sx.toList == sy.toList)
      · have HF : Hid (T = false) := Lib.hid (by rw [HD3.out, HDK.out, heq]; rfl)
        have heq' : (sx.toList != sy.toList) = true := by rw [bne, heq]; rfl
        go_wp2_with fail
        go_quiet (fail)
        go_wp2_with fail
        go_ret
        exact ⟨ret_bool HF.out.symm, belowN HBK.out _⟩
      · have HN : Hid (sameW (xw.drop (k + 1)) (yw.drop (k + 1)) = S) := Lib.hid (by rw [HDK.out, heq]; rfl)
        have heq' : (sx.toList != sy.toList) = false := by rw [bne, heq]; rfl
        go_wp2_with fail
        go_quiet (fail)
        go_wp2_with fail
        go_roundw
        case rel => exact ⟨k + 1, by omega, by go_num, HN.out, belowN HB7K.out _⟩
        case measure => simp [intOf]; omega
theorem SameCode34_any : ∀ l : List St, SameSC l := by
  have h : ∀ x : St, ∀ op nm sec ab wh a b t e c ws, x = .mk op nm sec ab wh a b t e c ws → SameSC t ∧ SameSC e ∧ SameSC c := fun x => by
    induction x using St.ind with
    | h op nm sec ab wh a b t e c ws IHt IHe IHc =>
      intro op' nm' sec' ab' wh' a' b' t' e' c' ws' heq
      obtain ⟨_, _, _, _, _, _, _, rfl, rfl, rfl, _⟩ := St.mk.inj heq
      exact ⟨same34_step _ fun x hx => IHt x hx, same34_step _ fun x hx => IHe x hx, same34_step _ fun x hx => IHc x hx⟩
  exact fun l => same34_step l fun x _ => h x
end Go.Proofs.Ytnknefdpglnbnaa
