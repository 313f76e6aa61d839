/- The program's comparison of statements and codes, walked. -/
import Derived.Test.YtnknefdpglnbnaaDf
import Derived.Test.YtnknefdpglnbnaaCu
namespace Go.Proofs.Ytnknefdpglnbnaa
open Go.RowKit

def Same129C (x : St) : Prop := ∀ (y : St) (w : World) (B C : Nat) (s z : SV), IsSt w B s x → IsSt w C z y → B ≤ w.heap.size → C ≤ w.heap.size →
  Calls Try.prog 129 #[.agg s.arr, .agg z.arr] w fun e w' => e = .returned (.bool (sameSt x y)) ∧ Below w.heap.size w w'
def Same96C (l : List St) : Prop := ∀ (m : List St) (w : World) (B C : Nat) (A : Option Addr) (len cap : Nat) (A' : Option Addr) (len' cap' : Nat),
  LR (fun b _ => b < B) 256 A len cap l (fun b o => IsSts w B b o l) → LR (fun b _ => b < C) 256 A' len' cap' m (fun b o => IsSts w C b o m) → B ≤ w.heap.size → C ≤ w.heap.size →
  Calls Try.prog 96 #[.slice A len cap, .slice A' len' cap'] w fun e w' => e = .returned (.bool (sameSts l m)) ∧ Below w.heap.size w w'
attribute [local go_sem] SV.g0 SV.g1 SV.g2 SV.g3 SV.g4 SV.g5 SV.g6 SV.g7 SV.g8 SV.g9 SV.g10 SV.g11 SV.g12 SV.g13 SV.g14 SV.g15 SV.g16
set_option maxRecDepth 100000 in
set_option maxHeartbeats 2000000 in
theorem equal128 (l : List St) (IH : ∀ x ∈ l, Same129C x) (m : List St) (w : World) (B C : Nat) (A : Option Addr) (len cap : Nat) (A' : Option Addr) (len' cap' : Nat)
    (hl : LR (fun b _ => b < B) 256 A len cap l (fun b o => IsSts w B b o l)) (hm : LR (fun b _ => b < C) 256 A' len' cap' m (fun b o => IsSts w C b o m)) (hB : B ≤ w.heap.size) (hC : C ≤ w.heap.size) :
    Calls Try.prog 128 #[.slice A len cap, .slice A' len' cap', .func (.func 129) #[] #[]] w fun e w' => e = .returned (.bool (sameSts l m)) ∧ Below w.heap.size w w' := by
  obtain ⟨rfl, hcap, hsz, h7⟩ := hl
  obtain ⟨rfl, hcap', hsz', h7'⟩ := hm
  obtain ⟨i0, hi, hz0, hz1, hz2⟩ := info_parts info58
  have HIN := Lib.hid hi
  have H7 := Lib.hid h7
  have H7' := Lib.hid h7'
  have HI := Lib.hid IH
  have hlen : l.length ≤ 140737488351232 := by omega
  have hlen' : m.length ≤ 140737488351232 := by omega
  obtain ⟨T, hT⟩ : ∃ T, T = sameSts l m := ⟨_, rfl⟩
  rw [← hT]
  have HT := Lib.hid hT
  clear h7 h7' IH hsz hsz' hT hi
  by_cases hll : l.length = m.length
  rotate_left
  · have hll' : ((l.length : Int) != m.length) = true := by simp; omega
    have HF : Hid (T = false) := Lib.hid (by
      rw [HT.out]
      cases h : sameSts l m
      · rfl
      · exact absurd (sameSts_len l m h) hll)
    clear hll
    go_enter Try.func128, Try.ntmps128
    go_wp2_with fail
    go_ret
    exact ⟨ret_bool HF.out.symm, Below.refl _ _⟩
  have hll' : ((l.length : Int) != m.length) = false := by rw [hll]; simp
  have HLL := Lib.hid hll
  clear hll
  go_enter Try.func128, Try.ntmps128
  go_wp2_with fail
  clear hll'
  go_loopw [17] (fun i wr => ∃ j : Nat, j ≤ l.length ∧ i = .int .i64 j ∧ sameSts (l.drop j) (m.drop j) = T ∧ Below w.heap.size w wr) (fun i _ => l.length - (intOf i).toNat)
  case atStart => exact ⟨0, by omega, rfl, HT.out.symm, Below.refl _ _⟩
  case round =>
    obtain ⟨j, hj, rfl, ht, hu⟩ := hrel
    have HTJ := Lib.hid ht
    have HU := Lib.hid hu
    have hus := hu.size
    clear ht hu
    by_cases hlt : j < l.length
    rotate_left
    · obtain rfl : j = l.length := by omega
      have HF : Hid (T = true) := Lib.hid (by rw [← HTJ.out, List.drop_length, HLL.out, List.drop_length]; rfl)
      go_wp2_with fail
      go_ret
      exact ⟨ret_bool HF.out.symm, HU.out⟩
    have hlt' : j < m.length := by have := HLL.out; omega
    obtain ⟨b, o, hbB, hA, hx⟩ := H7.out (by rintro rfl; simp at hlt)
    obtain ⟨b2, o2, hbC, hA', hx'⟩ := H7'.out (by rintro rfl; simp at hlt')
    subst hA hA'
    obtain ⟨s, hat, hs⟩ := hx.at j hlt
    obtain ⟨z, hat', hz⟩ := hx'.at j hlt'
    have HAT := Lib.hid (At.keep hat hbB (fun b hb => HU.out.block b (by omega)))
    have HAT' := Lib.hid (At.keep hat' hbC (fun b hb => HU.out.block b (by omega)))
    have hd2 : T = (sameSt l[j] m[j] && sameSts (l.drop (j + 1)) (m.drop (j + 1))) := by rw [← HTJ.out, List.drop_eq_getElem_cons hlt, List.drop_eq_getElem_cons hlt', sameSts_cons]
    have hcall := fun w' (hb : Below w.heap.size w w') => HI.out l[j] (List.getElem_mem hlt) m[j] w' B C s z (IsSt.keep (fun b hb' => hb.block b (by omega)) hs) (IsSt.keep (fun b hb' => hb.block b (by omega)) hz) (Nat.le_trans hB hb.size) (Nat.le_trans hC hb.size)
    obtain ⟨pp, hpp⟩ : ∃ pp, pp = sameSt l[j] m[j] := ⟨_, rfl⟩
    rw [← hpp] at hcall hd2
    have HCALL := Lib.hid hcall
    have HD2 := Lib.hid hd2
    clear hat hat' hx hx' hs hz hcall hpp hd2
    go_upto_region 6 with (first | (refine wpList_load_blk rfl 58 (.tmp 20) rfl ⟨b, o + j * 17, Option.none⟩ rfl (.agg s.arr) (run_loadVar_at Try.underlying58 HIN.out HAT.out (by rw [hz1]; rfl)) ?_) | (refine wpList_store_blk rfl 58 (.tmp 8) (.tmp 21) rfl i0 HIN.out wr.heap.size s.arr rfl rfl 58 SV.zero.arr (BlkN.at_ rfl 58 SV.zero.arr) (by rw [hz1]; rfl) rfl (SV.one _) ?_; intro w1 hB1 hbut1))
    have hb1 : Below wr.heap.size wr w1 := hbut1.below (Nat.le_refl _) ((Below.refl _ _).alloc (Nat.le_refl _) _)
    have hs1 := hb1.size
    have hpl := hB1.lt
    have HB1 := Lib.hid hB1
    have HBR1 := Lib.hid hb1
    have HAT1 := Lib.hid (At.keep HAT'.out (show b2 < wr.heap.size by omega) (fun b hb => hb1.block b hb))
    clear hB1 hb1 hbut1 HAT'
    go_upto_region 7 with (first | (refine wpList_load_blk rfl 58 (.tmp 24) rfl ⟨b2, o2 + j * 17, Option.none⟩ rfl (.agg z.arr) (run_loadVar_at Try.underlying58 HIN.out HAT1.out (by rw [hz1]; rfl)) ?_) | (refine wpList_store_blk rfl 58 (.tmp 9) (.tmp 25) rfl i0 HIN.out w1.heap.size z.arr rfl rfl 58 SV.zero.arr (BlkN.at_ rfl 58 SV.zero.arr) (by rw [hz1]; rfl) rfl (SV.one _) ?_; intro w2 hB2 hbut2))
    have hb2 : Below w1.heap.size w1 w2 := hbut2.below (Nat.le_refl _) ((Below.refl _ _).alloc (Nat.le_refl _) _)
    have HW2 : Hid (Below w.heap.size w w2) := Lib.hid (bnext HU.out (bnext HBR1.out hb2))
    have HP2 : Hid (BlkN w2 wr.heap.size 58 s.arr) := Lib.hid (HB1.out.below hb2)
    have HQ2 := Lib.hid hB2
    clear hbut2 hb2 hB2 HAT1
    refine wp_region_lit ?_
    refine wpList_move rfl _ rfl ?_
    refine wpList_load_blk rfl 58 (.tmp 8) rfl ⟨wr.heap.size, 0, Option.none⟩ rfl (.agg s.arr) (run_loadVar_blk Try.underlying58 HIN.out HP2.out (by rw [hz1]; rfl)) ?_
    refine wpList_load_blk rfl 58 (.tmp 9) rfl ⟨w1.heap.size, 0, Option.none⟩ rfl (.agg z.arr) (run_loadVar_blk Try.underlying58 HIN.out HQ2.out (by rw [hz1]; rfl)) ?_
    cases pp
    · have HF : Hid (T = false) := Lib.hid (by rw [HD2.out]; rfl)
      go_wp2_with (go_at_call 129; refine (HCALL.out _ HW2.out).mono ?_; rintro e w3 ⟨rfl, hb3⟩)
      go_ret
      exact ⟨ret_bool HF.out.symm, bnext HW2.out hb3⟩
    · have HN : Hid (sameSts (l.drop (j + 1)) (m.drop (j + 1)) = T) := Lib.hid (by rw [HD2.out]; rfl)
      go_wp2_with (go_at_call 129; refine (HCALL.out _ HW2.out).mono ?_; rintro e w3 ⟨rfl, hb3⟩)
      go_roundw
      case rel => exact ⟨j + 1, by omega, by go_num, HN.out, bnext HW2.out hb3⟩
      case measure => simp [intOf]; omega
theorem same96_step (l : List St) (IH : ∀ x ∈ l, Same129C x) : Same96C l := by
  intro m w B C A len cap A' len' cap' hl hm hB hC
  have HC := Lib.hid (equal128 l IH m w B C A len cap A' len' cap' hl hm hB hC)
  clear IH hl hm
  go_enter Try.func96, Try.ntmps96
  go_wp2_with (go_at_call 128; refine HC.out.mono ?_; rintro e w1 ⟨rfl, hb1⟩)
  go_ret
  exact ⟨rfl, hb1⟩
set_option maxRecDepth 100000 in
set_option maxHeartbeats 8000000 in
theorem same129_step (op : Int) (nm sec : ByteArray) (ab wh : Int) (xa xb : Ex) (xt xe xc : List St) (xw : List ByteArray) (it : Same96C xt) (ie : Same96C xe) (ic : Same96C xc) : Same129C (.mk op nm sec ab wh xa xb xt xe xc xw) := by
  intro y w B C s z hs hz hB hC
  obtain ⟨op', nm', sec', ab', wh', ya, yb, yt, ye, yc, yw⟩ := y
  obtain ⟨⟨rfl, rfl, rfl, rfl, rfl⟩, hbd, ha, hb, hxt, hxe, hxc, hxw⟩ := hs.form
  obtain ⟨⟨rfl, rfl, rfl, rfl, rfl⟩, hbd', ha', hb', hyt, hye, hyc, hyw⟩ := hz.form
  have k1 : ∀ w', Below w.heap.size w w' → ∀ b, b < B → w'.heap[b]? = w.heap[b]? := fun w' hb b hl => hb.block b (by omega)
  have k2 : ∀ w', Below w.heap.size w w' → ∀ b, b < C → w'.heap[b]? = w.heap[b]? := fun w' hb b hl => hb.block b (by omega)
  obtain ⟨ra, hra⟩ : ∃ r, r = sameX xa ya := ⟨_, rfl⟩
  obtain ⟨rb, hrb⟩ : ∃ r, r = sameX xb yb := ⟨_, rfl⟩
  obtain ⟨rt, hrt⟩ : ∃ r, r = sameSts xt yt := ⟨_, rfl⟩
  obtain ⟨re, hre⟩ : ∃ r, r = sameSts xe ye := ⟨_, rfl⟩
  obtain ⟨rc, hrc⟩ : ∃ r, r = sameSts xc yc := ⟨_, rfl⟩
  obtain ⟨rv, hrw⟩ : ∃ r, r = sameW xw yw := ⟨_, rfl⟩
  obtain ⟨T, hT⟩ : ∃ T, T = sameSt (.mk s.op s.nm s.sec s.ab s.wh xa xb xt xe xc xw) (.mk z.op z.nm z.sec z.ab z.wh ya yb yt ye yc yw) := ⟨_, rfl⟩
  rw [← hT]
  have HD : Hid (T = (s.op == z.op && (s.nm.toList == z.nm.toList && (s.sec.toList == z.sec.toList && (s.ab == z.ab && (s.wh == z.wh && (ra && (rb && (rt && (re && (rc && rv))))))))))) := Lib.hid (by rw [hT, sameSt, hra, hrb, hrt, hre, hrc, hrw])
  have ca : ∀ w', Below w.heap.size w w' → Calls Try.prog 130 #[.agg #[.int .u8 s.a0, .int .i64 s.a1, .string s.a2, .slice s.aA s.al s.ac], .agg #[.int .u8 z.a0, .int .i64 z.a1, .string z.a2, .slice z.aA z.al z.ac]] w' fun e w'' => e = .returned (.bool ra) ∧ Below w'.heap.size w' w'' := fun w' hb6 => by
    rw [hra]; exact sameExpr130_any xa ya w' B C _ _ (IsEx.keep (B := B) (k1 w' hb6) ha) (IsEx.keep (B := C) (k2 w' hb6) ha') (by have := hb6.size; omega) (by have := hb6.size; omega)
  have cb : ∀ w', Below w.heap.size w w' → Calls Try.prog 130 #[.agg #[.int .u8 s.b0, .int .i64 s.b1, .string s.b2, .slice s.bA s.bl s.bc], .agg #[.int .u8 z.b0, .int .i64 z.b1, .string z.b2, .slice z.bA z.bl z.bc]] w' fun e w'' => e = .returned (.bool rb) ∧ Below w'.heap.size w' w'' := fun w' hb6 => by
    rw [hrb]; exact sameExpr130_any xb yb w' B C _ _ (IsEx.keep (B := B) (k1 w' hb6) hb) (IsEx.keep (B := C) (k2 w' hb6) hb') (by have := hb6.size; omega) (by have := hb6.size; omega)
  have ct : ∀ w', Below w.heap.size w w' → Calls Try.prog 96 #[.slice s.tA s.tl s.tc, .slice z.tA z.tl z.tc] w' fun e w'' => e = .returned (.bool rt) ∧ Below w'.heap.size w' w'' := fun w' hb6 => by
    rw [hrt]; exact it yt w' B C _ _ _ _ _ _ (hxt.imp fun b o hr hp => ⟨hr, IsSts.keep (k1 w' hb6) hr hp⟩) (hyt.imp fun b o hr hp => ⟨hr, IsSts.keep (k2 w' hb6) hr hp⟩) (by have := hb6.size; omega) (by have := hb6.size; omega)
  have ce : ∀ w', Below w.heap.size w w' → Calls Try.prog 96 #[.slice s.eA s.el s.ec, .slice z.eA z.el z.ec] w' fun e w'' => e = .returned (.bool re) ∧ Below w'.heap.size w' w'' := fun w' hb6 => by
    rw [hre]; exact ie ye w' B C _ _ _ _ _ _ (hxe.imp fun b o hr hp => ⟨hr, IsSts.keep (k1 w' hb6) hr hp⟩) (hye.imp fun b o hr hp => ⟨hr, IsSts.keep (k2 w' hb6) hr hp⟩) (by have := hb6.size; omega) (by have := hb6.size; omega)
  have cc : ∀ w', Below w.heap.size w w' → Calls Try.prog 96 #[.slice s.cA s.cl s.cc, .slice z.cA z.cl z.cc] w' fun e w'' => e = .returned (.bool rc) ∧ Below w'.heap.size w' w'' := fun w' hb6 => by
    rw [hrc]; exact ic yc w' B C _ _ _ _ _ _ (hxc.imp fun b o hr hp => ⟨hr, IsSts.keep (k1 w' hb6) hr hp⟩) (hyc.imp fun b o hr hp => ⟨hr, IsSts.keep (k2 w' hb6) hr hp⟩) (by have := hb6.size; omega) (by have := hb6.size; omega)
  have cw : ∀ w', Below w.heap.size w w' → Calls Try.prog 131 #[.slice s.wA s.wl s.wc, .slice z.wA z.wl z.wc] w' fun e w'' => e = .returned (.bool rv) ∧ Below w'.heap.size w' w'' := fun w' hb6 => by
    rw [hrw]; exact equal131 xw yw w' B C _ _ (IsSsR.keep (fun b _ hl => k1 w' hb6 b hl) hxw) (IsSsR.keep (fun b _ hl => k2 w' hb6 b hl) hyw)
  have HCA := Lib.hid ca
  have HCB := Lib.hid cb
  have HCT := Lib.hid ct
  have HCE := Lib.hid ce
  have HCC := Lib.hid cc
  have HCW := Lib.hid cw
  clear ca cb ct ce cc cw hs hz hxt hxe hxc hxw hyt hye hyc hyw ha hb ha' hb' it ie ic hbd hbd' k1 k2 hT hra hrb hrt hre hrc hrw
  go_enter Try.func129, Try.ntmps129
  go_upto_region 1 with (fail)
  obtain ⟨w1, hw1⟩ : ∃ w1, w1 = (w.alloc (.cells s.arr 58)).alloc (.cells z.arr 58) := ⟨_, rfl⟩
  have hP1 : BlkN w1 w.heap.size 58 s.arr := by rw [hw1]; exact (BlkN.at_ rfl _ _).alloc _
  have hQ1 : BlkN w1 (w.heap.size + 1) 58 z.arr := by rw [hw1]; exact BlkN.at_ (by simp) _ _
  have hb1 : Below w.heap.size w w1 := by rw [hw1]; exact ((Below.refl _ _).alloc (Nat.le_refl _) _).alloc (by simp) _
  rw [← hw1]
  obtain ⟨p, hp⟩ : ∃ p, p = w.heap.size := ⟨_, rfl⟩
  rw [← hp] at hP1 hQ1 ⊢
  have HP1 := Lib.hid hP1
  have HQ1 := Lib.hid hQ1
  have HB1 := Lib.hid hb1
  have HPP := Lib.hid hp
  have p0 := hP1.cell 0 s.at0
  have q0 := hQ1.cell 0 z.at0
  have p1 := hP1.cell 1 s.at1
  have q1 := hQ1.cell 1 z.at1
  have p2 := hP1.cell 2 s.at2
  have q2 := hQ1.cell 2 z.at2
  have p3 := hP1.cell 3 s.at3
  have q3 := hQ1.cell 3 z.at3
  have p4 := hP1.cell 4 s.at4
  have q4 := hQ1.cell 4 z.at4
  have p5 := hP1.cell 5 s.at5
  have q5 := hQ1.cell 5 z.at5
  have p6 := hP1.cell 6 s.at6
  have q6 := hQ1.cell 6 z.at6
  have p7 := hP1.cell 7 s.at7
  have q7 := hQ1.cell 7 z.at7
  have p8 := hP1.cell 8 s.at8
  have q8 := hQ1.cell 8 z.at8
  have p9 := hP1.cell 9 s.at9
  have q9 := hQ1.cell 9 z.at9
  have p10 := hP1.cell 10 s.at10
  have q10 := hQ1.cell 10 z.at10
  have p11 := hP1.cell 11 s.at11
  have q11 := hQ1.cell 11 z.at11
  have p12 := hP1.cell 12 s.at12
  have q12 := hQ1.cell 12 z.at12
  clear hw1 hP1 hQ1 hb1 hp
  cases h0 : (s.op == z.op)
  · have n0 : (s.op != z.op) = true := by rw [bne, h0]; rfl
    have HF : Hid (T = false) := Lib.hid (by rw [HD.out, h0]; simp)
    clear HCA HCB HCT HCE HCC HCW HD
    go_wp2_with fail
    go_ret
    exact ⟨ret_bool HF.out.symm, HB1.out⟩
  have n0 : (s.op != z.op) = false := by rw [bne, h0]; rfl
  cases h1 : (s.nm.toList == z.nm.toList)
  · have n1 : (s.nm.toList != z.nm.toList) = true := by rw [bne, h1]; rfl
    have HF : Hid (T = false) := Lib.hid (by rw [HD.out, h0, h1]; simp)
    clear HCA HCB HCT HCE HCC HCW HD
    go_wp2_with fail
    go_ret
    exact ⟨ret_bool HF.out.symm, HB1.out⟩
  have n1 : (s.nm.toList != z.nm.toList) = false := by rw [bne, h1]; rfl
  cases h2 : (s.sec.toList == z.sec.toList)
  · have n2 : (s.sec.toList != z.sec.toList) = true := by rw [bne, h2]; rfl
    have HF : Hid (T = false) := Lib.hid (by rw [HD.out, h0, h1, h2]; simp)
    clear HCA HCB HCT HCE HCC HCW HD
    go_wp2_with fail
    go_ret
    exact ⟨ret_bool HF.out.symm, HB1.out⟩
  have n2 : (s.sec.toList != z.sec.toList) = false := by rw [bne, h2]; rfl
  cases h3 : (s.ab == z.ab)
  · have n3 : (s.ab != z.ab) = true := by rw [bne, h3]; rfl
    have HF : Hid (T = false) := Lib.hid (by rw [HD.out, h0, h1, h2, h3]; simp)
    clear HCA HCB HCT HCE HCC HCW HD
    go_wp2_with fail
    go_ret
    exact ⟨ret_bool HF.out.symm, HB1.out⟩
  have n3 : (s.ab != z.ab) = false := by rw [bne, h3]; rfl
  cases h4 : (s.wh == z.wh)
  · have n4 : (s.wh != z.wh) = true := by rw [bne, h4]; rfl
    have HF : Hid (T = false) := Lib.hid (by rw [HD.out, h0, h1, h2, h3, h4]; simp)
    clear HCA HCB HCT HCE HCC HCW HD
    go_wp2_with fail
    go_ret
    exact ⟨ret_bool HF.out.symm, HB1.out⟩
  have n4 : (s.wh != z.wh) = false := by rw [bne, h4]; rfl
  have HD2 : Hid (T = (ra && (rb && (rt && (re && (rc && rv)))))) := Lib.hid (by rw [HD.out, h0, h1, h2, h3, h4]; simp only [Bool.true_and])

  cases ra
  · have HF : Hid (T = false) := Lib.hid (by rw [HD2.out]; rfl)
    go_wp2_with (first | (go_at_call 130; (with_reducible refine (HCA.out _ HB1.out).mono ?_); rintro ea wa ⟨rfl, hba⟩; have hpa := HP1.out.below hba; have hqa := HQ1.out.below hba; have pa9 := hpa.cell 9 s.at9; have qa9 := hqa.cell 9 z.at9; have pa10 := hpa.cell 10 s.at10; have qa10 := hqa.cell 10 z.at10; have pa11 := hpa.cell 11 s.at11; have qa11 := hqa.cell 11 z.at11; have pa12 := hpa.cell 12 s.at12; have qa12 := hqa.cell 12 z.at12; have HBA := Lib.hid (bnext HB1.out hba); have HPA := Lib.hid hpa; have HQA := Lib.hid hqa; clear hba hpa hqa))
    go_ret
    exact ⟨ret_bool HF.out.symm, HBA.out⟩
  cases rb
  · have HF : Hid (T = false) := Lib.hid (by rw [HD2.out]; rfl)
    go_wp2_with (first | (go_at_call 130; (with_reducible refine (HCA.out _ HB1.out).mono ?_); rintro ea wa ⟨rfl, hba⟩; have hpa := HP1.out.below hba; have hqa := HQ1.out.below hba; have pa9 := hpa.cell 9 s.at9; have qa9 := hqa.cell 9 z.at9; have pa10 := hpa.cell 10 s.at10; have qa10 := hqa.cell 10 z.at10; have pa11 := hpa.cell 11 s.at11; have qa11 := hqa.cell 11 z.at11; have pa12 := hpa.cell 12 s.at12; have qa12 := hqa.cell 12 z.at12; have HBA := Lib.hid (bnext HB1.out hba); have HPA := Lib.hid hpa; have HQA := Lib.hid hqa; clear hba hpa hqa) | (go_at_call 130; (with_reducible refine (HCB.out _ HBA.out).mono ?_); rintro eb wb ⟨rfl, hbb⟩; have HBB := Lib.hid (bnext HBA.out hbb); have HPB := Lib.hid (HPA.out.below hbb); have HQB := Lib.hid (HQA.out.below hbb); clear hbb))
    go_ret
    exact ⟨ret_bool HF.out.symm, HBB.out⟩
  have HD3 : Hid (T = (rt && (re && (rc && rv)))) := Lib.hid (by rw [HD2.out]; simp only [Bool.true_and])
  go_upto_region 3 with (first | (go_at_call 130; (with_reducible refine (HCA.out _ HB1.out).mono ?_); rintro ea wa ⟨rfl, hba⟩; have hpa := HP1.out.below hba; have hqa := HQ1.out.below hba; have pa9 := hpa.cell 9 s.at9; have qa9 := hqa.cell 9 z.at9; have pa10 := hpa.cell 10 s.at10; have qa10 := hqa.cell 10 z.at10; have pa11 := hpa.cell 11 s.at11; have qa11 := hqa.cell 11 z.at11; have pa12 := hpa.cell 12 s.at12; have qa12 := hqa.cell 12 z.at12; have HBA := Lib.hid (bnext HB1.out hba); have HPA := Lib.hid hpa; have HQA := Lib.hid hqa; clear hba hpa hqa) | (go_at_call 130; (with_reducible refine (HCB.out _ HBA.out).mono ?_); rintro eb wb ⟨rfl, hbb⟩; have HBB := Lib.hid (bnext HBA.out hbb); have HPB := Lib.hid (HPA.out.below hbb); have HQB := Lib.hid (HQA.out.below hbb); clear hbb))
  clear p0 p1 p2 p3 p4 p5 p6 p7 p8 p9 p10 p11 p12 q0 q1 q2 q3 q4 q5 q6 q7 q8 q9 q10 q11 q12 pa9 pa10 pa11 pa12 qa9 qa10 qa11 qa12 n0 n1 n2 n3 n4 h0 h1 h2 h3 h4 HCA HCB HP1 HQ1 HB1 HPA HQA HBA HD HD2
  have p13 := HPB.out.cell 13 s.at13
  have q13 := HQB.out.cell 13 z.at13
  have p14 := HPB.out.cell 14 s.at14
  have q14 := HQB.out.cell 14 z.at14
  have p15 := HPB.out.cell 15 s.at15
  have q15 := HQB.out.cell 15 z.at15
  have p16 := HPB.out.cell 16 s.at16
  have q16 := HQB.out.cell 16 z.at16
  cases rt
  · have HF : Hid (T = false) := Lib.hid (by rw [HD3.out]; rfl)
    go_wp2_with (first | (go_at_call 96; (with_reducible refine (HCT.out _ HBB.out).mono ?_); rintro et wt ⟨rfl, hbt⟩; have HBT := Lib.hid (bnext HBB.out hbt); have HPT := Lib.hid (HPB.out.below hbt); have HQT := Lib.hid (HQB.out.below hbt); have pt14 := HPT.out.cell 14 s.at14; have qt14 := HQT.out.cell 14 z.at14; clear hbt))
    go_ret
    exact ⟨ret_bool HF.out.symm, HBT.out⟩
  cases re
  · have HF : Hid (T = false) := Lib.hid (by rw [HD3.out]; rfl)
    go_wp2_with (first | (go_at_call 96; (with_reducible refine (HCT.out _ HBB.out).mono ?_); rintro et wt ⟨rfl, hbt⟩; have HBT := Lib.hid (bnext HBB.out hbt); have HPT := Lib.hid (HPB.out.below hbt); have HQT := Lib.hid (HQB.out.below hbt); have pt14 := HPT.out.cell 14 s.at14; have qt14 := HQT.out.cell 14 z.at14; clear hbt) | (go_at_call 96; (with_reducible refine (HCE.out _ HBT.out).mono ?_); rintro ee we ⟨rfl, hbe⟩; have HBE := Lib.hid (bnext HBT.out hbe); have HPE := Lib.hid (HPT.out.below hbe); have HQE := Lib.hid (HQT.out.below hbe); have pe15 := HPE.out.cell 15 s.at15; have qe15 := HQE.out.cell 15 z.at15; clear hbe))
    go_ret
    exact ⟨ret_bool HF.out.symm, HBE.out⟩
  cases rc
  · have HF : Hid (T = false) := Lib.hid (by rw [HD3.out]; rfl)
    go_wp2_with (first | (go_at_call 96; (with_reducible refine (HCT.out _ HBB.out).mono ?_); rintro et wt ⟨rfl, hbt⟩; have HBT := Lib.hid (bnext HBB.out hbt); have HPT := Lib.hid (HPB.out.below hbt); have HQT := Lib.hid (HQB.out.below hbt); have pt14 := HPT.out.cell 14 s.at14; have qt14 := HQT.out.cell 14 z.at14; clear hbt) | (go_at_call 96; (with_reducible refine (HCE.out _ HBT.out).mono ?_); rintro ee we ⟨rfl, hbe⟩; have HBE := Lib.hid (bnext HBT.out hbe); have HPE := Lib.hid (HPT.out.below hbe); have HQE := Lib.hid (HQT.out.below hbe); have pe15 := HPE.out.cell 15 s.at15; have qe15 := HQE.out.cell 15 z.at15; clear hbe) | (go_at_call 96; (with_reducible refine (HCC.out _ HBE.out).mono ?_); rintro ec wc ⟨rfl, hbc⟩; have HBC := Lib.hid (bnext HBE.out hbc); have HPC := Lib.hid (HPE.out.below hbc); have HQC := Lib.hid (HQE.out.below hbc); have pc16 := HPC.out.cell 16 s.at16; have qc16 := HQC.out.cell 16 z.at16; clear hbc))
    go_ret
    exact ⟨ret_bool HF.out.symm, HBC.out⟩
  have HF : Hid (T = rv) := Lib.hid (by rw [HD3.out]; simp only [Bool.true_and])
  cases rv
  · go_wp2_with (first | (go_at_call 96; (with_reducible refine (HCT.out _ HBB.out).mono ?_); rintro et wt ⟨rfl, hbt⟩; have HBT := Lib.hid (bnext HBB.out hbt); have HPT := Lib.hid (HPB.out.below hbt); have HQT := Lib.hid (HQB.out.below hbt); have pt14 := HPT.out.cell 14 s.at14; have qt14 := HQT.out.cell 14 z.at14; clear hbt) | (go_at_call 96; (with_reducible refine (HCE.out _ HBT.out).mono ?_); rintro ee we ⟨rfl, hbe⟩; have HBE := Lib.hid (bnext HBT.out hbe); have HPE := Lib.hid (HPT.out.below hbe); have HQE := Lib.hid (HQT.out.below hbe); have pe15 := HPE.out.cell 15 s.at15; have qe15 := HQE.out.cell 15 z.at15; clear hbe) | (go_at_call 96; (with_reducible refine (HCC.out _ HBE.out).mono ?_); rintro ec wc ⟨rfl, hbc⟩; have HBC := Lib.hid (bnext HBE.out hbc); have HPC := Lib.hid (HPE.out.below hbc); have HQC := Lib.hid (HQE.out.below hbc); have pc16 := HPC.out.cell 16 s.at16; have qc16 := HQC.out.cell 16 z.at16; clear hbc) | (go_at_call 131; (with_reducible refine (HCW.out _ HBC.out).mono ?_); rintro ev wv ⟨rfl, hbv⟩; have HBV := Lib.hid (bnext HBC.out hbv); have HPV := Lib.hid (HPC.out.below hbv); have HQV := Lib.hid (HQC.out.below hbv); clear hbv))
    go_ret
    exact ⟨ret_bool HF.out.symm, HBV.out⟩
  · go_wp2_with (first | (go_at_call 96; (with_reducible refine (HCT.out _ HBB.out).mono ?_); rintro et wt ⟨rfl, hbt⟩; have HBT := Lib.hid (bnext HBB.out hbt); have HPT := Lib.hid (HPB.out.below hbt); have HQT := Lib.hid (HQB.out.below hbt); have pt14 := HPT.out.cell 14 s.at14; have qt14 := HQT.out.cell 14 z.at14; clear hbt) | (go_at_call 96; (with_reducible refine (HCE.out _ HBT.out).mono ?_); rintro ee we ⟨rfl, hbe⟩; have HBE := Lib.hid (bnext HBT.out hbe); have HPE := Lib.hid (HPT.out.below hbe); have HQE := Lib.hid (HQT.out.below hbe); have pe15 := HPE.out.cell 15 s.at15; have qe15 := HQE.out.cell 15 z.at15; clear hbe) | (go_at_call 96; (with_reducible refine (HCC.out _ HBE.out).mono ?_); rintro ec wc ⟨rfl, hbc⟩; have HBC := Lib.hid (bnext HBE.out hbc); have HPC := Lib.hid (HPE.out.below hbc); have HQC := Lib.hid (HQE.out.below hbc); have pc16 := HPC.out.cell 16 s.at16; have qc16 := HQC.out.cell 16 z.at16; clear hbc) | (go_at_call 131; (with_reducible refine (HCW.out _ HBC.out).mono ?_); rintro ev wv ⟨rfl, hbv⟩; have HBV := Lib.hid (bnext HBC.out hbv); have HPV := Lib.hid (HPC.out.below hbv); have HQV := Lib.hid (HQC.out.below hbv); clear hbv))
    go_ret
    exact ⟨ret_bool HF.out.symm, HBV.out⟩
theorem same129_any (x : St) : Same129C x := by
  induction x using St.ind with
  | h op nm sec ab wh a b t e c ws IHt IHe IHc => exact same129_step op nm sec ab wh a b t e c ws (same96_step t IHt) (same96_step e IHe) (same96_step c IHc)
theorem same96_any (l : List St) : Same96C l := same96_step l fun x _ => same129_any x
end Go.Proofs.Ytnknefdpglnbnaa
