/- CodeGets: the law's walk. -/
import Derived.Test.YtnknefdpglnbnaaNb
import Derived.Test.YtnknefdpglnbnaaNf
namespace Go.Proofs.Ytnknefdpglnbnaa
open Go.RowKit

attribute [local irreducible] RegT.wpAnyT wpList RegT.seqT RegT.seqQ
set_option maxRecDepth 100000 in
set_option maxHeartbeats 40000000 in
theorem gets_walk (ns : List Na) (a b : ByteArray) (x : Va) (w : World) (vn v : Value) (hns : IsNs w w.heap.size vn ns) (ha : a.size ≤ 140737488351232) (hv : IsVa w w.heap.size v x) :
    Calls Try.prog 9 #[vn, .agg #[.string a, .string b], v] w fun e w' => e = .returned (.bool true) ∧ Below w.heap.size w w' := by
  have HN := Lib.hid hns
  have HV := Lib.hid hv
  have C45 := Lib.hid (fun w' (hb : Below w.heap.size w w') => Set45_any (B := w.heap.size) (x := x) a w' (hns.keep fun b hl => hb.block b hl) (hv.keep fun b hl => hb.block b hl) ha hb.size)
  have hok := set_ok ns a x
  have hlen := setW_len ns a x
  obtain ⟨WO, hWO⟩ : ∃ WO, WO = setW ns a x := ⟨_, rfl⟩
  rw [← hWO] at C45 hok hlen
  obtain ⟨ol, fo⟩ := WO
  simp only at hok hlen
  have HOK := Lib.hid hok
  obtain ⟨An, ncap, rfl, hncap⟩ := hns.list
  have hnl := hns.1
  obtain ⟨k, n, t, A, len, cap, r, rfl⟩ := hv.shape
  have HB0 : Hid (Below w.heap.size w ((w.alloc (.cells #[.string a, .string b] 70)).alloc (.cells #[.int .u8 k, .int .i64 n, .string t, .slice A len cap, .int .i64 r] 34))) := Lib.hid (((Below.refl w.heap.size w).alloc (Nat.le_refl _) _).alloc (by simp) _)
  have HQ : Hid (BlkN ((w.alloc (.cells #[.string a, .string b] 70)).alloc (.cells #[.int .u8 k, .int .i64 n, .string t, .slice A len cap, .int .i64 r] 34)) (w.heap.size + 1) 34 #[.int .u8 k, .int .i64 n, .string t, .slice A len cap, .int .i64 r]) := Lib.hid (BlkN.at_ (by simp) _ _)
  clear hns hv hWO hok
  by_cases hsh : decide ((ns.length : Int) ≤ 200) = false
  · have C16 := Lib.hid (fun w' => short16_any An ns.length ncap w' _ hsh)
    clear hsh
    go_enter Try.func9, Try.ntmps9
    go_wp2_with fail
    go_quiet (fail)
    go_wp2_with (first | (go_at_call 16; refine (C16.out _).mono ?_; rintro e w1 ⟨rfl, rfl⟩) | (go_at_call 17; refine (lives_any _).mono ?_; rintro e w2 ⟨rfl, hb2⟩))
    go_ret
    exact ⟨rfl, bnext (belowN HB0.out _) hb2⟩
  have hns200 : ns.length ≤ 200 := by simp at hsh; omega
  have C16 := Lib.hid (fun w' => short16_any An ns.length ncap w' _ (by simpa using hsh : decide ((ns.length : Int) ≤ 200) = true))
  clear hsh
  have hol : ol.length ≤ 140737488351232 := by omega
  have hol2 : ol.length * 80 ≤ 140737488351232 := by omega
  go_enter Try.func9, Try.ntmps9
  go_wp2_with fail
  go_quiet (fail)
  go_upto_region 5 with (first | (go_at_call 16; refine (C16.out _).mono ?_; rintro e w0 ⟨rfl, rfl⟩) | (go_at_call 45; refine (C45.out _ (belowN HB0.out _)).mono ?_; rintro e w1 ⟨vl, rfl, hvl, hb1⟩; have hvl' := (show Own73 RdN34 w1 0 _ vl ol from hvl).names RdN34.plain hol2; obtain ⟨Al, cl, _, _, rfl, hcl, _⟩ := ntopsH_of (show Own73 RdN34 w1 0 _ vl ol from hvl) hol))
  have hb01 : Below ((w.alloc (.cells #[.string a, .string b] 70)).alloc (.cells #[.int .u8 k, .int .i64 n, .string t, .slice A len cap, .int .i64 r] 34)).heap.size ((w.alloc (.cells #[.string a, .string b] 70)).alloc (.cells #[.int .u8 k, .int .i64 n, .string t, .slice A len cap, .int .i64 r] 34)) w1 := bnext (belowN (Below.refl _ _) _) hb1
  have HB1 : Hid (Below w.heap.size w w1) := Lib.hid (bnext HB0.out hb01)
  have HQ1 := Lib.hid (HQ.out.below hb01)
  have HL : Hid (IsNs w1 w1.heap.size (.slice Al ol.length cl) ol) := Lib.hid hvl'
  clear hb01 hvl hvl' hb1 HB0 HQ C45 C16
  by_cases hfo : fo = 0
  rotate_left
  · have hf1 : (fo != 0) = true := by simpa using hfo
    clear hfo
    go_wp2_with (go_at_call 17; refine (lives_any _).mono ?_; rintro e w2 ⟨rfl, hb2⟩)
    go_ret
    exact ⟨rfl, bnext HB1.out hb2⟩
  have hS := HOK.out hfo
  subst hfo
  have HS := Lib.hid hS
  have hga : getB ol a = true := by unfold getB; rw [hS.got]; rfl
  have C36a := Lib.hid (fun w' (hb : Below w1.heap.size w1 w') => Get_any (B := w1.heap.size) a w' (HL.out.keep fun b hl => hb.block b hl) hb.size)
  have C36b := Lib.hid (fun w' (hb : Below w1.heap.size w1 w') => Get_any (B := w1.heap.size) b w' (HL.out.keep fun b hl => hb.block b hl) hb.size)
  have C36n := Lib.hid (fun w' (hb : Below w.heap.size w w') => Get_any (B := w.heap.size) b w' (HN.out.keep fun b hl => hb.block b hl) hb.size)
  have C40 := Lib.hid (fun w' (hb : Below w1.heap.size w1 w') => MayNames_any (B := w1.heap.size) w' (HL.out.keep fun b hl => hb.block b hl) hb.size)
  have C19 := Lib.hid (fun w' (hb : Below w1.heap.size w1 w') => Work_any (B := w1.heap.size) (x := .mk 4 0 a []) w' (isLeaf w' (fun b _ => b < w1.heap.size) 4 0 a (by omega) (by omega) ha) (HL.out.keep fun b hl => hb.block b hl) hb.size)
  have hxa : getX ol a = x := by rw [getX_raw ol a hS.mayO]; unfold rawX; rw [hS.got]
  rw [hga, hxa] at C36a
  rw [hS.mayO] at C40
  rw [workW_eq, workW_name ol a x hS.mayO hS.mayS hS.mayX hS.got] at C19
  obtain ⟨gy, hgy⟩ : ∃ gy, gy = getB ns b := ⟨_, rfl⟩
  obtain ⟨gz, hgz⟩ : ∃ gz, gz = getB ol b := ⟨_, rfl⟩
  rw [← hgy] at C36n
  rw [← hgz] at C36b
  have hlo : ¬ ((ol.length : Int) < ns.length) := by have := hS.lo; omega
  have hhi : ¬ ((ns.length : Int) + 1 < ol.length) := by have := hS.hi; omega
  have hlo2 : ¬ ol.length < ns.length := by have := hS.lo; omega
  have hlo3 : ns.length ≤ ol.length := hS.lo
  have hoth := hS.other b
  obtain ⟨nb, hnb⟩ : ∃ nb, nb = (b.toList != a.toList) := ⟨_, rfl⟩
  have HYZ : Hid (nb = true → getN ol b = getN ns b) := Lib.hid (fun h => hoth (by rw [hnb, bne, Bool.not_eq_true'] at h; rw [Bool.eq_false_iff] at h ⊢; exact fun e => h (by rw [beq_iff_eq] at e ⊢; exact e.symm)))
  have hyz : nb = true → (gy != gz) = false := fun h => by rw [hgy, hgz]; unfold getB; rw [HYZ.out h]; simp
  have HNB := Lib.hid hyz
  have hnb' := hnb.symm
  clear hS hga hxa hgy hgz hoth hnb hyz HOK
  cases nb
  · have hba : b.toList = a.toList := by simpa using hnb'
    go_upto_region 13 with (first | (go_at_call 36; with_reducible refine (C36a.out _ (Below.refl _ _)).mono ?_; rintro e w2 ⟨vx, rfl, hvx, hb2⟩; obtain ⟨k1, n1, s1, A1, len1, cap1, r1, rfl⟩ := hvx.shape; have hB2 : Below w1.heap.size w1 (w2.alloc (.cells #[.int .u8 k1, .int .i64 n1, .string s1, .slice A1 len1 cap1, .int .i64 r1] 34)) := bnext hb2 ((Below.refl _ _).alloc (Nat.le_refl _) _); have hBw2 := bnext HB1.out hB2) | (go_at_call 36; with_reducible refine (C36n.out _ hBw2).mono ?_; rintro e w3 ⟨vy, rfl, hvy, hb3⟩; obtain ⟨k2, n2, s2, A2, len2, cap2, r2, rfl⟩ := hvy.shape; have hB3 : Below w1.heap.size w1 (w3.alloc (.cells #[.int .u8 k2, .int .i64 n2, .string s2, .slice A2 len2 cap2, .int .i64 r2] 34)) := bnext hB2 (bnext hb3 ((Below.refl _ _).alloc (Nat.le_refl _) _))) | (go_at_call 36; with_reducible refine (C36b.out _ hB3).mono ?_; rintro e w4 ⟨vz, rfl, hvz, hb4⟩; obtain ⟨k3, n3, s3, A3, len3, cap3, r3, rfl⟩ := hvz.shape; have hB4 : Below w1.heap.size w1 (w4.alloc (.cells #[.int .u8 k3, .int .i64 n3, .string s3, .slice A3 len3 cap3, .int .i64 r3] 34)) := bnext hB3 (bnext hb4 ((Below.refl _ _).alloc (Nat.le_refl _) _))) | (go_at_call 40; refine (C40.out _ hB4).mono ?_; rintro e w5 ⟨rfl, hb5⟩; have hB5 := bnext hB4 hb5) | (go_at_call 47; refine (name_any _ _).mono ?_; rintro e w6 ⟨rfl, hb6⟩; have hB6 := bnext hB5 hb6) | (go_at_call 19; refine (C19.out _ hB6).mono ?_; rintro e w7 ⟨vg, rfl, hvg, hb7⟩; obtain ⟨k4, n4, s4, A4, len4, cap4, r4, rfl⟩ := hvg.shape))
    obtain ⟨W13, hW13⟩ : ∃ W13, W13 = w7.alloc (.cells #[.int .u8 k4, .int .i64 n4, .string s4, .slice A4 len4 cap4, .int .i64 r4] 34) := ⟨_, rfl⟩
    rw [← hW13]
    have ha7 : Below w7.heap.size w7 W13 := by rw [hW13]; exact (Below.refl _ _).alloc (Nat.le_refl _) _
    have h513 := bnext (bnext hb5 hb6) (bnext hb7 ha7)
    have h413 : Below w4.heap.size w4 W13 := bnext ((Below.refl _ _).alloc (Nat.le_refl _) (.cells #[.int .u8 k3, .int .i64 n3, .string s3, .slice A3 len3 cap3, .int .i64 r3] 34)) h513
    have h3' := bnext hb4 h413
    have h313 : Below w3.heap.size w3 W13 := bnext ((Below.refl _ _).alloc (Nat.le_refl _) (.cells #[.int .u8 k2, .int .i64 n2, .string s2, .slice A2 len2 cap2, .int .i64 r2] 34)) h3'
    have h2' := bnext hb3 h313
    have h213 : Below w2.heap.size w2 W13 := bnext ((Below.refl _ _).alloc (Nat.le_refl _) (.cells #[.int .u8 k1, .int .i64 n1, .string s1, .slice A1 len1 cap1, .int .i64 r1] 34)) h2'
    have h113 := bnext hb2 h213
    have Q5 : Hid (BlkN W13 (w.heap.size + 1) 34 #[.int .u8 k, .int .i64 n, .string t, .slice A len cap, .int .i64 r]) := Lib.hid (HQ1.out.below h113)
    have Q11 : Hid (BlkN W13 w2.heap.size 34 #[.int .u8 k1, .int .i64 n1, .string s1, .slice A1 len1 cap1, .int .i64 r1]) := Lib.hid ((BlkN.at_ (w := w2) rfl 34 #[.int .u8 k1, .int .i64 n1, .string s1, .slice A1 len1 cap1, .int .i64 r1]).below h2')
    have Q13 : Hid (BlkN W13 w3.heap.size 34 #[.int .u8 k2, .int .i64 n2, .string s2, .slice A2 len2 cap2, .int .i64 r2]) := Lib.hid ((BlkN.at_ (w := w3) rfl 34 #[.int .u8 k2, .int .i64 n2, .string s2, .slice A2 len2 cap2, .int .i64 r2]).below h3')
    have Q15 : Hid (BlkN W13 w4.heap.size 34 #[.int .u8 k3, .int .i64 n3, .string s3, .slice A3 len3 cap3, .int .i64 r3]) := Lib.hid ((BlkN.at_ (w := w4) rfl 34 #[.int .u8 k3, .int .i64 n3, .string s3, .slice A3 len3 cap3, .int .i64 r3]).below h513)
    have Q17 : Hid (BlkN W13 w7.heap.size 34 #[.int .u8 k4, .int .i64 n4, .string s4, .slice A4 len4 cap4, .int .i64 r4]) := Lib.hid (by rw [hW13]; exact BlkN.at_ rfl _ _)
    have HB13 := Lib.hid h113
    have HW13 := Lib.hid (bnext HB1.out h113)
    have X5 : Hid (IsVa W13 W13.heap.size (.agg #[.int .u8 k, .int .i64 n, .string t, .slice A len cap, .int .i64 r]) x) := Lib.hid ((IsVa.keep (fun b hb => HW13.out.block b hb) HV.out).mono fun b o hr => Nat.lt_of_lt_of_le hr HW13.out.size)
    have X11 : Hid (IsVa W13 W13.heap.size (.agg #[.int .u8 k1, .int .i64 n1, .string s1, .slice A1 len1 cap1, .int .i64 r1]) x) := Lib.hid ((IsVa.keep (fun b hb => h213.block b hb) hvx.ownLt).mono fun b o hr => Nat.lt_of_lt_of_le hr h213.size)
    have X13 : Hid (IsVa W13 W13.heap.size (.agg #[.int .u8 k2, .int .i64 n2, .string s2, .slice A2 len2 cap2, .int .i64 r2]) (getX ns b)) := Lib.hid ((IsVa.keep (fun b hb => h313.block b hb) hvy.ownLt).mono fun b o hr => Nat.lt_of_lt_of_le hr h313.size)
    have X15 : Hid (IsVa W13 W13.heap.size (.agg #[.int .u8 k3, .int .i64 n3, .string s3, .slice A3 len3 cap3, .int .i64 r3]) (getX ol b)) := Lib.hid ((IsVa.keep (fun b hb => h413.block b hb) hvz.ownLt).mono fun b o hr => Nat.lt_of_lt_of_le hr h413.size)
    have X17 : Hid (IsVa W13 W13.heap.size (.agg #[.int .u8 k4, .int .i64 n4, .string s4, .slice A4 len4 cap4, .int .i64 r4]) x) := Lib.hid ((IsVa.keep (fun b hb => ha7.block b hb) hvg.ownLt).mono fun b o hr => Nat.lt_of_lt_of_le hr ha7.size)
    clear hW13 ha7 h513 h413 h3' h313 h2' h213 h113 hb2 hb3 hb4 hb5 hb6 hb7 hvx hvy hvz hvg hB2 hBw2 hB3 hB4 hB5 hB6 C36a C36b C36n C40 C19 HQ1
    have ql := Q5.out.lt
    have hq5W : w.heap.size + 1 < W13.heap.size := ql
    refine reg9_13 a t x k n r A len cap (w.heap.size + 1) W13 ha HS.out.mayS HS.out.mayX Q5.out X5.out _ _ _ _ _ _ _ _ _ _ _ _ _ _ _ _ _ _ _ _ _ _ _ _ _ _ _ _ _ _ _ _ _ _ _ _ _ _ _ _ _ _ _ _ _ _ _ _ _ _ _ _ _ _ _ _ _ _ _ _ _ _ _ _ _ _ _ _ _ _ _ _ _ _ _ _ _ _ _ _ _ _ _ _ _ _ _ _ _ _ _ _ _ _ _ _ _ _ _ _ _ _ _ _ _ _ _ _ _ _ _ _ _ _ _ _ _ _ _ _ _ _ _ _ _ _ _ _ _ _ _ _ _ _ _ _ _ _ _ _ _ _ _ _ _ _ _ _ _ _ _ _ _ _ _ _ _ _ _ _ _ _ _ _ _ _ _ _ _ _ _ _ _ _ _ _ _ _ _ _ _ ?_
    intro Wf q g k5 n5 s5 A5 len5 cap5 r5 hJ1 hJ2 hJ3
    have HWf := Lib.hid hJ1
    have Q19 := Lib.hid hJ2
    have X19 := Lib.hid hJ3
    clear hJ1 hJ2 hJ3
    have hw1f := bnext HB13.out HWf.out
    have XL5 : IsVa Wf Wf.heap.size (.agg #[.int .u8 k, .int .i64 n, .string t, .slice A len cap, .int .i64 r]) x := (IsVa.keep (fun b hb => HWf.out.block b hb) X5.out).mono fun b o hr => Nat.lt_of_lt_of_le hr HWf.out.size
    have BL5 := Q5.out.below HWf.out
    have XL11 : IsVa Wf Wf.heap.size (.agg #[.int .u8 k1, .int .i64 n1, .string s1, .slice A1 len1 cap1, .int .i64 r1]) x := (IsVa.keep (fun b hb => HWf.out.block b hb) X11.out).mono fun b o hr => Nat.lt_of_lt_of_le hr HWf.out.size
    have BL11 := Q11.out.below HWf.out
    have XL13 : IsVa Wf Wf.heap.size (.agg #[.int .u8 k2, .int .i64 n2, .string s2, .slice A2 len2 cap2, .int .i64 r2]) (getX ns b) := (IsVa.keep (fun b hb => HWf.out.block b hb) X13.out).mono fun b o hr => Nat.lt_of_lt_of_le hr HWf.out.size
    have BL13 := Q13.out.below HWf.out
    have XL15 : IsVa Wf Wf.heap.size (.agg #[.int .u8 k3, .int .i64 n3, .string s3, .slice A3 len3 cap3, .int .i64 r3]) (getX ol b) := (IsVa.keep (fun b hb => HWf.out.block b hb) X15.out).mono fun b o hr => Nat.lt_of_lt_of_le hr HWf.out.size
    have BL15 := Q15.out.below HWf.out
    have XL17 : IsVa Wf Wf.heap.size (.agg #[.int .u8 k4, .int .i64 n4, .string s4, .slice A4 len4 cap4, .int .i64 r4]) x := (IsVa.keep (fun b hb => HWf.out.block b hb) X17.out).mono fun b o hr => Nat.lt_of_lt_of_le hr HWf.out.size
    have BL17 := Q17.out.below HWf.out
    have c1 := fun w' (hb : Below Wf.heap.size Wf w') => alike48_any x x w' Wf.heap.size Wf.heap.size (.agg #[.int .u8 k4, .int .i64 n4, .string s4, .slice A4 len4 cap4, .int .i64 r4]) (.agg #[.int .u8 k5, .int .i64 n5, .string s5, .slice A5 len5 cap5, .int .i64 r5]) (IsVa.keep (fun b hl => hb.block b hl) XL17) (IsVa.keep (fun b hl => hb.block b hl) X19.out) hb.size hb.size
    rw [sameV_refl] at c1
    have Hc1 := Lib.hid c1
    clear c1
    have c2 := fun w' (hb : Below Wf.heap.size Wf w') => alike48_any x x w' Wf.heap.size Wf.heap.size (.agg #[.int .u8 k4, .int .i64 n4, .string s4, .slice A4 len4 cap4, .int .i64 r4]) (.agg #[.int .u8 k1, .int .i64 n1, .string s1, .slice A1 len1 cap1, .int .i64 r1]) (IsVa.keep (fun b hl => hb.block b hl) XL17) (IsVa.keep (fun b hl => hb.block b hl) XL11) hb.size hb.size
    rw [sameV_refl] at c2
    have Hc2 := Lib.hid c2
    clear c2
    have c3 := fun w' (hb : Below Wf.heap.size Wf w') => alike48_any x x w' Wf.heap.size Wf.heap.size (.agg #[.int .u8 k1, .int .i64 n1, .string s1, .slice A1 len1 cap1, .int .i64 r1]) (.agg #[.int .u8 k, .int .i64 n, .string t, .slice A len cap, .int .i64 r]) (IsVa.keep (fun b hl => hb.block b hl) XL11) (IsVa.keep (fun b hl => hb.block b hl) XL5) hb.size hb.size
    rw [sameV_refl] at c3
    have Hc3 := Lib.hid c3
    clear c3
    have HBL5 := Lib.hid BL5
    have HBL11 := Lib.hid BL11
    have HBL13 := Lib.hid BL13
    have HBL15 := Lib.hid BL15
    have HBL17 := Lib.hid BL17
    have HW1f := Lib.hid hw1f
    clear XL5 XL11 XL13 XL15 XL17 BL5 BL11 BL13 BL15 BL17 hw1f X5 X11 X13 X15 X17 X19 Q5 Q11 Q13 Q15 Q17 hq5W ql
    have p17 := HBL17.out; have p19 := Q19.out
    have y0a := p17.cell 0 rfl; have y1a := p17.cell 1 rfl; have y2a := p17.cell 2 rfl; have y3a := p17.cell 3 rfl; have y4a := p17.cell 4 rfl; have y0b := p19.cell 0 rfl; have y1b := p19.cell 1 rfl; have y2b := p19.cell 2 rfl; have y3b := p19.cell 3 rfl; have y4b := p19.cell 4 rfl;
    go_upto_region 16 with (first | (go_at_call 48; with_reducible refine (Hc1.out _ (Below.refl _ _)).mono ?_; rintro e v1 ⟨rfl, hc1⟩; have p17 := HBL17.out.below hc1; have p11 := HBL11.out.below hc1; clear y0a y1a y2a y3a y4a y0b y1b y2b y3b y4b; have y0a := p17.cell 0 rfl; have y1a := p17.cell 1 rfl; have y2a := p17.cell 2 rfl; have y3a := p17.cell 3 rfl; have y4a := p17.cell 4 rfl; have y0b := p11.cell 0 rfl; have y1b := p11.cell 1 rfl; have y2b := p11.cell 2 rfl; have y3b := p11.cell 3 rfl; have y4b := p11.cell 4 rfl; skip) | (go_at_call 48; with_reducible refine (Hc2.out _ hc1).mono ?_; rintro e v2 ⟨rfl, hd2⟩; have hc2 := bnext hc1 hd2; have p11 := HBL11.out.below hc2; have p5 := HBL5.out.below hc2; clear y0a y1a y2a y3a y4a y0b y1b y2b y3b y4b; have y0a := p11.cell 0 rfl; have y1a := p11.cell 1 rfl; have y2a := p11.cell 2 rfl; have y3a := p11.cell 3 rfl; have y4a := p11.cell 4 rfl; have y0b := p5.cell 0 rfl; have y1b := p5.cell 1 rfl; have y2b := p5.cell 2 rfl; have y3b := p5.cell 3 rfl; have y4b := p5.cell 4 rfl; skip) | (go_at_call 48; with_reducible refine (Hc3.out _ hc2).mono ?_; rintro e v3 ⟨rfl, hd3⟩; have hc3 := bnext hc2 hd3; have p13 := HBL13.out.below hc3; have p15 := HBL15.out.below hc3; clear y0a y1a y2a y3a y4a y0b y1b y2b y3b y4b; have y0a := p13.cell 0 rfl; have y1a := p13.cell 1 rfl; have y2a := p13.cell 2 rfl; have y3a := p13.cell 3 rfl; have y4a := p13.cell 4 rfl; have y0b := p15.cell 0 rfl; have y1b := p15.cell 1 rfl; have y2b := p15.cell 2 rfl; have y3b := p15.cell 3 rfl; have y4b := p15.cell 4 rfl; skip))
    have HE := Lib.hid hc3
    clear hc1 hd2 hc2 hd3 hc3 p17 p19 p11 p13 p15 p5
    clear y0a y1a y2a y3a y4a y0b y1b y2b y3b y4b
    obtain ⟨we, rfl⟩ : ∃ we : World, we = v3 := ⟨_, rfl⟩
    go_wp2_with fail
    obtain ⟨_, Ax, cx, _, hel, h7l⟩ := HL.out
    simp only [Value.slice.injEq] at hel
    obtain ⟨rfl, _, rfl⟩ := hel
    obtain ⟨_, Ay, cy, _, hen, h7n⟩ := HN.out
    simp only [Value.slice.injEq] at hen
    obtain ⟨rfl, _, rfl⟩ := hen
    have H7L := Lib.hid h7l
    have H7N := Lib.hid h7n
    clear h7l h7n
    go_loopw [21] (fun i wr => ∃ j : Nat, j ≤ ns.length ∧ i = .int .i64 j ∧ Below Wf.heap.size Wf wr) (fun i _ => ns.length - (intOf i).toNat)
    case atStart => exact ⟨0, by omega, rfl, HE.out⟩
    case round =>
      obtain ⟨j, hj, rfl, hu⟩ := hrel
      have HU := Lib.hid hu
      have HWR := Lib.hid (bnext HW13.out (bnext HWf.out hu))
      have HW1R := Lib.hid (bnext HW1f.out hu)
      clear hu
      by_cases hlt : j < ns.length
      · have hlt' : j < ol.length := by omega
        obtain ⟨bl, bo, hbB, hA, hx⟩ := H7L.out (by rintro rfl; simp at hlt')
        obtain ⟨bm, bp, hbB', hA', hx'⟩ := H7N.out (by rintro rfl; simp at hlt)
        subst hA hA'
        obtain ⟨_, k6, n6, s6, A6, len6, cap6, r6, hat, hx1⟩ := hx.at2 j hlt'
        obtain ⟨_, k7, n7, s7, A7, len7, cap7, r7, hat2, hx2⟩ := hx'.at2 j hlt
        have hat' := hat.keep hbB (fun b hb => HW1R.out.block b hb)
        have hat2' := hat2.keep hbB' (fun b hb => HWR.out.block b hb)
        obtain ⟨e0, e1, e2, e3, e4, e5⟩ := hat'.six
        obtain ⟨f0, f1, f2, f3, f4, f5⟩ := hat2'.six
        obtain ⟨hn1, hn2⟩ := HS.out.nth j hlt hlt'
        have hcall := fun w' (hb : Below wr.heap.size wr w') => alike48_any ol[j].2 ns[j].2 w' w1.heap.size w.heap.size _ _ (IsVa.keep (fun b hl => (bnext HW1R.out hb).block b hl) hx1) (IsVa.keep (fun b hl => (bnext HWR.out hb).block b hl) hx2) (bnext HW1R.out hb).size (bnext HWR.out hb).size
        rw [hn1] at e0
        obtain ⟨sn, hsn⟩ : ∃ sn, sn = ns[j].1 := ⟨_, rfl⟩
        rw [← hsn] at e0 f0 hn2
        have hbl : bl < wr.heap.size := Nat.lt_of_lt_of_le hbB HW1R.out.size
        have hbm : bm < wr.heap.size := Nat.lt_of_lt_of_le hbB' HWR.out.size
        have hnn : (sn.toList != sn.toList) = false := by simp
        clear hat hat' hat2 hat2' hx hx' hx1 hx2 hn1 hsn
        cases heq : (sn.toList == a.toList)
        · have heq2 : (sn.toList != a.toList) = true := by rw [bne, heq]; rfl
          rw [hn2 heq] at hcall
          simp only [sameV_refl] at hcall
          have HC := Lib.hid hcall
          clear hcall hn2
          go_wp2_with fail
          refine RegT.region_seq (fun i => Nat.ble i 29) (fun W => (W.cell? ⟨bl, bo + j * 6, Option.none⟩ = some (.string sn) ∧ W.cell? ⟨bl, bo + j * 6 + 1, Option.none⟩ = some (.int .u8 k6) ∧ W.cell? ⟨bl, bo + j * 6 + 2, Option.none⟩ = some (.int .i64 n6) ∧ W.cell? ⟨bl, bo + j * 6 + 3, Option.none⟩ = some (.string s6) ∧ W.cell? ⟨bl, bo + j * 6 + 4, Option.none⟩ = some (.slice A6 len6 cap6) ∧ W.cell? ⟨bl, bo + j * 6 + 5, Option.none⟩ = some (.int .i64 r6)) ∧ (W.cell? ⟨bm, bp + j * 6, Option.none⟩ = some (.string sn) ∧ W.cell? ⟨bm, bp + j * 6 + 1, Option.none⟩ = some (.int .u8 k7) ∧ W.cell? ⟨bm, bp + j * 6 + 2, Option.none⟩ = some (.int .i64 n7) ∧ W.cell? ⟨bm, bp + j * 6 + 3, Option.none⟩ = some (.string s7) ∧ W.cell? ⟨bm, bp + j * 6 + 4, Option.none⟩ = some (.slice A7 len7 cap7) ∧ W.cell? ⟨bm, bp + j * 6 + 5, Option.none⟩ = some (.int .i64 r7))) [0, 1, 2, 3, 4, 5, 6, 7, 8, 9, 10, 11, 12, 13, 14, 15, 16, 17, 18, 19, 20, 21, 22, 23, 24, 25, 26, 27, 28, 29] [30, 31, 32, 33] (by kernel_rfl) (by kernel_rfl) (by decide +kernel) (by decide) ⟨⟨e0, e1, e2, e3, e4, e5⟩, ⟨f0, f1, f2, f3, f4, f5⟩⟩ ?_
          refine RegT.quiet_step rfl (fun _ _ _ h => h) (by kernel_rfl) (v := .slice (some ⟨bl, bo, Option.none⟩) ol.length cl) (fun w' hS => ?_) ?_
          · go_simp
          refine RegT.quiet_step rfl (fun _ _ _ h => h) (by kernel_rfl) (v := .int .i64 j) (fun w' hS => ?_) ?_
          · go_simp
          refine RegT.quiet_step rfl (fun _ _ _ h => h) (by kernel_rfl) (v := .pointer (some ⟨bl, bo + j * 6, Option.none⟩)) (fun w' hS => ?_) ?_
          · go_simp
          refine RegT.quiet_step rfl (fun _ _ _ h => h) (by kernel_rfl) (v := .pointer (some ⟨bl, bo + j * 6, Option.none⟩)) (fun w' hS => ?_) ?_
          · go_simp
          refine RegT.quiet_step rfl (fun _ _ _ h => h) (by kernel_rfl) (v := .string sn) (fun w' hS => ?_) ?_
          · obtain ⟨⟨t0, t1, t2, t3, t4, t5⟩, ⟨u0, u1, u2, u3, u4, u5⟩⟩ := hS; go_simp
          refine RegT.quiet_step rfl (fun _ _ _ h => h) (by kernel_rfl) (v := .slice (some ⟨bm, bp, Option.none⟩) ns.length ncap) (fun w' hS => ?_) ?_
          · go_simp
          refine RegT.quiet_step rfl (fun _ _ _ h => h) (by kernel_rfl) (v := .int .i64 j) (fun w' hS => ?_) ?_
          · go_simp
          refine RegT.quiet_step rfl (fun _ _ _ h => h) (by kernel_rfl) (v := .pointer (some ⟨bm, bp + j * 6, Option.none⟩)) (fun w' hS => ?_) ?_
          · go_simp
          refine RegT.quiet_step rfl (fun _ _ _ h => h) (by kernel_rfl) (v := .pointer (some ⟨bm, bp + j * 6, Option.none⟩)) (fun w' hS => ?_) ?_
          · go_simp
          refine RegT.quiet_step rfl (fun _ _ _ h => h) (by kernel_rfl) (v := .string sn) (fun w' hS => ?_) ?_
          · obtain ⟨⟨t0, t1, t2, t3, t4, t5⟩, ⟨u0, u1, u2, u3, u4, u5⟩⟩ := hS; go_simp
          refine RegT.quiet_step rfl (fun _ _ _ h => h) (by kernel_rfl) (v := .bool false) (fun w' hS => ?_) ?_
          · go_simp
          refine RegT.quiet_step rfl (fun _ _ _ h => h) (by kernel_rfl) (v := .bool false) (fun w' hS => ?_) ?_
          · go_simp
          refine RegT.quiet_step rfl (fun _ _ _ h => h) (by kernel_rfl) (v := .slice (some ⟨bm, bp, Option.none⟩) ns.length ncap) (fun w' hS => ?_) ?_
          · go_simp
          refine RegT.quiet_step rfl (fun _ _ _ h => h) (by kernel_rfl) (v := .int .i64 j) (fun w' hS => ?_) ?_
          · go_simp
          refine RegT.quiet_step rfl (fun _ _ _ h => h) (by kernel_rfl) (v := .pointer (some ⟨bm, bp + j * 6, Option.none⟩)) (fun w' hS => ?_) ?_
          · go_simp
          refine RegT.quiet_step rfl (fun _ _ _ h => h) (by kernel_rfl) (v := .pointer (some ⟨bm, bp + j * 6, Option.none⟩)) (fun w' hS => ?_) ?_
          · go_simp
          refine RegT.quiet_step rfl (fun _ _ _ h => h) (by kernel_rfl) (v := .string sn) (fun w' hS => ?_) ?_
          · obtain ⟨⟨t0, t1, t2, t3, t4, t5⟩, ⟨u0, u1, u2, u3, u4, u5⟩⟩ := hS; go_simp
          refine RegT.quiet_step rfl (fun _ _ _ h => h) (by kernel_rfl) (v := .string a) (fun w' hS => ?_) ?_
          · go_simp
          refine RegT.quiet_step rfl (fun _ _ _ h => h) (by kernel_rfl) (v := .bool true) (fun w' hS => ?_) ?_
          · go_simp
          refine RegT.quiet_step rfl (fun _ _ _ h => h) (by kernel_rfl) (v := .bool true) (fun w' hS => ?_) ?_
          · go_simp
          refine RegT.quiet_step rfl (fun _ _ _ h => h) (by kernel_rfl) (v := .slice (some ⟨bl, bo, Option.none⟩) ol.length cl) (fun w' hS => ?_) ?_
          · go_simp
          refine RegT.quiet_step rfl (fun _ _ _ h => h) (by kernel_rfl) (v := .int .i64 j) (fun w' hS => ?_) ?_
          · go_simp
          refine RegT.quiet_step rfl (fun _ _ _ h => h) (by kernel_rfl) (v := .pointer (some ⟨bl, bo + j * 6, Option.none⟩)) (fun w' hS => ?_) ?_
          · go_simp
          refine RegT.quiet_step rfl (fun _ _ _ h => h) (by kernel_rfl) (v := .pointer (some ⟨bl, bo + j * 6 + 1, Option.none⟩)) (fun w' hS => ?_) ?_
          · go_simp
          refine RegT.quiet_step rfl (fun _ _ _ h => h) (by kernel_rfl) (v := .agg #[.int .u8 k6, .int .i64 n6, .string s6, .slice A6 len6 cap6, .int .i64 r6]) (fun w' hS => ?_) ?_
          · obtain ⟨⟨t0, t1, t2, t3, t4, t5⟩, ⟨u0, u1, u2, u3, u4, u5⟩⟩ := hS; go_simp
          refine RegT.quiet_step rfl (fun _ _ _ h => h) (by kernel_rfl) (v := .slice (some ⟨bm, bp, Option.none⟩) ns.length ncap) (fun w' hS => ?_) ?_
          · go_simp
          refine RegT.quiet_step rfl (fun _ _ _ h => h) (by kernel_rfl) (v := .int .i64 j) (fun w' hS => ?_) ?_
          · go_simp
          refine RegT.quiet_step rfl (fun _ _ _ h => h) (by kernel_rfl) (v := .pointer (some ⟨bm, bp + j * 6, Option.none⟩)) (fun w' hS => ?_) ?_
          · go_simp
          refine RegT.quiet_step rfl (fun _ _ _ h => h) (by kernel_rfl) (v := .pointer (some ⟨bm, bp + j * 6 + 1, Option.none⟩)) (fun w' hS => ?_) ?_
          · go_simp
          refine RegT.quiet_step rfl (fun _ _ _ h => h) (by kernel_rfl) (v := .agg #[.int .u8 k7, .int .i64 n7, .string s7, .slice A7 len7 cap7, .int .i64 r7]) (fun w' hS => ?_) ?_
          · obtain ⟨⟨t0, t1, t2, t3, t4, t5⟩, ⟨u0, u1, u2, u3, u4, u5⟩⟩ := hS; go_simp
          refine seqQ_nil (RegT.seqT_tail [30, 31, 32, 33] [_, _, _, _] rfl rfl _ _ ?_)
          have HD := Lib.hid ((Below.refl wr.heap.size wr).drew)
          clear e0 e1 e2 e3 e4 e5 f0 f1 f2 f3 f4 f5
          go_wp2_with (go_at_call 48; refine (HC.out _ HD.out).mono ?_; rintro e w9 ⟨rfl, hb9⟩)
          simp only [RegT.NP]
          go_wp2_with fail
          go_roundw
          case rel => exact ⟨j + 1, by omega, by go_num, bnext HU.out (bnext HD.out hb9)⟩
          case measure => simp [intOf]; omega
        · have heq2 : (sn.toList != a.toList) = false := by rw [bne, heq]; rfl
          clear hcall hn2
          go_wp2_with fail
          go_quiet (fail)
          go_wp2_with fail
          go_roundw
          case rel => exact ⟨j + 1, by omega, by go_num, belowN HU.out _⟩
          case measure => simp [intOf]; omega
      · obtain rfl : j = ns.length := by omega
        go_wp2_with (go_at_call 17; refine (lives_any _).mono ?_; rintro e w9 ⟨rfl, hb9⟩)
        go_ret
        exact ⟨rfl, bnext HWR.out hb9⟩
  · have hgg := HNB.out rfl
    have hgg2 : gy = gz := by simpa using hgg
    have hba : ¬ b.toList = a.toList := by simpa using hnb'
    go_upto_region 13 with (first | (go_at_call 36; with_reducible refine (C36a.out _ (Below.refl _ _)).mono ?_; rintro e w2 ⟨vx, rfl, hvx, hb2⟩; obtain ⟨k1, n1, s1, A1, len1, cap1, r1, rfl⟩ := hvx.shape; have hB2 : Below w1.heap.size w1 (w2.alloc (.cells #[.int .u8 k1, .int .i64 n1, .string s1, .slice A1 len1 cap1, .int .i64 r1] 34)) := bnext hb2 ((Below.refl _ _).alloc (Nat.le_refl _) _); have hBw2 := bnext HB1.out hB2) | (go_at_call 36; with_reducible refine (C36n.out _ hBw2).mono ?_; rintro e w3 ⟨vy, rfl, hvy, hb3⟩; obtain ⟨k2, n2, s2, A2, len2, cap2, r2, rfl⟩ := hvy.shape; have hB3 : Below w1.heap.size w1 (w3.alloc (.cells #[.int .u8 k2, .int .i64 n2, .string s2, .slice A2 len2 cap2, .int .i64 r2] 34)) := bnext hB2 (bnext hb3 ((Below.refl _ _).alloc (Nat.le_refl _) _))) | (go_at_call 36; with_reducible refine (C36b.out _ hB3).mono ?_; rintro e w4 ⟨vz, rfl, hvz, hb4⟩; obtain ⟨k3, n3, s3, A3, len3, cap3, r3, rfl⟩ := hvz.shape; have hB4 : Below w1.heap.size w1 (w4.alloc (.cells #[.int .u8 k3, .int .i64 n3, .string s3, .slice A3 len3 cap3, .int .i64 r3] 34)) := bnext hB3 (bnext hb4 ((Below.refl _ _).alloc (Nat.le_refl _) _))) | (go_at_call 40; refine (C40.out _ hB4).mono ?_; rintro e w5 ⟨rfl, hb5⟩; have hB5 := bnext hB4 hb5) | (go_at_call 47; refine (name_any _ _).mono ?_; rintro e w6 ⟨rfl, hb6⟩; have hB6 := bnext hB5 hb6) | (go_at_call 19; refine (C19.out _ hB6).mono ?_; rintro e w7 ⟨vg, rfl, hvg, hb7⟩; obtain ⟨k4, n4, s4, A4, len4, cap4, r4, rfl⟩ := hvg.shape))
    obtain ⟨W13, hW13⟩ : ∃ W13, W13 = w7.alloc (.cells #[.int .u8 k4, .int .i64 n4, .string s4, .slice A4 len4 cap4, .int .i64 r4] 34) := ⟨_, rfl⟩
    rw [← hW13]
    have ha7 : Below w7.heap.size w7 W13 := by rw [hW13]; exact (Below.refl _ _).alloc (Nat.le_refl _) _
    have h513 := bnext (bnext hb5 hb6) (bnext hb7 ha7)
    have h413 : Below w4.heap.size w4 W13 := bnext ((Below.refl _ _).alloc (Nat.le_refl _) (.cells #[.int .u8 k3, .int .i64 n3, .string s3, .slice A3 len3 cap3, .int .i64 r3] 34)) h513
    have h3' := bnext hb4 h413
    have h313 : Below w3.heap.size w3 W13 := bnext ((Below.refl _ _).alloc (Nat.le_refl _) (.cells #[.int .u8 k2, .int .i64 n2, .string s2, .slice A2 len2 cap2, .int .i64 r2] 34)) h3'
    have h2' := bnext hb3 h313
    have h213 : Below w2.heap.size w2 W13 := bnext ((Below.refl _ _).alloc (Nat.le_refl _) (.cells #[.int .u8 k1, .int .i64 n1, .string s1, .slice A1 len1 cap1, .int .i64 r1] 34)) h2'
    have h113 := bnext hb2 h213
    have Q5 : Hid (BlkN W13 (w.heap.size + 1) 34 #[.int .u8 k, .int .i64 n, .string t, .slice A len cap, .int .i64 r]) := Lib.hid (HQ1.out.below h113)
    have Q11 : Hid (BlkN W13 w2.heap.size 34 #[.int .u8 k1, .int .i64 n1, .string s1, .slice A1 len1 cap1, .int .i64 r1]) := Lib.hid ((BlkN.at_ (w := w2) rfl 34 #[.int .u8 k1, .int .i64 n1, .string s1, .slice A1 len1 cap1, .int .i64 r1]).below h2')
    have Q13 : Hid (BlkN W13 w3.heap.size 34 #[.int .u8 k2, .int .i64 n2, .string s2, .slice A2 len2 cap2, .int .i64 r2]) := Lib.hid ((BlkN.at_ (w := w3) rfl 34 #[.int .u8 k2, .int .i64 n2, .string s2, .slice A2 len2 cap2, .int .i64 r2]).below h3')
    have Q15 : Hid (BlkN W13 w4.heap.size 34 #[.int .u8 k3, .int .i64 n3, .string s3, .slice A3 len3 cap3, .int .i64 r3]) := Lib.hid ((BlkN.at_ (w := w4) rfl 34 #[.int .u8 k3, .int .i64 n3, .string s3, .slice A3 len3 cap3, .int .i64 r3]).below h513)
    have Q17 : Hid (BlkN W13 w7.heap.size 34 #[.int .u8 k4, .int .i64 n4, .string s4, .slice A4 len4 cap4, .int .i64 r4]) := Lib.hid (by rw [hW13]; exact BlkN.at_ rfl _ _)
    have HB13 := Lib.hid h113
    have HW13 := Lib.hid (bnext HB1.out h113)
    have X5 : Hid (IsVa W13 W13.heap.size (.agg #[.int .u8 k, .int .i64 n, .string t, .slice A len cap, .int .i64 r]) x) := Lib.hid ((IsVa.keep (fun b hb => HW13.out.block b hb) HV.out).mono fun b o hr => Nat.lt_of_lt_of_le hr HW13.out.size)
    have X11 : Hid (IsVa W13 W13.heap.size (.agg #[.int .u8 k1, .int .i64 n1, .string s1, .slice A1 len1 cap1, .int .i64 r1]) x) := Lib.hid ((IsVa.keep (fun b hb => h213.block b hb) hvx.ownLt).mono fun b o hr => Nat.lt_of_lt_of_le hr h213.size)
    have X13 : Hid (IsVa W13 W13.heap.size (.agg #[.int .u8 k2, .int .i64 n2, .string s2, .slice A2 len2 cap2, .int .i64 r2]) (getX ns b)) := Lib.hid ((IsVa.keep (fun b hb => h313.block b hb) hvy.ownLt).mono fun b o hr => Nat.lt_of_lt_of_le hr h313.size)
    have X15 : Hid (IsVa W13 W13.heap.size (.agg #[.int .u8 k3, .int .i64 n3, .string s3, .slice A3 len3 cap3, .int .i64 r3]) (getX ol b)) := Lib.hid ((IsVa.keep (fun b hb => h413.block b hb) hvz.ownLt).mono fun b o hr => Nat.lt_of_lt_of_le hr h413.size)
    have X17 : Hid (IsVa W13 W13.heap.size (.agg #[.int .u8 k4, .int .i64 n4, .string s4, .slice A4 len4 cap4, .int .i64 r4]) x) := Lib.hid ((IsVa.keep (fun b hb => ha7.block b hb) hvg.ownLt).mono fun b o hr => Nat.lt_of_lt_of_le hr ha7.size)
    clear hW13 ha7 h513 h413 h3' h313 h2' h213 h113 hb2 hb3 hb4 hb5 hb6 hb7 hvx hvy hvz hvg hB2 hBw2 hB3 hB4 hB5 hB6 C36a C36b C36n C40 C19 HQ1
    have ql := Q5.out.lt
    have hq5W : w.heap.size + 1 < W13.heap.size := ql
    refine reg9_13 a t x k n r A len cap (w.heap.size + 1) W13 ha HS.out.mayS HS.out.mayX Q5.out X5.out _ _ _ _ _ _ _ _ _ _ _ _ _ _ _ _ _ _ _ _ _ _ _ _ _ _ _ _ _ _ _ _ _ _ _ _ _ _ _ _ _ _ _ _ _ _ _ _ _ _ _ _ _ _ _ _ _ _ _ _ _ _ _ _ _ _ _ _ _ _ _ _ _ _ _ _ _ _ _ _ _ _ _ _ _ _ _ _ _ _ _ _ _ _ _ _ _ _ _ _ _ _ _ _ _ _ _ _ _ _ _ _ _ _ _ _ _ _ _ _ _ _ _ _ _ _ _ _ _ _ _ _ _ _ _ _ _ _ _ _ _ _ _ _ _ _ _ _ _ _ _ _ _ _ _ _ _ _ _ _ _ _ _ _ _ _ _ _ _ _ _ _ _ _ _ _ _ _ _ _ _ ?_
    intro Wf q g k5 n5 s5 A5 len5 cap5 r5 hJ1 hJ2 hJ3
    have HWf := Lib.hid hJ1
    have Q19 := Lib.hid hJ2
    have X19 := Lib.hid hJ3
    clear hJ1 hJ2 hJ3
    have hw1f := bnext HB13.out HWf.out
    have XL5 : IsVa Wf Wf.heap.size (.agg #[.int .u8 k, .int .i64 n, .string t, .slice A len cap, .int .i64 r]) x := (IsVa.keep (fun b hb => HWf.out.block b hb) X5.out).mono fun b o hr => Nat.lt_of_lt_of_le hr HWf.out.size
    have BL5 := Q5.out.below HWf.out
    have XL11 : IsVa Wf Wf.heap.size (.agg #[.int .u8 k1, .int .i64 n1, .string s1, .slice A1 len1 cap1, .int .i64 r1]) x := (IsVa.keep (fun b hb => HWf.out.block b hb) X11.out).mono fun b o hr => Nat.lt_of_lt_of_le hr HWf.out.size
    have BL11 := Q11.out.below HWf.out
    have XL13 : IsVa Wf Wf.heap.size (.agg #[.int .u8 k2, .int .i64 n2, .string s2, .slice A2 len2 cap2, .int .i64 r2]) (getX ns b) := (IsVa.keep (fun b hb => HWf.out.block b hb) X13.out).mono fun b o hr => Nat.lt_of_lt_of_le hr HWf.out.size
    have BL13 := Q13.out.below HWf.out
    have XL15 : IsVa Wf Wf.heap.size (.agg #[.int .u8 k3, .int .i64 n3, .string s3, .slice A3 len3 cap3, .int .i64 r3]) (getX ol b) := (IsVa.keep (fun b hb => HWf.out.block b hb) X15.out).mono fun b o hr => Nat.lt_of_lt_of_le hr HWf.out.size
    have BL15 := Q15.out.below HWf.out
    have XL17 : IsVa Wf Wf.heap.size (.agg #[.int .u8 k4, .int .i64 n4, .string s4, .slice A4 len4 cap4, .int .i64 r4]) x := (IsVa.keep (fun b hb => HWf.out.block b hb) X17.out).mono fun b o hr => Nat.lt_of_lt_of_le hr HWf.out.size
    have BL17 := Q17.out.below HWf.out
    have c1 := fun w' (hb : Below Wf.heap.size Wf w') => alike48_any x x w' Wf.heap.size Wf.heap.size (.agg #[.int .u8 k4, .int .i64 n4, .string s4, .slice A4 len4 cap4, .int .i64 r4]) (.agg #[.int .u8 k5, .int .i64 n5, .string s5, .slice A5 len5 cap5, .int .i64 r5]) (IsVa.keep (fun b hl => hb.block b hl) XL17) (IsVa.keep (fun b hl => hb.block b hl) X19.out) hb.size hb.size
    rw [sameV_refl] at c1
    have Hc1 := Lib.hid c1
    clear c1
    have c2 := fun w' (hb : Below Wf.heap.size Wf w') => alike48_any x x w' Wf.heap.size Wf.heap.size (.agg #[.int .u8 k4, .int .i64 n4, .string s4, .slice A4 len4 cap4, .int .i64 r4]) (.agg #[.int .u8 k1, .int .i64 n1, .string s1, .slice A1 len1 cap1, .int .i64 r1]) (IsVa.keep (fun b hl => hb.block b hl) XL17) (IsVa.keep (fun b hl => hb.block b hl) XL11) hb.size hb.size
    rw [sameV_refl] at c2
    have Hc2 := Lib.hid c2
    clear c2
    have c3 := fun w' (hb : Below Wf.heap.size Wf w') => alike48_any x x w' Wf.heap.size Wf.heap.size (.agg #[.int .u8 k1, .int .i64 n1, .string s1, .slice A1 len1 cap1, .int .i64 r1]) (.agg #[.int .u8 k, .int .i64 n, .string t, .slice A len cap, .int .i64 r]) (IsVa.keep (fun b hl => hb.block b hl) XL11) (IsVa.keep (fun b hl => hb.block b hl) XL5) hb.size hb.size
    rw [sameV_refl] at c3
    have Hc3 := Lib.hid c3
    clear c3
    have hgx : getX ol b = getX ns b := by unfold getX; rw [HYZ.out (by first | rfl | trivial)]
    have c4 := fun w' (hb : Below Wf.heap.size Wf w') => alike48_any (getX ns b) (getX ol b) w' Wf.heap.size Wf.heap.size (.agg #[.int .u8 k2, .int .i64 n2, .string s2, .slice A2 len2 cap2, .int .i64 r2]) (.agg #[.int .u8 k3, .int .i64 n3, .string s3, .slice A3 len3 cap3, .int .i64 r3]) (IsVa.keep (fun b hl => hb.block b hl) XL13) (IsVa.keep (fun b hl => hb.block b hl) XL15) hb.size hb.size
    rw [hgx] at c4
    rw [sameV_refl] at c4
    have Hc4 := Lib.hid c4
    clear c4
    have HBL5 := Lib.hid BL5
    have HBL11 := Lib.hid BL11
    have HBL13 := Lib.hid BL13
    have HBL15 := Lib.hid BL15
    have HBL17 := Lib.hid BL17
    have HW1f := Lib.hid hw1f
    clear XL5 XL11 XL13 XL15 XL17 BL5 BL11 BL13 BL15 BL17 hw1f X5 X11 X13 X15 X17 X19 Q5 Q11 Q13 Q15 Q17 hq5W ql
    have p17 := HBL17.out; have p19 := Q19.out
    have y0a := p17.cell 0 rfl; have y1a := p17.cell 1 rfl; have y2a := p17.cell 2 rfl; have y3a := p17.cell 3 rfl; have y4a := p17.cell 4 rfl; have y0b := p19.cell 0 rfl; have y1b := p19.cell 1 rfl; have y2b := p19.cell 2 rfl; have y3b := p19.cell 3 rfl; have y4b := p19.cell 4 rfl;
    go_upto_region 16 with (first | (go_at_call 48; with_reducible refine (Hc1.out _ (Below.refl _ _)).mono ?_; rintro e v1 ⟨rfl, hc1⟩; have p17 := HBL17.out.below hc1; have p11 := HBL11.out.below hc1; clear y0a y1a y2a y3a y4a y0b y1b y2b y3b y4b; have y0a := p17.cell 0 rfl; have y1a := p17.cell 1 rfl; have y2a := p17.cell 2 rfl; have y3a := p17.cell 3 rfl; have y4a := p17.cell 4 rfl; have y0b := p11.cell 0 rfl; have y1b := p11.cell 1 rfl; have y2b := p11.cell 2 rfl; have y3b := p11.cell 3 rfl; have y4b := p11.cell 4 rfl; skip) | (go_at_call 48; with_reducible refine (Hc2.out _ hc1).mono ?_; rintro e v2 ⟨rfl, hd2⟩; have hc2 := bnext hc1 hd2; have p11 := HBL11.out.below hc2; have p5 := HBL5.out.below hc2; clear y0a y1a y2a y3a y4a y0b y1b y2b y3b y4b; have y0a := p11.cell 0 rfl; have y1a := p11.cell 1 rfl; have y2a := p11.cell 2 rfl; have y3a := p11.cell 3 rfl; have y4a := p11.cell 4 rfl; have y0b := p5.cell 0 rfl; have y1b := p5.cell 1 rfl; have y2b := p5.cell 2 rfl; have y3b := p5.cell 3 rfl; have y4b := p5.cell 4 rfl; skip) | (go_at_call 48; with_reducible refine (Hc3.out _ hc2).mono ?_; rintro e v3 ⟨rfl, hd3⟩; have hc3 := bnext hc2 hd3; have p13 := HBL13.out.below hc3; have p15 := HBL15.out.below hc3; clear y0a y1a y2a y3a y4a y0b y1b y2b y3b y4b; have y0a := p13.cell 0 rfl; have y1a := p13.cell 1 rfl; have y2a := p13.cell 2 rfl; have y3a := p13.cell 3 rfl; have y4a := p13.cell 4 rfl; have y0b := p15.cell 0 rfl; have y1b := p15.cell 1 rfl; have y2b := p15.cell 2 rfl; have y3b := p15.cell 3 rfl; have y4b := p15.cell 4 rfl; skip) | (go_at_call 48; with_reducible refine (Hc4.out _ hc3).mono ?_; rintro e v4 ⟨rfl, hd4⟩; have hc4 := bnext hc3 hd4))
    have HE := Lib.hid hc4
    clear hc1 hd2 hc2 hd3 hc3 p17 p19 p11 p13 p15 p5 hd4 hc4
    clear y0a y1a y2a y3a y4a y0b y1b y2b y3b y4b
    obtain ⟨we, rfl⟩ : ∃ we : World, we = v4 := ⟨_, rfl⟩
    go_wp2_with fail
    obtain ⟨_, Ax, cx, _, hel, h7l⟩ := HL.out
    simp only [Value.slice.injEq] at hel
    obtain ⟨rfl, _, rfl⟩ := hel
    obtain ⟨_, Ay, cy, _, hen, h7n⟩ := HN.out
    simp only [Value.slice.injEq] at hen
    obtain ⟨rfl, _, rfl⟩ := hen
    have H7L := Lib.hid h7l
    have H7N := Lib.hid h7n
    clear h7l h7n
    go_loopw [21] (fun i wr => ∃ j : Nat, j ≤ ns.length ∧ i = .int .i64 j ∧ Below Wf.heap.size Wf wr) (fun i _ => ns.length - (intOf i).toNat)
    case atStart => exact ⟨0, by omega, rfl, HE.out⟩
    case round =>
      obtain ⟨j, hj, rfl, hu⟩ := hrel
      have HU := Lib.hid hu
      have HWR := Lib.hid (bnext HW13.out (bnext HWf.out hu))
      have HW1R := Lib.hid (bnext HW1f.out hu)
      clear hu
      by_cases hlt : j < ns.length
      · have hlt' : j < ol.length := by omega
        obtain ⟨bl, bo, hbB, hA, hx⟩ := H7L.out (by rintro rfl; simp at hlt')
        obtain ⟨bm, bp, hbB', hA', hx'⟩ := H7N.out (by rintro rfl; simp at hlt)
        subst hA hA'
        obtain ⟨_, k6, n6, s6, A6, len6, cap6, r6, hat, hx1⟩ := hx.at2 j hlt'
        obtain ⟨_, k7, n7, s7, A7, len7, cap7, r7, hat2, hx2⟩ := hx'.at2 j hlt
        have hat' := hat.keep hbB (fun b hb => HW1R.out.block b hb)
        have hat2' := hat2.keep hbB' (fun b hb => HWR.out.block b hb)
        obtain ⟨e0, e1, e2, e3, e4, e5⟩ := hat'.six
        obtain ⟨f0, f1, f2, f3, f4, f5⟩ := hat2'.six
        obtain ⟨hn1, hn2⟩ := HS.out.nth j hlt hlt'
        have hcall := fun w' (hb : Below wr.heap.size wr w') => alike48_any ol[j].2 ns[j].2 w' w1.heap.size w.heap.size _ _ (IsVa.keep (fun b hl => (bnext HW1R.out hb).block b hl) hx1) (IsVa.keep (fun b hl => (bnext HWR.out hb).block b hl) hx2) (bnext HW1R.out hb).size (bnext HWR.out hb).size
        rw [hn1] at e0
        obtain ⟨sn, hsn⟩ : ∃ sn, sn = ns[j].1 := ⟨_, rfl⟩
        rw [← hsn] at e0 f0 hn2
        have hbl : bl < wr.heap.size := Nat.lt_of_lt_of_le hbB HW1R.out.size
        have hbm : bm < wr.heap.size := Nat.lt_of_lt_of_le hbB' HWR.out.size
        have hnn : (sn.toList != sn.toList) = false := by simp
        clear hat hat' hat2 hat2' hx hx' hx1 hx2 hn1 hsn
        cases heq : (sn.toList == a.toList)
        · have heq2 : (sn.toList != a.toList) = true := by rw [bne, heq]; rfl
          rw [hn2 heq] at hcall
          simp only [sameV_refl] at hcall
          have HC := Lib.hid hcall
          clear hcall hn2
          go_wp2_with fail
          refine RegT.region_seq (fun i => Nat.ble i 29) (fun W => (W.cell? ⟨bl, bo + j * 6, Option.none⟩ = some (.string sn) ∧ W.cell? ⟨bl, bo + j * 6 + 1, Option.none⟩ = some (.int .u8 k6) ∧ W.cell? ⟨bl, bo + j * 6 + 2, Option.none⟩ = some (.int .i64 n6) ∧ W.cell? ⟨bl, bo + j * 6 + 3, Option.none⟩ = some (.string s6) ∧ W.cell? ⟨bl, bo + j * 6 + 4, Option.none⟩ = some (.slice A6 len6 cap6) ∧ W.cell? ⟨bl, bo + j * 6 + 5, Option.none⟩ = some (.int .i64 r6)) ∧ (W.cell? ⟨bm, bp + j * 6, Option.none⟩ = some (.string sn) ∧ W.cell? ⟨bm, bp + j * 6 + 1, Option.none⟩ = some (.int .u8 k7) ∧ W.cell? ⟨bm, bp + j * 6 + 2, Option.none⟩ = some (.int .i64 n7) ∧ W.cell? ⟨bm, bp + j * 6 + 3, Option.none⟩ = some (.string s7) ∧ W.cell? ⟨bm, bp + j * 6 + 4, Option.none⟩ = some (.slice A7 len7 cap7) ∧ W.cell? ⟨bm, bp + j * 6 + 5, Option.none⟩ = some (.int .i64 r7))) [0, 1, 2, 3, 4, 5, 6, 7, 8, 9, 10, 11, 12, 13, 14, 15, 16, 17, 18, 19, 20, 21, 22, 23, 24, 25, 26, 27, 28, 29] [30, 31, 32, 33] (by kernel_rfl) (by kernel_rfl) (by decide +kernel) (by decide) ⟨⟨e0, e1, e2, e3, e4, e5⟩, ⟨f0, f1, f2, f3, f4, f5⟩⟩ ?_
          refine RegT.quiet_step rfl (fun _ _ _ h => h) (by kernel_rfl) (v := .slice (some ⟨bl, bo, Option.none⟩) ol.length cl) (fun w' hS => ?_) ?_
          · go_simp
          refine RegT.quiet_step rfl (fun _ _ _ h => h) (by kernel_rfl) (v := .int .i64 j) (fun w' hS => ?_) ?_
          · go_simp
          refine RegT.quiet_step rfl (fun _ _ _ h => h) (by kernel_rfl) (v := .pointer (some ⟨bl, bo + j * 6, Option.none⟩)) (fun w' hS => ?_) ?_
          · go_simp
          refine RegT.quiet_step rfl (fun _ _ _ h => h) (by kernel_rfl) (v := .pointer (some ⟨bl, bo + j * 6, Option.none⟩)) (fun w' hS => ?_) ?_
          · go_simp
          refine RegT.quiet_step rfl (fun _ _ _ h => h) (by kernel_rfl) (v := .string sn) (fun w' hS => ?_) ?_
          · obtain ⟨⟨t0, t1, t2, t3, t4, t5⟩, ⟨u0, u1, u2, u3, u4, u5⟩⟩ := hS; go_simp
          refine RegT.quiet_step rfl (fun _ _ _ h => h) (by kernel_rfl) (v := .slice (some ⟨bm, bp, Option.none⟩) ns.length ncap) (fun w' hS => ?_) ?_
          · go_simp
          refine RegT.quiet_step rfl (fun _ _ _ h => h) (by kernel_rfl) (v := .int .i64 j) (fun w' hS => ?_) ?_
          · go_simp
          refine RegT.quiet_step rfl (fun _ _ _ h => h) (by kernel_rfl) (v := .pointer (some ⟨bm, bp + j * 6, Option.none⟩)) (fun w' hS => ?_) ?_
          · go_simp
          refine RegT.quiet_step rfl (fun _ _ _ h => h) (by kernel_rfl) (v := .pointer (some ⟨bm, bp + j * 6, Option.none⟩)) (fun w' hS => ?_) ?_
          · go_simp
          refine RegT.quiet_step rfl (fun _ _ _ h => h) (by kernel_rfl) (v := .string sn) (fun w' hS => ?_) ?_
          · obtain ⟨⟨t0, t1, t2, t3, t4, t5⟩, ⟨u0, u1, u2, u3, u4, u5⟩⟩ := hS; go_simp
          refine RegT.quiet_step rfl (fun _ _ _ h => h) (by kernel_rfl) (v := .bool false) (fun w' hS => ?_) ?_
          · go_simp
          refine RegT.quiet_step rfl (fun _ _ _ h => h) (by kernel_rfl) (v := .bool false) (fun w' hS => ?_) ?_
          · go_simp
          refine RegT.quiet_step rfl (fun _ _ _ h => h) (by kernel_rfl) (v := .slice (some ⟨bm, bp, Option.none⟩) ns.length ncap) (fun w' hS => ?_) ?_
          · go_simp
          refine RegT.quiet_step rfl (fun _ _ _ h => h) (by kernel_rfl) (v := .int .i64 j) (fun w' hS => ?_) ?_
          · go_simp
          refine RegT.quiet_step rfl (fun _ _ _ h => h) (by kernel_rfl) (v := .pointer (some ⟨bm, bp + j * 6, Option.none⟩)) (fun w' hS => ?_) ?_
          · go_simp
          refine RegT.quiet_step rfl (fun _ _ _ h => h) (by kernel_rfl) (v := .pointer (some ⟨bm, bp + j * 6, Option.none⟩)) (fun w' hS => ?_) ?_
          · go_simp
          refine RegT.quiet_step rfl (fun _ _ _ h => h) (by kernel_rfl) (v := .string sn) (fun w' hS => ?_) ?_
          · obtain ⟨⟨t0, t1, t2, t3, t4, t5⟩, ⟨u0, u1, u2, u3, u4, u5⟩⟩ := hS; go_simp
          refine RegT.quiet_step rfl (fun _ _ _ h => h) (by kernel_rfl) (v := .string a) (fun w' hS => ?_) ?_
          · go_simp
          refine RegT.quiet_step rfl (fun _ _ _ h => h) (by kernel_rfl) (v := .bool true) (fun w' hS => ?_) ?_
          · go_simp
          refine RegT.quiet_step rfl (fun _ _ _ h => h) (by kernel_rfl) (v := .bool true) (fun w' hS => ?_) ?_
          · go_simp
          refine RegT.quiet_step rfl (fun _ _ _ h => h) (by kernel_rfl) (v := .slice (some ⟨bl, bo, Option.none⟩) ol.length cl) (fun w' hS => ?_) ?_
          · go_simp
          refine RegT.quiet_step rfl (fun _ _ _ h => h) (by kernel_rfl) (v := .int .i64 j) (fun w' hS => ?_) ?_
          · go_simp
          refine RegT.quiet_step rfl (fun _ _ _ h => h) (by kernel_rfl) (v := .pointer (some ⟨bl, bo + j * 6, Option.none⟩)) (fun w' hS => ?_) ?_
          · go_simp
          refine RegT.quiet_step rfl (fun _ _ _ h => h) (by kernel_rfl) (v := .pointer (some ⟨bl, bo + j * 6 + 1, Option.none⟩)) (fun w' hS => ?_) ?_
          · go_simp
          refine RegT.quiet_step rfl (fun _ _ _ h => h) (by kernel_rfl) (v := .agg #[.int .u8 k6, .int .i64 n6, .string s6, .slice A6 len6 cap6, .int .i64 r6]) (fun w' hS => ?_) ?_
          · obtain ⟨⟨t0, t1, t2, t3, t4, t5⟩, ⟨u0, u1, u2, u3, u4, u5⟩⟩ := hS; go_simp
          refine RegT.quiet_step rfl (fun _ _ _ h => h) (by kernel_rfl) (v := .slice (some ⟨bm, bp, Option.none⟩) ns.length ncap) (fun w' hS => ?_) ?_
          · go_simp
          refine RegT.quiet_step rfl (fun _ _ _ h => h) (by kernel_rfl) (v := .int .i64 j) (fun w' hS => ?_) ?_
          · go_simp
          refine RegT.quiet_step rfl (fun _ _ _ h => h) (by kernel_rfl) (v := .pointer (some ⟨bm, bp + j * 6, Option.none⟩)) (fun w' hS => ?_) ?_
          · go_simp
          refine RegT.quiet_step rfl (fun _ _ _ h => h) (by kernel_rfl) (v := .pointer (some ⟨bm, bp + j * 6 + 1, Option.none⟩)) (fun w' hS => ?_) ?_
          · go_simp
          refine RegT.quiet_step rfl (fun _ _ _ h => h) (by kernel_rfl) (v := .agg #[.int .u8 k7, .int .i64 n7, .string s7, .slice A7 len7 cap7, .int .i64 r7]) (fun w' hS => ?_) ?_
          · obtain ⟨⟨t0, t1, t2, t3, t4, t5⟩, ⟨u0, u1, u2, u3, u4, u5⟩⟩ := hS; go_simp
          refine seqQ_nil (RegT.seqT_tail [30, 31, 32, 33] [_, _, _, _] rfl rfl _ _ ?_)
          have HD := Lib.hid ((Below.refl wr.heap.size wr).drew)
          clear e0 e1 e2 e3 e4 e5 f0 f1 f2 f3 f4 f5
          go_wp2_with (go_at_call 48; refine (HC.out _ HD.out).mono ?_; rintro e w9 ⟨rfl, hb9⟩)
          simp only [RegT.NP]
          go_wp2_with fail
          go_roundw
          case rel => exact ⟨j + 1, by omega, by go_num, bnext HU.out (bnext HD.out hb9)⟩
          case measure => simp [intOf]; omega
        · have heq2 : (sn.toList != a.toList) = false := by rw [bne, heq]; rfl
          clear hcall hn2
          go_wp2_with fail
          go_quiet (fail)
          go_wp2_with fail
          go_roundw
          case rel => exact ⟨j + 1, by omega, by go_num, belowN HU.out _⟩
          case measure => simp [intOf]; omega
      · obtain rfl : j = ns.length := by omega
        go_wp2_with (go_at_call 17; refine (lives_any _).mono ?_; rintro e w9 ⟨rfl, hb9⟩)
        go_ret
        exact ⟨rfl, bnext HWR.out hb9⟩
end Go.Proofs.Ytnknefdpglnbnaa
