/- The walk of TopMeets. -/
import Derived.Test.YthafojadcodkoaaTm
namespace Go.Proofs.Ythafojadcodkoaa
open Go.RowKit

/-- How many steps a way has at most. -/
def Bnd (G : Gr) (K : Nat) : Prop := (∀ r t, G r = some t → endsF G (K + 1) r = true) ∧ (∀ r t, G r = some t → t.k ≠ 14 → endsF G K r = true)
/-- What From answers. -/
def FromP (w : World) (e : Ending) (w' : World) : Prop :=
  (∃ c : Int, c ≠ 0 ∧ e = .returned (.tuple #[.pointer Option.none, .int .i64 c]) ∧ Below w.heap.size w w') ∨
  (∃ (hi p tm fm : Nat) (ps cs : Value) (mA : Option Addr) (ml mc : Nat) (L : List Ent) (FL : List ((Int × Nat) × Int)) (lt : Int) (K : Nat),
    e = .returned (.tuple #[.pointer (some ⟨p, 0, Option.none⟩), .int .i64 0]) ∧ Below w.heap.size w w' ∧ Wd w' hi p tm fm ps cs (.slice mA ml mc) L FL lt ∧ 0 < ml ∧ Sound (gr L) (fc FL) ∧
    (w.heap.size ≤ p ∧ w.heap.size ≤ tm ∧ w.heap.size ≤ fm) ∧ (∀ e ∈ L, e.r ≤ lt) ∧ (0 ≤ lt ∧ lt ≤ 1000000 ∧ K ≤ 900000) ∧ Bnd (gr L) K)
theorem allN_take (xs : List Nat) (k : Nat) (h : k < xs.length) : allN (xs.take (k + 1)) = allN (xs.take k) &&& (xs.getD k 0 &&& 63) := by
  rw [take_succ_getD xs k h, allN_snoc]
theorem allN_drop (xs : List Nat) (k : Nat) (h : k < xs.length) : allN (xs.drop k) = allN (xs.drop (k + 1)) &&& (xs.getD k 0 &&& 63) := by
  rw [List.drop_eq_getElem_cons h, allN, List.getD_eq_getElem?_getD, List.getElem?_eq_getElem h]
  rfl
theorem IsU8.cells {w : World} {v : Value} {xs : List Nat} (h : IsU8 w v xs) : ∃ A cap, v = .slice A xs.length cap ∧ ∀ j, j < xs.length → ∃ b o, A = some ⟨b, o, Option.none⟩ ∧ w.cell? ⟨b, o + j, Option.none⟩ = some (.int .u8 (xs.getD j 0)) := by
  rcases h.2.2 with ⟨rfl, a, cap, rfl, _⟩ | ⟨b, o, cap, rfl, hc⟩
  · exact ⟨a, cap, rfl, fun j hj => by simp at hj⟩
  · exact ⟨_, cap, rfl, fun j hj => ⟨b, o, rfl, hc j hj⟩⟩
theorem base_good {L : List Ent} {t q : Int} {m K : Nat} (g : Good L t q m) (hK : endsF (gr L) K t = true) : endsF (gr L) (K + 1) q = true ∧ baseF (gr L) (K + 1) q = baseF (gr L) K t := by
  obtain ⟨⟨e, hE⟩, -, hr⟩ := g
  have hg := gr_ent hE
  unfold rootG at hr
  rw [hg] at hr
  simp only at hr
  by_cases hk : e.s.k = 14
  · rw [if_pos hk] at hr
    subst hr
    rw [endsF, baseF, hg]
    simp only [if_pos (wrap14 hk)]
    exact ⟨hK, trivial⟩
  · rw [if_neg hk] at hr
    subst hr
    exact ⟨(ends_succ hK).1, (ends_succ hK).2.2⟩
attribute [local irreducible] wpList
set_option maxRecDepth 100000 in
set_option maxHeartbeats 16000000 in
theorem meets_law (H : OwnWhatC) (w : World) (c0 c1 c2 c3 c4 : Value) (r : Int) (sv : Value) (xs : List Nat) (hsv : IsU8 w sv xs) (_h1 : ∀ u ∈ #[c0, c1, c2, c3, c4], u.oneCell' = true)
    (CF : ∀ w', Below w.heap.size w w' → Calls Try.prog 5 #[.agg #[c0, c1, c2, c3, c4]] w' fun e w2 => FromP w' e w2) (CL : ∀ w', Calls Try.prog 4 #[] w' fun e w2 => e = .returned (.bool true) ∧ Below w'.heap.size w' w2) :
    Calls Try.prog 3 #[.agg #[c0, c1, c2, c3, c4], .int .i64 r, sv] w fun e w' => e = .returned (.bool true) ∧ Below w.heap.size w w' := by
  have HU := Lib.hid hsv
  obtain ⟨A, cap, rfl, hc⟩ := hsv.cells
  have HC := Lib.hid hc
  have hxl : xs.length ≤ 140737488355328 := hsv.2.1
  have HX := Lib.hid hsv.1
  have CF := Lib.hid CF
  have CL := Lib.hid CL
  clear hsv hc
  go_enter Try.func3, Try.ntmps3
  go_upto_region 1 with fail
  obtain ⟨W0, hW0⟩ : ∃ W, W = w.alloc (.cells #[c0, c1, c2, c3, c4] 27) := ⟨_, rfl⟩
  have HB0 : Hid (Below w.heap.size w W0) := Lib.hid (by rw [hW0]; exact (Below.refl _ _).alloc (Nat.le_refl _) _)
  have HBX : Hid (BlkN W0 w.heap.size 27 #[c0, c1, c2, c3, c4]) := Lib.hid (by rw [hW0]; exact BlkN.at_ rfl _ _)
  rw [← hW0]
  clear hW0
  go_upto_region 3 with (first | (go_at_call 4; refine (CL.out _).mono ?_; rintro e w0 ⟨rfl, hb0⟩; have HB1 := Lib.hid (bnext HB0.out hb0); have HBX1 := Lib.hid (HBX.out.below hb0); clear hb0))
  have d0 := HBX1.out.cell 0 rfl
  have d1 := HBX1.out.cell 1 rfl
  have d2 := HBX1.out.cell 2 rfl
  have d3 := HBX1.out.cell 3 rfl
  have d4 := HBX1.out.cell 4 rfl
  go_upto_region 4 with (first | (go_at_call 5; refine (CF.out _ HB1.out).mono ?_; rintro e w1 (⟨c, hc, rfl, hb⟩ | ⟨hi, p, tm, fm, ps, cs, mA, ml, mc, L, FL, lt, K, rfl, hb, hwd, hml, hsound, hlo, hkeys, ⟨hl0, hl1, hK9⟩, hbnd⟩)))
  · have hcb : (c != 0) = true := by rw [bne_iff_ne]; exact hc
    go_wp2_with fail
    go_ret
    exact ⟨rfl, bnext HB1.out hb⟩
  have HBF := Lib.hid hb
  have HW1 := Lib.hid hwd
  have HS1 := Lib.hid hsound
  have HK1 := Lib.hid hkeys
  have HBD := Lib.hid hbnd
  obtain ⟨lo, hlo0⟩ : ∃ lo, lo = w0.heap.size := ⟨_, rfl⟩
  have HLO := Lib.hid hlo0
  rw [← hlo0] at hlo
  have C6 := is_any hwd r
  clear hb hwd hsound hkeys hbnd d0 d1 d2 d3 d4 hlo0
  cases hE : entE L r with
  | none =>
    rw [hE] at C6
    have C6 : Hid (Calls Try.prog 6 #[.pointer (some ⟨p, 0, Option.none⟩), .int .i64 r] w1 fun e w' => e = .returned (.bool false) ∧ w1 = w') := Lib.hid C6
    clear hE
    go_wp2_with (first | (go_at_call 6; refine C6.out.mono ?_; rintro e2 w' ⟨rfl, rfl⟩))
    go_ret
    exact ⟨rfl, bnext HB1.out HBF.out⟩
  | some e0 =>
  rw [hE] at C6
  have C6 : Hid (Calls Try.prog 6 #[.pointer (some ⟨p, 0, Option.none⟩), .int .i64 r] w1 fun e w' => e = .returned (.bool true) ∧ w1 = w') := Lib.hid C6
  by_cases h12 : 12 < xs.length
  · have hi12 : (12 : Int) < xs.length := by omega
    clear hE
    go_wp2_with (first | (go_at_call 6; refine C6.out.mono ?_; rintro e2 w' ⟨rfl, rfl⟩))
    go_ret
    exact ⟨rfl, bnext HB1.out HBF.out⟩
  have hi12 : ¬ (12 : Int) < xs.length := by omega
  have hg0 := gr_ent hE
  obtain ⟨left, hleft⟩ := HS1.out.can hg0
  have hl64 : left < 64 := by obtain ⟨n, h1, h2⟩ := hleft; exact h2 ▸ able_lt h1
  obtain ⟨t, ht⟩ : ∃ t, t = rootG (gr L) r := ⟨_, rfl⟩
  have HG0 : Hid (Good L t r left) := Lib.hid ⟨⟨e0, hE⟩, hleft, ht.symm⟩
  have HTK : Hid (endsF (gr L) K t = true) := Lib.hid (by
    obtain ⟨u, hu, huk⟩ := HS1.out.root hg0
    rw [← ht] at hu
    exact HBD.out.2 t u hu huk)
  have C7 := Lib.hid (able_any HW1.out r left hleft)
  have HWAY0 : Hid (Way1 w1 lo (gr L) (fc FL) hi p tm fm ps cs mA ml mc w1 L FL lt) := Lib.hid ⟨HW1.out, HS1.out, Ext.refl _, fun _ _ _ h => h, HK1.out, Below.refl _ _⟩
  have h63 : left &&& 63 = left := Nat.and_two_pow_sub_one_of_lt_two_pow (n := 6) hl64
  clear hE hg0 hleft ht
  go_wp2_with (first
    | (go_at_call 6; refine C6.out.mono ?_; rintro e2 w' ⟨rfl, rfl⟩)
    | (go_at_call 7; refine C7.out.mono ?_; rintro e2 w2 ⟨hb2, rfl⟩; have HB2 := Lib.hid hb2; clear hb2))
  go_loopw [8, 10, 11, 12, 13] (fun _ av qv iv _ wr => ∃ (k : Nat) (q : Int) (L1 : List Ent) (F1 : List ((Int × Nat) × Int)) (lt1 : Int), k ≤ xs.length ∧ iv = .int .i64 k ∧ av = .int .u8 (allN (xs.take k) : Nat) ∧ qv = .int .i64 q ∧ Way1 w1 lo (gr L) (fc FL) hi p tm fm ps cs mA ml mc wr L1 F1 lt1 ∧ Good L1 t q (left &&& allN (xs.take k)) ∧ (k = 0 → q = r) ∧ (0 < k → Form (gr L1) (fc F1) t (left &&& allN (xs.take k)) q) ∧ lt ≤ lt1 ∧ lt1 ≤ lt + k) (fun _ _ _ iv _ _ => xs.length - (intOf iv).toNat)
  case atStart =>
    have hbl : Below lo w1 w2 := HB2.out.mono (by rw [HLO.out]; exact HBF.out.size)
    exact ⟨0, r, L, FL, lt, by omega, rfl, rfl, rfl, ⟨HW1.out.below HB2.out, HS1.out, Ext.refl _, fun _ _ _ h => h, HK1.out, hbl⟩, by rw [List.take_zero]; show Good L t r (left &&& 63); rw [h63]; exact HG0.out, fun _ => rfl, fun h => absurd h (by omega), by omega, by omega⟩
  case round =>
    obtain ⟨k, q, L1, F1, lt1, hk, rfl, rfl, rfl, hway, hgood, hz, hform, hl2, hl3⟩ := hrel
    have HWY := Lib.hid hway
    have HGD := Lib.hid hgood
    have HZ := Lib.hid hz
    have HFM := Lib.hid hform
    have HBW : Hid (Below w.heap.size w wr) := Lib.hid (bnext HB1.out (HBF.out.trans (by rw [← HLO.out]; exact hway.low)))
    clear hway hgood hz hform
    by_cases hlt : k < xs.length
    · obtain ⟨b, o, hA, hcell⟩ := HC.out k hlt
      have hcw := (HBW.out.cell (p := ⟨b, o + k, Option.none⟩) (cell_lt hcell)).trans hcell
      obtain ⟨y, hy⟩ : ∃ y, y = xs.getD k 0 := ⟨_, rfl⟩
      have hy256 : y < 256 := by rw [hy]; exact getD_lt HX.out k
      have hand1 : bits .and .u8 (y : Int) 63 = ((y &&& 63 : Nat) : Int) := u8_and_nat y 63 hy256 (by omega)
      obtain ⟨s, hs⟩ : ∃ s, s = y &&& 63 := ⟨_, rfl⟩
      have hs64 : s < 64 := by rw [hs]; exact Nat.lt_of_le_of_lt Nat.and_le_right (by omega)
      obtain ⟨M, hM⟩ : ∃ M, M = allN (xs.take k) := ⟨_, rfl⟩
      have hM64 : M < 64 := by rw [hM]; exact allN_lt _
      have hand2 := u8_and_nat M s (by omega) (by omega)
      have HNX : Hid (allN (xs.take (k + 1)) = M &&& s) := Lib.hid (by rw [allN_take xs k hlt, ← hy, ← hs, ← hM])
      rw [← hs] at hand1
      rw [← hy] at hcw
      have HMM := Lib.hid hM
      rw [← hM]
      obtain ⟨e1, hE1⟩ := HGD.out.1
      have C8 := Lib.hid (Narrow_any H HWY.out.wd hml HWY.out.sound lo hlo (by omega) (by omega) HWY.out.keys q s hs64 e1 hE1)
      have hki : (k : Int) < xs.length := by omega
      subst hA
      clear hcell hy hs hM hE1
      go_wp2_with (first | (go_at_call 8; refine C8.out.mono ?_; rintro e2 w3 ⟨q3, L3, F3, lt3, rfl, hn⟩; have HN := Lib.hid hn; clear hn))
      go_roundw
      case rel =>
        obtain ⟨s1, s2, s3, s4, s5⟩ := HWY.out.step HGD.out HN.out
        obtain ⟨_, _, _, _, _, n6, n7⟩ := HN.out
        have e1 : left &&& allN (xs.take k) &&& s = left &&& allN (xs.take (k + 1)) := by rw [HNX.out, ← HMM.out, Nat.and_assoc]
        rw [e1] at s2 s3
        exact ⟨k + 1, q3, L3, F3, lt3, by omega, by go_num, by rw [HNX.out], rfl, s1, s2, fun h => by omega, fun _ => s3, by omega, by omega⟩
      case measure => simp only [intOf]; omega
    have hkn : k = xs.length := by omega
    subst hkn
    rw [List.take_length] at HGD HFM ⊢
    obtain ⟨M, hM⟩ : ∃ M, M = allN xs := ⟨_, rfl⟩
    have hM64 : M < 64 := by rw [hM]; exact allN_lt _
    have HMM := Lib.hid hM
    rw [← hM] at HGD HFM ⊢
    clear hlt hM
    have hkk : (xs.length : Int) ≤ 12 := by omega
    clear hk
    go_wp2_with fail
    go_loopw [8, 14, 15] (fun _ bv iv wr2 => ∃ (k : Nat) (q2 : Int) (L2 : List Ent) (F2 : List ((Int × Nat) × Int)) (lt2 : Int), k ≤ xs.length ∧ iv = .int .i64 ((k : Int) - 1) ∧ bv = .int .i64 q2 ∧ Way1 w1 lo (gr L) (fc FL) hi p tm fm ps cs mA ml mc wr2 L2 F2 lt2 ∧ Good L2 t q2 (left &&& allN (xs.drop k)) ∧ (k = xs.length → q2 = r) ∧ (k < xs.length → Form (gr L2) (fc F2) t (left &&& allN (xs.drop k)) q2) ∧ Good L2 t q (left &&& M) ∧ (0 < xs.length → Form (gr L2) (fc F2) t (left &&& M) q) ∧ lt ≤ lt2 ∧ lt2 ≤ lt + xs.length + (xs.length - k : Int)) (fun _ _ iv _ => (intOf iv + 1).toNat)
    case atStart => exact ⟨xs.length, r, L1, F1, lt1, by omega, rfl, rfl, HWY.out, by rw [List.drop_length]; show Good L1 t r (left &&& 63); rw [h63]; exact HG0.out.ext HWY.out.ext, fun _ => rfl, fun h => absurd h (by omega), HGD.out, HFM.out, by omega, by omega⟩
    case round =>
      obtain ⟨k, q2, L2, F2, lt2, hk, rfl, rfl, hway, hgood, hz, hform, hga, hfa, hl4, hl5⟩ := hrel
      have HWY2 := Lib.hid hway
      have HGD2 := Lib.hid hgood
      have HZ2 := Lib.hid hz
      have HFM2 := Lib.hid hform
      have HGA := Lib.hid hga
      have HFA := Lib.hid hfa
      have HBW2 : Hid (Below w.heap.size w wr) := Lib.hid (bnext HB1.out (HBF.out.trans (by rw [← HLO.out]; exact hway.low)))
      clear hway hgood hz hform hga hfa
      cases k with
      | succ j =>
        have hj : ((j + 1 : Nat) : Int) - 1 = (j : Int) := by omega
        rw [hj]
        have hjl : j < xs.length := by omega
        obtain ⟨b, o, hA, hcell⟩ := HC.out j hjl
        have hcw := (HBW2.out.cell (p := ⟨b, o + j, Option.none⟩) (cell_lt hcell)).trans hcell
        obtain ⟨y, hy⟩ : ∃ y, y = xs.getD j 0 := ⟨_, rfl⟩
        have hy256 : y < 256 := by rw [hy]; exact getD_lt HX.out j
        have hand1 : bits .and .u8 (y : Int) 63 = ((y &&& 63 : Nat) : Int) := u8_and_nat y 63 hy256 (by omega)
        obtain ⟨s, hs⟩ : ∃ s, s = y &&& 63 := ⟨_, rfl⟩
        have hs64 : s < 64 := by rw [hs]; exact Nat.lt_of_le_of_lt Nat.and_le_right (by omega)
        have HNX : Hid (allN (xs.drop j) = allN (xs.drop (j + 1)) &&& s) := Lib.hid (by rw [allN_drop xs j hjl, ← hy, ← hs])
        rw [← hs] at hand1
        rw [← hy] at hcw
        obtain ⟨e1, hE1⟩ := HGD2.out.1
        have C8 := Lib.hid (Narrow_any H HWY2.out.wd hml HWY2.out.sound lo hlo (by omega) (by omega) HWY2.out.keys q2 s hs64 e1 hE1)
        have hji : (j : Int) < xs.length := by omega
        subst hA
        clear hcell hy hs hE1 hj
        go_wp2_with (first | (go_at_call 8; refine C8.out.mono ?_; rintro e2 w3 ⟨q3, L3, F3, lt3, rfl, hn⟩; have HN := Lib.hid hn; clear hn))
        go_roundw
        case rel =>
          obtain ⟨s1, s2, s3, s4, s5⟩ := HWY2.out.step HGD2.out HN.out
          obtain ⟨_, _, _, _, _, n6, n7⟩ := HN.out
          have e1 : left &&& allN (xs.drop (j + 1)) &&& s = left &&& allN (xs.drop j) := by rw [HNX.out, Nat.and_assoc]
          rw [e1] at s2 s3
          exact ⟨j, q3, L3, F3, lt3, by omega, by go_num, by first | rfl | trivial, s1, s2, fun h => by omega, fun _ => s3, HGA.out.ext s4, fun h => (HFA.out h).ext s4 s5, by omega, by omega⟩
        case measure => simp only [intOf]; omega
      | zero =>
      rw [List.drop_zero, ← HMM.out] at HGD2 HFM2
      have hm1 : ((0 : Nat) : Int) - 1 = -1 := by decide
      rw [hm1]
      have HGR : Hid (Good L2 t r left) := Lib.hid (HG0.out.ext HWY2.out.ext)
      obtain ⟨er, hEr⟩ := HGR.out.1
      have C9 := Lib.hid (len_any HWY2.out.wd)
      have C8 := Lib.hid (Narrow_any H HWY2.out.wd hml HWY2.out.sound lo hlo (by omega) (by omega) HWY2.out.keys r M hM64 er hEr)
      clear hEr hm1
      go_upto_region 26 with (first
        | (go_at_call 9; refine C9.out.mono ?_; rintro e2 w' ⟨rfl, rfl⟩)
        | (go_at_call 8; refine C8.out.mono ?_; rintro e2 w3 ⟨c, L3, F3, lt3, rfl, hn⟩; have HN := Lib.hid hn; clear hn))
      obtain ⟨s1, s2, s3, s4, s5⟩ := HWY2.out.step HGR.out HN.out
      obtain ⟨X, hX⟩ : ∃ X, X = left &&& M := ⟨_, rfl⟩
      have hX64 : X < 64 := by rw [hX]; exact Nat.lt_of_le_of_lt Nat.and_le_right hM64
      have hXM : X &&& M = X := by rw [hX, Nat.and_assoc, Nat.and_self]
      have hand3 : bits .and .u8 (left : Int) (M : Int) = (X : Int) := by rw [u8_and_nat left M (by omega) (by omega), hX]
      rw [← hX] at s2 s3 HGD2 HFM2 HGA HFA
      have hn6 : lt2 ≤ lt3 ∧ lt3 ≤ lt2 + 1 := ⟨HN.out.2.2.2.2.2.1, HN.out.2.2.2.2.2.2⟩
      have HNF : Hid (0 < xs.length → (q = q2 ∧ q2 = c ∧ L3 = L2)) := Lib.hid (fun h => by
        have f1 := HFA.out h
        have f2 := HFM2.out h
        obtain ⟨g1, g2, g3, g4⟩ := NarR.again HN.out.2.2.1 HGR.out.2.1 (by rw [HGR.out.2.2]; rw [← hX]; exact f1)
        obtain ⟨g5, g6⟩ := HN.out.2.2.2.1 g4
        have e1 := f1.one f2
        exact ⟨e1, by rw [← e1]; exact g1.symm, g5⟩)
      have HN0 : Hid (xs.length = 0 → q = r ∧ q2 = r) := Lib.hid (fun h => ⟨HZ.out h, HZ2.out (by omega)⟩)
      have HW3 := Lib.hid s1
      have HG3 := Lib.hid s2
      have HF3 := Lib.hid s3
      have hTK3 := (s1.ext.ends HTK.out).1
      obtain ⟨b1, b2⟩ := base_good s2 hTK3
      obtain ⟨b3, b4⟩ := base_good (HGR.out.ext s4) hTK3
      obtain ⟨ec, hEc⟩ := s2.1
      have CA := Lib.hid (able_any s1.wd c X s2.2.1)
      have CN : Hid (∀ w', Below w3.heap.size w3 w' → Calls Try.prog 8 #[.pointer (some ⟨p, 0, Option.none⟩), .int .i64 c, .int .u8 M] w' fun ee w2 => ∃ q4 L4 F4 lt4, ee = .returned (.tuple #[.int .i64 q4, .int .i64 0]) ∧ NarW w' hi p tm fm ps cs mA ml mc L3 F3 lt3 lo c M q4 w2 L4 F4 lt4) := Lib.hid (fun w' hb => Narrow_any H (HW3.out.wd.below hb) hml HW3.out.sound lo hlo (by omega) (by omega) HW3.out.keys c M hM64 ec hEc)
      have CB : Hid (∀ w' rr, Below w3.heap.size w3 w' → (rr = c ∨ rr = r) → Calls Try.prog 10 #[.pointer (some ⟨p, 0, Option.none⟩), .int .i64 rr] w' fun ee w2 => Below w'.heap.size w' w2 ∧ ee = .returned (.int .i64 (baseF (gr L3) K t))) := Lib.hid (fun w' rr hb h => by
        rcases h with rfl | rfl
        · have := base_any (HW3.out.wd.below hb) rr (K + 1) b1 (by omega)
          rw [b2] at this
          exact this
        · have := base_any (HW3.out.wd.below hb) rr (K + 1) b3 (by omega)
          rw [b4] at this
          exact this)
      have CE : Hid (∀ w' L4 F4 lt4, Wd w' hi p tm fm ps cs (.slice mA ml mc) L4 F4 lt4 → Calls Try.prog 9 #[.pointer (some ⟨p, 0, Option.none⟩)] w' fun e w2 => e = .returned (.int .i64 L4.length) ∧ w' = w2) := Lib.hid (fun w' L4 F4 lt4 h => len_any h)
      have HAG : Hid (∀ w' w2 q4 L4 F4 lt4, NarW w' hi p tm fm ps cs mA ml mc L3 F3 lt3 lo c M q4 w2 L4 F4 lt4 → q4 = c ∧ L4 = L3) := Lib.hid (fun w' w2 q4 L4 F4 lt4 hn => by
        obtain ⟨g1, g2, g3, g4⟩ := NarR.again hn.2.2.1 HG3.out.2.1 (by rw [HG3.out.2.2, hXM]; exact HF3.out)
        exact ⟨g1, (hn.2.2.2.1 g4).1⟩)
      clear s1 s2 s3 s4 s5 hX hTK3 b1 b2 b3 b4 hEc
      have hlw3 : lo ≤ w3.heap.size := by have := HW3.out.wd.low; omega
      by_cases hn0 : 0 < xs.length
      · obtain ⟨h1, h2, h3⟩ := HNF.out hn0
        have hgt : (0 : Int) < xs.length := by omega
        subst h1
        subst h2
        subst h3
        go_wp2_with (first
          | (go_at_call 7; refine CA.out.mono ?_; rintro e2 w4 ⟨hb4, rfl⟩; have HB4 := Lib.hid hb4; clear hb4)
          | (go_at_call 10; refine (CB.out _ _ HB4.out (.inl rfl)).mono ?_; rintro e2 w5 ⟨hb5, rfl⟩; have HB5 := Lib.hid (bnext HB4.out hb5); clear hb5 HB4)
          | (go_at_call 10; refine (CB.out _ _ HB5.out (.inr rfl)).mono ?_; rintro e2 w6 ⟨hb6, rfl⟩; have HB6 := Lib.hid (bnext HB5.out hb6); clear hb6 HB5)
          | (go_at_call 8; refine (CN.out _ HB6.out).mono ?_; rintro e2 w7 ⟨q4, L4, F4, lt4, rfl, hn⟩; obtain ⟨e4, e5⟩ := HAG.out _ _ _ _ _ _ hn; have e6 := e4.symm; have e7 := e5.symm; clear e4 e5; subst e6; subst e7; have HN7 := Lib.hid hn; clear hn)
          | (go_at_call 9; refine (CE.out _ _ _ _ HN7.out.2.1).mono ?_; rintro e2 w' ⟨rfl, rfl⟩))
        go_ret
        exact ⟨rfl, bnext HB1.out (HBF.out.trans (by rw [← HLO.out]; exact ((HW3.out.low.trans (HB6.out.mono hlw3)).trans HN7.out.1)))⟩
      · have hz0 : xs.length = 0 := by omega
        obtain ⟨h1, h2⟩ := HN0.out hz0
        have hgt : ¬ (0 : Int) < xs.length := by omega
        have heq : ((xs.length : Int) == 0) = true := by rw [beq_iff_eq]; omega
        subst h1
        subst h2
        cases hlb : (((L3.length : Nat) : Int) == ((L2.length : Nat) : Int))
        all_goals
          go_wp2_with (first
            | (go_at_call 7; refine CA.out.mono ?_; rintro e2 w4 ⟨hb4, rfl⟩; have HB4 := Lib.hid hb4; clear hb4)
            | (go_at_call 10; refine (CB.out _ _ HB4.out (.inl rfl)).mono ?_; rintro e2 w5 ⟨hb5, rfl⟩; have HB5 := Lib.hid (bnext HB4.out hb5); clear hb5 HB4)
            | (go_at_call 10; refine (CB.out _ _ HB5.out (.inr rfl)).mono ?_; rintro e2 w6 ⟨hb6, rfl⟩; have HB6 := Lib.hid (bnext HB5.out hb6); clear hb6 HB5)
            | (go_at_call 8; refine (CN.out _ HB6.out).mono ?_; rintro e2 w7 ⟨q4, L4, F4, lt4, rfl, hn⟩; obtain ⟨e4, e5⟩ := HAG.out _ _ _ _ _ _ hn; have e6 := e4.symm; have e7 := e5.symm; clear e4 e5; subst e6; subst e7; have HN7 := Lib.hid hn; clear hn)
            | (go_at_call 9; refine (CE.out _ _ _ _ HN7.out.2.1).mono ?_; rintro e2 w' ⟨rfl, rfl⟩))
          go_ret
          exact ⟨rfl, bnext HB1.out (HBF.out.trans (by rw [← HLO.out]; exact ((HW3.out.low.trans (HB6.out.mono hlw3)).trans HN7.out.1)))⟩
end Go.Proofs.Ythafojadcodkoaa
