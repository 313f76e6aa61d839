/- The document's number; it is the program's. -/
import Derived.Test.YtjmelamllapmiaaGreatDoorXa
import Derived.Test.YtjmelamllapmiaaGreatDoorVa
namespace Go.Proofs.YtjmelamllapmiaaGreatDoor
open Go.RowKit

theorem wrap_neg {n : Nat} (h : n ≤ 9223372036854775808) : wrap64 (-(wrap64 (n : Nat))) = -(n : Int) := by unfold wrap64; omega

theorem below_upd {w V w' : World} {p : Nat} (hp : p = w.heap.size) (h : Below p w V) (hu : Upd p V w') : Below w.heap.size w w' :=
  ⟨hu.os.trans h.os, hu.tape.trans h.tape, hu.output.trans h.output, Nat.le_trans h.size hu.size, fun k hk => by
    subst hp
    by_cases hv : k < V.heap.size
    · exact (hu.block k hv (by omega)).trans (h.block k hk)
    · have := h.size; omega⟩

theorem cntL_val (M : Nat) (hM : 9 ≤ M) : ∀ (t : L8) (n : Nat), t.all digB = true → n ≤ M → (valD n t ≤ M → cntL M t n = (valD n t, [])) ∧ (M < valD n t → (cntL M t n).2 ≠ [])
  | [], n, _, hn => ⟨fun _ => by rw [cntL_end, valD_nil], fun h => by rw [valD_nil] at h; omega⟩
  | d :: t, n, ht, hn => by
    simp only [List.all_cons, Bool.and_eq_true] at ht
    obtain ⟨q, hq⟩ : ∃ q, q = d.toNat - 48 := ⟨_, rfl⟩
    have hd := ht.1
    simp only [digB, Bool.and_eq_true, decide_eq_true_eq] at hd
    have hq9 : q ≤ 9 := by omega
    rw [valD_cons, ← hq]
    by_cases hf : (M - q) / 10 < n
    · rw [cntL_bad ht.1 hq hf]
      have := valD_ge t (n * 10 + q)
      exact ⟨fun h => by omega, fun _ => by simp⟩
    · rw [cntL_step ht.1 hq hf]
      exact cntL_val M hM t _ ht.2 (by omega)
/-- The most that a number may be, by its sign. -/
def numM (neg : Bool) : Nat := if neg then 9223372036854775808 else 9223372036854775807
def sgnI (neg : Bool) (n : Nat) : Int := if neg then -(n : Int) else n
theorem numO_cnt (neg : Bool) (D : L8) (hall : D.all digB = true) (n : Nat) (r : L8) (st : Bool) (h : cntV (numM neg) neg D = (n, r, st)) :
    numO neg D = if st = false ∧ r = [] then some (sgnI neg n) else Option.none := by
  cases D with
  | nil =>
    simp only [cntV, Prod.mk.injEq] at h
    obtain ⟨-, -, rfl⟩ := h
    simp [numO]
  | cons c t =>
    simp only [List.all_cons, Bool.and_eq_true] at hall
    rw [cntV_cons] at h
    have hd := hall.1
    simp only [digB, Bool.and_eq_true, decide_eq_true_eq] at hd
    by_cases h48 : c = 48
    · subst h48
      cases neg with
      | true =>
        rw [if_neg (by simp)] at h
        simp only [Prod.mk.injEq] at h
        obtain ⟨-, -, rfl⟩ := h
        simp [numO]
      | false =>
        rw [if_pos ⟨hall.1, .inr rfl⟩, if_pos rfl] at h
        simp only [Prod.mk.injEq] at h
        obtain ⟨rfl, rfl, rfl⟩ := h
        cases t with
        | nil =>
          have e : valD 0 [48] = 0 := by rw [valD_cons, valD_nil]; rfl
          simp [numO, e, sgnI]
        | cons d t => simp [numO]
    · rw [if_pos ⟨hall.1, .inl h48⟩, if_neg h48] at h
      simp only [Prod.mk.injEq] at h
      obtain ⟨rfl, rfl, rfl⟩ := h
      obtain ⟨q, hq⟩ : ∃ q, q = c.toNat - 48 := ⟨_, rfl⟩
      have hM : 9 ≤ numM neg := by unfold numM; split <;> decide
      obtain ⟨k1, k2⟩ := cntL_val (numM neg) hM t q hall.2 (by omega)
      have hv : valD 0 (c :: t) = valD q t := by rw [valD_cons, ← hq, Nat.zero_mul, Nat.zero_add]
      have hne : ¬ (c :: t = [] ∨ ((c :: t).head? = some 48 ∧ (1 < (c :: t).length ∨ neg = true))) := by simp [h48]
      rw [← hq]
      unfold numO
      rw [if_neg hne, hv]
      by_cases hle : valD q t ≤ numM neg
      · rw [k1 hle]
        have hle' : valD q t ≤ (if neg = true then 9223372036854775808 else 9223372036854775807) := hle
        rw [if_pos hle']
        show some (sgnI neg (valD q t)) = _
        exact (if_pos ⟨rfl, rfl⟩).symm
      · have hle' : ¬ valD q t ≤ (if neg = true then 9223372036854775808 else 9223372036854775807) := hle
        rw [if_neg hle', if_neg (fun h => k2 (by omega) h.2)]
theorem sgn_neg {n : Nat} (h : n ≤ 9223372036854775808) : wrap64 (-(wrap64 (n : Nat))) = sgnI true n := wrap_neg h
set_option maxRecDepth 100000 in
set_option maxHeartbeats 4000000 in
theorem rnumber_any (X : ByteArray) (neg : Bool) (D : L8) (hX : X.data.toList = (if neg then [45] else []) ++ D) (hall : D.all digB = true) (hs : X.size ≤ 140737488351232) (w : World) :
    Calls Tryz.prog 172 #[.string X] w fun e w' => Below w.heap.size w w' ∧ DigR (numO neg D) e := by
  have HALL := Lib.hid hall
  have HX := Lib.hid hX
  clear hX hall
  go_enter Tryz.func172, Tryz.ntmps172
  go_upto_region 3 with fail
  obtain ⟨p, hp⟩ : ∃ p, p = w.heap.size := ⟨_, rfl⟩
  obtain ⟨V, hV⟩ : ∃ V, V = w.alloc (.cells #[.string X, .int .i64 0, .bool false, .int .i64 0] 218) := ⟨_, rfl⟩
  have HR : Hid (RRd V p X 0 false 0) := Lib.hid (by rw [hV]; exact BlkN.at_ hp 218 _)
  have HB : Hid (Below p w V) := Lib.hid (by rw [hV, hp]; exact (Below.refl _ w).alloc (Nat.le_refl _) _)
  rw [← hV, ← hp]
  have HPW : Hid (p = w.heap.size) := Lib.hid hp
  clear hV hp
  obtain ⟨c, hc⟩ : ∃ c : UInt8, c = nxS false (rest X 0) := ⟨_, rfl⟩
  have CN : Hid (Calls Tryz.prog 219 #[.pointer (some ⟨p, 0, Option.none⟩)] V fun e w' => e = .returned (.int .u8 (c.toNat : Nat)) ∧ Below V.heap.size V w') := Lib.hid (by rw [hc]; exact rnext_any X 0 false 0 V p HR.out)
  have hX0 : rest X 0 = (if neg then [45] else []) ++ D := HX.out
  have hpV := HR.out.lt
  cases neg with
  | true =>
    have hX1 : rest X 0 = 45 :: D := hX0
    have hXs : 0 < X.size := by
      have := congrArg List.length hX1
      simp only [rest_len, List.length_cons] at this
      omega
    have hD : rest X 1 = D := by
      have := rest_cons hXs
      rw [hX1] at this
      injection this with _ e
      exact e.symm
    have hc45 : c = 45 := by rw [hc, hX1]; rfl
    subst hc45
    have HD := Lib.hid hD
    have hr1 := HR.out
    clear hc hX0 hX1 hD
    go_upto_region 5 with (first | (go_at_call 219; refine CN.out.mono ?_; rintro e w1 ⟨rfl, hb1⟩; have hr1 := HR.out.below hb1; have hp1 := hr1.lt; have c1 := hr1.cell 1 rfl; have f1 := hr1.free 1; have HR1 := Lib.hid hr1; have HB1 := Lib.hid hb1; clear hr1 hb1))
    obtain ⟨W, hW⟩ : ∃ W, W = w1.setCell ⟨p, 1, Option.none⟩ (.int .i64 1) := ⟨_, rfl⟩
    have HR2 : Hid (RRd W p X 1 false 0) := Lib.hid (by rw [hW]; exact RRd.adv HR1.out)
    have HU2 : Hid (Upd p V W) := Lib.hid (by rw [hW]; exact (Upd.ofBelow HB1.out p).set 1 _)
    rw [← hW]
    clear hW c1 f1 hp1 HR1
    have hp2 := HR2.out.lt
    have C68 := Lib.hid (rcount_neg X 1 0 W p HR2.out (by omega) hs)
    go_upto_region 7 with (first | (go_at_call 220; refine C68.out.mono ?_; rintro e w3 ⟨hu3, n, j, st, rfl, hn, hij, hj, hcv, hr3⟩; have hp3 := hr3.lt; have c1 := hr3.cell 1 rfl; have c2 := hr3.cell 2 rfl; have HU3 := Lib.hid hu3; have HCV := Lib.hid hcv; clear hu3 hcv hr3))
    have HBB : Hid (Below w.heap.size w w3) := Lib.hid (below_upd HPW.out HB.out (HU2.out.trans HU3.out))
    have HO : Hid (numO true D = if st = false ∧ rest X j = [] then some (sgnI true n) else Option.none) := Lib.hid (numO_cnt true D HALL.out n _ st (by rw [← HD.out]; exact HCV.out))
    have HN := Lib.hid hn
    clear HB HU2 HU3 HCV C68 CN
    cases st with
    | true =>
      have HO2 : Hid (numO true D = Option.none) := Lib.hid (by rw [HO.out, if_neg (by simp)])
      go_quiet (fail)
      go_wp2_with fail
      go_ret2
      refine ⟨belowN HBB.out _, ?_⟩
      rw [HO2.out]
      exact DigR.no _
    | false =>
      by_cases hjl : j = X.size
      · have hb : ((j : Int) == (X.size : Nat)) = true := by rw [hjl]; simp
        have HO2 : Hid (numO true D = some (sgnI true n)) := Lib.hid (by rw [HO.out, if_pos ⟨rfl, by rw [hjl]; exact rest_end (Nat.le_refl _)⟩])
        clear hjl
        go_quiet (fail)
        go_wp2_with fail
        go_ret2
        refine ⟨belowN HBB.out _, ?_⟩
        rw [HO2.out]
        exact ⟨_, _, rfl, sgn_neg HN.out, rfl⟩
      · have hb : ((j : Int) == (X.size : Nat)) = false := by rw [beq_eq_false_iff_ne]; omega
        have HO2 : Hid (numO true D = Option.none) := Lib.hid (by
          rw [HO.out, if_neg]
          rintro ⟨-, h⟩
          have := congrArg List.length h
          simp only [rest_len, List.length_nil] at this
          omega)
        clear hjl
        go_quiet (fail)
        go_wp2_with fail
        go_ret2
        refine ⟨belowN HBB.out _, ?_⟩
        rw [HO2.out]
        exact DigR.no _
  | false =>
    have hX1 : rest X 0 = D := hX0
    have hc45 : ((c.toNat : Int) == 45) = false := u8_beq (n := 45) (by decide) (by
      rw [hc, hX1]
      have hall := HALL.out
      cases D with
      | nil => decide
      | cons d t =>
        simp only [List.all_cons, Bool.and_eq_true] at hall
        rintro rfl
        exact absurd hall.1 (by decide))
    have HD := Lib.hid hX1
    clear hc hX0 hX1
    have HU2 := Lib.hid (Upd.refl p V)
    have C68 := Lib.hid (fun w' (hb : Below V.heap.size V w') => rcount_pos X 0 0 w' p (HR.out.below hb) (by omega) hs)

    go_upto_region 7 with (first | (go_at_call 219; refine CN.out.mono ?_; rintro e w1 ⟨rfl, hb1⟩; have HU1 := Lib.hid (Upd.ofBelow hb1 p); have C68 := Lib.hid (C68.out _ hb1); clear hb1)| (go_at_call 220; refine C68.out.mono ?_; rintro e w3 ⟨hu3, n, j, st, rfl, hn, hij, hj, hcv, hr3⟩; have hp3 := hr3.lt; have c1 := hr3.cell 1 rfl; have c2 := hr3.cell 2 rfl; have HU3 := Lib.hid hu3; have HCV := Lib.hid hcv; clear hu3 hcv hr3))
    have HBB : Hid (Below w.heap.size w w3) := Lib.hid (below_upd HPW.out HB.out (HU1.out.trans HU3.out))
    have HO : Hid (numO false D = if st = false ∧ rest X j = [] then some (sgnI false n) else Option.none) := Lib.hid (numO_cnt false D HALL.out n _ st (by rw [← HD.out]; exact HCV.out))
    have HN := Lib.hid hn
    clear HB HU2 HU3 HCV C68 CN
    cases st with
    | true =>
      have HO2 : Hid (numO false D = Option.none) := Lib.hid (by rw [HO.out, if_neg (by simp)])
      go_quiet (fail)
      go_wp2_with fail
      go_ret2
      refine ⟨belowN HBB.out _, ?_⟩
      rw [HO2.out]
      exact DigR.no _
    | false =>
      by_cases hjl : j = X.size
      · have hb : ((j : Int) == (X.size : Nat)) = true := by rw [hjl]; simp
        have HO2 : Hid (numO false D = some (sgnI false n)) := Lib.hid (by rw [HO.out, if_pos ⟨rfl, by rw [hjl]; exact rest_end (Nat.le_refl _)⟩])
        clear hjl
        go_quiet (fail)
        go_wp2_with fail
        go_ret2
        refine ⟨belowN HBB.out _, ?_⟩
        rw [HO2.out]
        exact ⟨_, _, rfl, rfl, rfl⟩
      · have hb : ((j : Int) == (X.size : Nat)) = false := by rw [beq_eq_false_iff_ne]; omega
        have HO2 : Hid (numO false D = Option.none) := Lib.hid (by
          rw [HO.out, if_neg]
          rintro ⟨-, h⟩
          have := congrArg List.length h
          simp only [rest_len, List.length_nil] at this
          omega)
        clear hjl
        go_quiet (fail)
        go_wp2_with fail
        go_ret2
        refine ⟨belowN HBB.out _, ?_⟩
        rw [HO2.out]
        exact DigR.no _
end Go.Proofs.YtjmelamllapmiaaGreatDoor
