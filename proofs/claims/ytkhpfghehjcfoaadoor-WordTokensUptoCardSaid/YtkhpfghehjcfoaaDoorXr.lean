/- The statements' places: tokens that are a list's but for their places, which rise. -/
import Derived.Test.YtkhpfghehjcfoaaDoorXe
namespace Go.Proofs.YtkhpfghehjcfoaaDoor
open Go.RowKit

/-- The tokens m are l's but for their places, which rise and lie below n. -/
def Placed (m l : List Tk) (n : Nat) : Prop :=
  m.length = l.length ∧ (∀ (i : Nat) (hi : i < m.length), 0 ≤ m[i].at_ ∧ m[i].at_ < n) ∧ (∀ (i : Nat) (hi : i + 1 < m.length), m[i].at_ < m[i + 1].at_) ∧
    ∀ (i : Nat) (hi : i < m.length) (hi' : i < l.length), m[i].k = l[i].k ∧ m[i].n = l[i].n ∧ m[i].s = l[i].s ∧ m[i].r = l[i].r
set_option maxRecDepth 100000 in
set_option maxHeartbeats 4000000 in
theorem places_any (m l : List Tk) (line : ByteArray) (w : World) (B C : Nat) (v u : Value) (hv : IsTks w B v m) (hu : IsTks w C u l) (hB : B ≤ w.heap.size) (hC : C ≤ w.heap.size) (hP : Placed m l line.size) :
    Calls Tryd.prog 36 #[v, u, .string line] w fun e w' => e = .returned (.bool true) ∧ Below w.heap.size w w' := by
  obtain ⟨hl, A, cap, hcap, rfl, h7⟩ := hv
  obtain ⟨-, A', cap', hcap', rfl, h7'⟩ := hu
  have H7 := Lib.hid h7
  have H7' := Lib.hid h7'
  have HP := Lib.hid hP
  have hml := hP.1
  have hmlz : ((m.length : Int) != l.length) = false := by rw [hml]; simp
  have hmll : l.length ≤ m.length := by omega
  have HML := Lib.hid hml
  clear h7 h7' hP hml
  go_enter Tryd.func36, Tryd.ntmps36
  go_wp2_with fail
  clear hmlz
  go_loopw [7, 8] (fun ix _ wr => ∃ j : Nat, j ≤ m.length ∧ ix = .int .i64 j ∧ Below w.heap.size w wr) (fun ix _ _ => m.length - (intOf ix).toNat)
  case atStart => exact ⟨0, by omega, rfl, Below.refl _ _⟩
  case round =>
    obtain ⟨j, hj, rfl, hu⟩ := hrel
    have HU := Lib.hid hu
    clear hu
    by_cases hlt : j < m.length
    · have hlt' : j < l.length := by have := HML.out; omega
      obtain ⟨b, o, hbB, hA, hx⟩ := H7.out (by rintro rfl; simp at hlt)
      obtain ⟨b', o', hbB', hA', hx'⟩ := H7'.out (by rintro rfl; simp at hlt')
      subst hA hA'
      have hat := (hx j hlt).keep hbB (fun b hb => HU.out.block b (by omega))
      have hat2 := (hx' j hlt').keep hbB' (fun b hb => HU.out.block b (by omega))
      obtain ⟨e0, e1, e2, e3, e4⟩ := At.five' hat
      have HAT2 := Lib.hid hat2
      have HATP : Hid (∀ i (hi : i + 1 = j), At wr b (o + i * 5) (m[i]'(by omega)).arr.toList) := Lib.hid (fun i hi => (hx i (by omega)).keep hbB (fun b hb => HU.out.block b (by omega)))
      have hji : (j : Int) < m.length := by omega
      have hji' : (j : Int) < l.length := by omega
      have hb1l : b < wr.heap.size := by have := HU.out.size; omega
      have hb2l : b' < wr.heap.size := by have := HU.out.size; omega
      obtain ⟨hp0, hp1⟩ := HP.out.2.1 j hlt
      obtain ⟨hk0, hk1, hk2, hk3⟩ := HP.out.2.2.2 j hlt hlt'
      have HK := Lib.hid (And.intro hk0 (And.intro hk1 (And.intro hk2 hk3)))
      have HRISE : Hid (∀ i (hi : i + 1 = j), (m[i]'(by omega)).at_ < m[j].at_) := Lib.hid (fun i hi => by subst hi; exact HP.out.2.2.1 i hlt)
      obtain ⟨km, am, nm, sm, rm, hTm⟩ : ∃ k a n s r, m[j] = Tk.mk k a n s r := ⟨_, _, _, _, _, rfl⟩
      have htm : m[j].arr = #[.int .u8 km, .int .i64 am, .int .i64 nm, .string (txtV sm), .int .i64 rm] := by rw [hTm]; rfl
      rw [hTm] at hp0 hp1 e0 e1 e2 e3 e4
      have hp0 : 0 ≤ am := hp0
      have hp1 : am < line.size := hp1
      have e0 : wr.cell? ⟨b, o + j * 5, Option.none⟩ = some (.int .u8 km) := e0
      have e1 : wr.cell? ⟨b, o + j * 5 + 1, Option.none⟩ = some (.int .i64 am) := e1
      have e2 : wr.cell? ⟨b, o + j * 5 + 2, Option.none⟩ = some (.int .i64 nm) := e2
      have e3 : wr.cell? ⟨b, o + j * 5 + 3, Option.none⟩ = some (.string (txtV sm)) := e3
      have e4 : wr.cell? ⟨b, o + j * 5 + 4, Option.none⟩ = some (.int .i64 rm) := e4
      have HTM := Lib.hid hTm
      clear hat hat2 hx hx' hk0 hk1 hk2 hk3 htm hTm
      go_upto_region 7 with fail
      obtain ⟨X, hX⟩ : ∃ X, X = wr.alloc (.cells #[.int .u8 km, .int .i64 am, .int .i64 nm, .string (txtV sm), .int .i64 rm] 56) := ⟨_, rfl⟩
      have HPX : Hid (BlkN X wr.heap.size 56 #[.int .u8 km, .int .i64 am, .int .i64 nm, .string (txtV sm), .int .i64 rm]) := Lib.hid (by rw [hX]; exact BlkN.at_ rfl _ _)
      have HX : Hid (Below wr.heap.size wr X) := Lib.hid (by rw [hX]; exact (Below.refl _ _).alloc (Nat.le_refl _) _)
      rw [← hX]
      clear hX e0 e1 e2 e3 e4
      have p1 := HPX.out.cell 1 rfl
      have hpX := HPX.out.lt
      have d1 : decide (am < 0) = false := by rw [decide_eq_false_iff_not]; omega
      have d2 : decide ((line.size : Int) ≤ am) = false := by rw [decide_eq_false_iff_not]; omega
      obtain ⟨al, hTl⟩ : ∃ al, l[j] = Tk.mk km al nm sm rm := by
        have h := HK.out
        rw [HTM.out] at h
        refine ⟨l[j].at_, ?_⟩
        obtain ⟨g0, g1, g2, g3⟩ := h
        have g0 : km = l[j].k := g0
        have g1 : nm = l[j].n := g1
        have g2 : sm = l[j].s := g2
        have g3 : rm = l[j].r := g3
        rw [g0, g1, g2, g3]
      have HATL : Hid (∀ V, Below wr.heap.size wr V → V.cell? ⟨b', o' + j * 5, Option.none⟩ = some (.int .u8 km) ∧ V.cell? ⟨b', o' + j * 5 + 1, Option.none⟩ = some (.int .i64 al) ∧ V.cell? ⟨b', o' + j * 5 + 2, Option.none⟩ = some (.int .i64 nm) ∧ V.cell? ⟨b', o' + j * 5 + 3, Option.none⟩ = some (.string (txtV sm)) ∧ V.cell? ⟨b', o' + j * 5 + 4, Option.none⟩ = some (.int .i64 rm)) := Lib.hid (fun V hV => by
        have h := At.five' (HAT2.out.keep hb2l (fun b hb => hV.block b hb))
        rw [hTl] at h
        exact h)
      clear hTl
      have q1 := HPX.out.free 1
      obtain ⟨f0, f1, f2, f3, f4⟩ := HATL.out X HX.out
      by_cases hj0 : j = 0
      · have d3 : decide (0 < j) = false := by rw [decide_eq_false_iff_not]; omega
        clear hj0
        go_quiet (fail)
        clear d1 d2 d3
        go_upto_region 10 with fail
        obtain ⟨Y, hY⟩ : ∃ Y, Y = (X.drewN nq).setCell ⟨wr.heap.size, 1, Option.none⟩ (.int .i64 al) := ⟨_, rfl⟩
        have HPY : Hid (BlkN Y wr.heap.size 56 #[.int .u8 km, .int .i64 al, .int .i64 nm, .string (txtV sm), .int .i64 rm]) := Lib.hid (by rw [hY]; have := BlkN.set (show BlkN (X.drewN nq) wr.heap.size 56 _ from HPX.out) 1 (.int .i64 al); simpa using this)
        have HY : Hid (Below wr.heap.size wr Y) := Lib.hid (by rw [hY]; exact (belowN HX.out _).setCell (p := ⟨wr.heap.size, 1, Option.none⟩) (Nat.le_refl _) _)
        rw [← hY]
        clear hY p1 q1 f0 f1 f2 f3 f4 hpX
        obtain ⟨f0, f1, f2, f3, f4⟩ := HATL.out Y HY.out
        have p0 := HPY.out.cell 0 rfl
        have p1 := HPY.out.cell 1 rfl
        have p2 := HPY.out.cell 2 rfl
        have p3 := HPY.out.cell 3 rfl
        have p4 := HPY.out.cell 4 rfl
        go_quiet (fail)
        go_wp2_with fail
        go_roundw
        case rel => exact ⟨j + 1, by omega, by go_num, bnext HU.out (belowN HY.out _)⟩
        case measure => simp only [intOf]; omega
      · obtain ⟨i, hi⟩ : ∃ i, i + 1 = j := ⟨j - 1, by omega⟩
        have d3 : 0 < j := by omega
        have hq := (HATP.out i hi).keep hb1l (fun b hb => HX.out.block b hb)
        obtain ⟨pa, hpa⟩ : ∃ pa, pa = (m[i]'(by omega)).at_ := ⟨_, rfl⟩
        have q2 : X.cell? ⟨b, o + i * 5 + 1, Option.none⟩ = some (.int .i64 pa) := by rw [hpa]; exact (At.five' hq).2.1
        clear hq
        have hri := HRISE.out i hi
        rw [HTM.out, ← hpa] at hri
        have hri : pa < am := hri
        have d4 : decide (am ≤ pa) = false := by rw [decide_eq_false_iff_not]; omega
        have s0 : (0 : Int) ≤ (j : Int) - 1 := by omega
        have s2 : (j : Int) - 1 < m.length := by omega
        have s3 : ((j : Int) - 1).toNat = i := by omega
        have s1 : IntKind.i64.wrap ((j : Int) - 1) = (j : Int) - 1 := IntWalk.i64_in _ (by omega)
        clear hri hj0 hpa hi
        go_quiet (fail)
        clear d3 s0 s1 s2 s3 q2
        go_upto_region 10 with fail
        clear d1 d2 d4
        obtain ⟨Y, hY⟩ : ∃ Y, Y = (X.drewN nq).setCell ⟨wr.heap.size, 1, Option.none⟩ (.int .i64 al) := ⟨_, rfl⟩
        have HPY : Hid (BlkN Y wr.heap.size 56 #[.int .u8 km, .int .i64 al, .int .i64 nm, .string (txtV sm), .int .i64 rm]) := Lib.hid (by rw [hY]; have := BlkN.set (show BlkN (X.drewN nq) wr.heap.size 56 _ from HPX.out) 1 (.int .i64 al); simpa using this)
        have HY : Hid (Below wr.heap.size wr Y) := Lib.hid (by rw [hY]; exact (belowN HX.out _).setCell (p := ⟨wr.heap.size, 1, Option.none⟩) (Nat.le_refl _) _)
        rw [← hY]
        clear hY p1 q1 f0 f1 f2 f3 f4 hpX
        obtain ⟨f0, f1, f2, f3, f4⟩ := HATL.out Y HY.out
        have p0 := HPY.out.cell 0 rfl
        have p1 := HPY.out.cell 1 rfl
        have p2 := HPY.out.cell 2 rfl
        have p3 := HPY.out.cell 3 rfl
        have p4 := HPY.out.cell 4 rfl
        go_quiet (fail)
        go_wp2_with fail
        go_roundw
        case rel => exact ⟨j + 1, by omega, by go_num, bnext HU.out (belowN HY.out _)⟩
        case measure => simp only [intOf]; omega
    · obtain rfl : j = m.length := by omega
      go_wp2_with fail
      go_ret
      exact ⟨rfl, HU.out⟩
end Go.Proofs.YtkhpfghehjcfoaaDoor
