/- The document's side of CodeUses: Uses. -/
import Derived.Test.YtnknefdpglnbnaaXe
namespace Go.Proofs.Ytnknefdpglnbnaa
open Go Go.RowKit

/-- What the rows use. -/
def usesR (R : List RowX) : US := R.foldl (fun u r => usesStep u r.2.2) ⟨0, false, false⟩
theorem usesR_take (R : List RowX) (j : Nat) (h : j < R.length) : usesR (R.take (j + 1)) = usesStep (usesR (R.take j)) R[j].2.2 := by
  unfold usesR
  rw [List.take_succ_eq_append_getElem h, List.foldl_append]
  rfl
theorem usesR_eq (R : List RowX) : usesR R = usesF (R.map fun r => (r.1, r.2.2)) := by
  unfold usesR usesF
  rw [List.foldl_map]
theorem usesR_ok (R : List RowX) : (usesR R).ok := by rw [usesR_eq]; exact usesF_ok _
theorem or_join {a b : Int} (a0 : 0 ≤ a) (a1 : a < 64) (b0 : 0 ≤ b) (b1 : b < 64) : bits .or .u8 a b = joinI a b := by
  have h := joinI_nat a.toNat b (by omega)
  have h2 := or_nat0 ⟨a.toNat, by omega⟩ ⟨b.toNat, by omega⟩
  simp only at h2
  rw [show (b % 64).toNat = b.toNat by omega, ← h2] at h
  rw [show ((a.toNat : Nat) : Int) = a by omega, show ((b.toNat : Nat) : Int) = b by omega] at h
  exact h.symm
theorem may_ab {nm sec : ByteArray} {ab wh : Int} {a b : Ex} {t e c : List St} {ws : List ByteArray} (h : mayS (.mk 2 nm sec ab wh a b t e c ws) = true) (h0 : 0 ≤ ab) : ab < 64 := by
  simp [mayS] at h
  have h1 := h.1.1.1.1.2
  unfold oneI oneB mayB at h1
  simp at h1
  omega
theorem may_or {op : Int} {nm sec : ByteArray} {ab wh : Int} {a b : Ex} {t e c : List St} {ws : List ByteArray} (h : mayS (.mk op nm sec ab wh a b t e c ws) = true) : (namesX a).length ≤ 512 := (or_names (mayS_parts h).1).1
theorem uses_rows (l : List St) (h : (chkL l).2 = 0) : usesR (rowsX l) = usesL l := by
  have hc := chk_zero _ 0 (by omega) (by rw [← chkL_rows]; exact h)
  unfold usesL
  rw [if_pos h, usesR_eq, ← flatsI_flats l 0 false]
  unfold rowsX
  rw [List.take_of_length_le (by simp at hc; omega)]
theorem some_pos (l : List ByteArray) : decide (0 < l.length) = (false || !l.isEmpty) := by cases l <;> simp
theorem row_slice {w : World} {lo : Nat} {e : TypeId} {size : Nat} {v : Value} {n : Nat} {xs : List Value} (h : w.ownsRow lo e size v n xs) : ∃ A cap, v = .slice A n cap := by
  rcases h.2 with ⟨h1, h2⟩ | ⟨g, cap, cur, h1, _⟩
  · exact ⟨_, _, by rw [h2, h1]⟩
  · exact ⟨_, _, h1⟩
attribute [local irreducible] wpList
attribute [local go_sem] SV.g0 SV.g1 SV.g2 SV.g3 SV.g4 SV.g5 SV.g6 SV.g7 SV.g8 SV.g9 SV.g10 SV.g11 SV.g12 SV.g13 SV.g14 SV.g15 SV.g16
set_option maxRecDepth 100000 in
set_option maxHeartbeats 2000000 in
theorem RUses56_any (l : List St) (A : Option Addr) (len cap : Nat) (w : World) (B : Nat) (hB : B ≤ w.heap.size) (h : LR (fun b _ => b < B) 256 A len cap l (fun b o => IsSts w B b o l)) :
    Calls Try.prog 56 #[.slice A len cap] w fun e w' => e = .returned (.tuple #[.agg (usesL l).arr, .int .i64 ((chkL l).2 : Nat)]) ∧ Below w.heap.size w w' := by
  obtain ⟨i0, hi, hz0, hz1, hz2⟩ := info_parts info51
  obtain ⟨i8, hi8, hz80, hz81, hz82⟩ := info_parts info58
  have hb0 : Below w.heap.size w (w.alloc (.cells (⟨0, false, false⟩ : US).arr 51)) := (Below.refl _ _).alloc (Nat.le_refl _) _
  have HKL := Lib.hid (fun w' (hb : Below w.heap.size w w') => h.imp fun b o hr hp => (⟨hr, IsSts.keep (fun b hb' => hb.block b (by omega)) hr hp⟩ : _ ∧ IsSts w' B b o l))
  have HC := Lib.hid (Check29_any l A len cap (w.alloc (.cells (⟨0, false, false⟩ : US).arr 51)) B (by simp; omega) (HKL.out _ hb0))
  have HW := Lib.hid (fun w' (hb : Below w.heap.size w w') => Walk51_any l A len cap w' B (Nat.le_trans hB hb.size) (HKL.out w' hb))
  have HQ : Hid (BlkN (w.alloc (.cells (⟨0, false, false⟩ : US).arr 51)) w.heap.size 51 (⟨0, false, false⟩ : US).arr) := Lib.hid (BlkN.at_ rfl _ _)
  have HB0 := Lib.hid hb0
  have HL : (rowsX l).length ≤ 513 := by unfold rowsX; simp; omega
  clear h hb0
  by_cases hz : (chkL l).2 = 0
  · have HZ := Lib.hid hz
    have HUS := Lib.hid (uses_rows l hz)
    have HM := Lib.hid (rows_may l hz)
    rw [hz] at HC
    obtain ⟨va, hva⟩ : ∃ va, va = (chkL l).1 := ⟨_, rfl⟩
    rw [← hva] at HC
    obtain ⟨R, hR⟩ : ∃ R, R = rowsX l := ⟨_, rfl⟩
    rw [← hR] at HW HL HM HUS
    clear hz hva hR
    go_enter Try.func56, Try.ntmps56
    go_upto_region 5 with (go_at_call 29; refine (HC.out).mono ?_; rintro e w1 ⟨rfl, hb1⟩)
    have hq1 := HQ.out.below hb1
    have hb2 : Below w.heap.size w w1 := HB0.out.trans (hb1.mono (by simp))
    have hlt1 : w.heap.size < w1.heap.size := by have := hb1.size; simp at this; omega
    obtain ⟨w2, hw2⟩ : ∃ w2, w2 = w1.alloc (.cells (⟨0, false, false⟩ : US).arr 51) := ⟨_, rfl⟩
    have hp2 : BlkN w2 w1.heap.size 51 (⟨0, false, false⟩ : US).arr := by rw [hw2]; exact BlkN.at_ rfl _ _
    have hq2 : BlkN w2 w.heap.size 51 (⟨0, false, false⟩ : US).arr := by rw [hw2]; exact hq1.alloc _
    have hb3 : Below w.heap.size w w2 := by rw [hw2]; exact hb2.alloc hb2.size _
    have hlt2 : w1.heap.size < w2.heap.size := by rw [hw2]; simp
    have e2 : w1.alloc (.cells #[.int .u8 0, .bool false, .bool false] 51) = w2 := hw2.symm
    rw [e2]
    clear hw2 hq1 hb2 hb1 e2
    go_wp2_with (go_at_call 51; refine (HW.out w2 hb3).mono ?_; rintro e w3 ⟨sl, xs, rfl, hrow, hb4⟩)
    obtain ⟨A1, cap1, rfl, hcap1, hne⟩ := hrow.list
    have HNE := Lib.hid hne
    have hp3 := hp2.below hb4
    have hq3 := hq2.below hb4
    have hb5 : Below w.heap.size w w3 := hb3.trans (hb4.mono hb3.size)
    have hlt3 := hb4.size
    clear hne hb4 hrow HW HC hp2 hq2 hb3
    obtain ⟨q, hq⟩ : ∃ q, q = w1.heap.size := ⟨_, rfl⟩
    rw [← hq] at hp3 hlt1 hlt2 ⊢
    have HP3 := Lib.hid hp3
    have HQ3 := Lib.hid hq3
    have HB5 := Lib.hid hb5
    have HQL : Hid (w.heap.size < q) := Lib.hid hlt1
    have HQL3 : Hid (q < w3.heap.size) := Lib.hid (by omega)
    have HQL2 : Hid (q < w2.heap.size) := Lib.hid hlt2
    clear hp3 hq3 hb5 hq hlt1 hlt2 hlt3
    go_loopw [8] (fun i wr => ∃ j : Nat, j ≤ R.length ∧ i = .int .i64 j ∧ BlkN wr q 51 (usesR (R.take j)).arr ∧ Kp (fun b => b = q) q w3 wr) (fun i _ => R.length - (intOf i).toNat)
    case atStart => exact ⟨0, Nat.zero_le _, rfl, HP3.out, Kp.refl⟩
    case round =>
      obtain ⟨W, rfl⟩ : ∃ W : World, W = wr := ⟨_, rfl⟩
      obtain ⟨j, hj, rfl, hr, hk⟩ := hrel
      have HR := Lib.hid hr
      have HK := Lib.hid hk
      by_cases hlt : j < R.length
      · obtain ⟨g, hg, hA, hall⟩ := HNE.out (by rintro rfl; simp at hlt)
        obtain ⟨cs, hcs, hat, s, hcs2, hst⟩ := hall j hlt
        rw [hcs2] at hat
        have hat2 := hat.tail.tail
        rw [show 0 + j * 19 + 1 + 1 = j * 19 + 2 by omega] at hat2
        have hgq : g ≠ q := by have h1 := HQL2.out; have h2 := HQL.out; have h3 := hg.1; omega
        have HAT : Hid (At W g (j * 19 + 2) s.arr.toList) := Lib.hid (fun k v hv => (World.cell?_of_block (w := w3) (a := ⟨g, j * 19 + 2 + k, Option.none⟩) (HK.out.block g hg.2 hgq hgq)).trans (hat2 k v hv))
        have HUT := Lib.hid (usesR_take R j hlt)
        have hok := usesR_ok (R.take j)
        obtain ⟨y, hy⟩ : ∃ y, y = R[j].2.2 := ⟨_, rfl⟩
        have HMY : Hid (mayS y = true) := Lib.hid (by rw [hy]; exact HM.out R[j] (List.getElem_mem hlt))
        rw [← hy] at hst HUT
        obtain ⟨op, nm, sec, ab, wh, xa, xb, t, e, c, ws⟩ := y
        obtain ⟨⟨g1, -, -, g4, -⟩, ⟨b1, b2, b3, b4, -⟩, hxa, -⟩ := IsStR.form hst
        have HX := Lib.hid hxa
        have h17 := s.size
        obtain ⟨⟨ua, um, ur⟩, hu⟩ : ∃ u, u = usesR (R.take j) := ⟨_, rfl⟩
        rw [← hu] at hr hok HUT
        obtain ⟨u0, u1⟩ := hok
        simp only at u0 u1
        have HR := Lib.hid hr
        have r0 : W.cell? ⟨q, 0, Option.none⟩ = some (.int .u8 ua) := hr.cell 0 rfl
        have r1 : W.cell? ⟨q, 1, Option.none⟩ = some (.bool um) := hr.cell 1 rfl
        have r2 : W.cell? ⟨q, 2, Option.none⟩ = some (.bool ur) := hr.cell 2 rfl
        have f0 := hr.free 0
        have f1 := hr.free 1
        have f2 := hr.free 2
        have hqW := hr.lt
        subst hA
        clear hall hat hat2 hst hcs hcs2 hr hk hxa hu hy hgq
        have hw : wrap64 s.op = op := by rw [g1]; unfold wrap64; omega
        clear g1
        by_cases k2 : op = 2
        · have t2 : (wrap64 s.op == 2) = true := by rw [hw, k2]; rfl
          clear hw
          go_wp2_with (first
            | (refine wpList_load_blk rfl 58 (.tmp 30) rfl ⟨g, j * 19 + 2, Option.none⟩ rfl (.agg s.arr) (run_loadVar_at Try.underlying58 hi8 HAT.out (by rw [hz81]; rfl)) ?_)
            | (refine wpList_store_blk rfl 58 (.tmp 9) (.tmp 31) rfl i8 hi8 W.heap.size s.arr rfl rfl 58 _ (BlkN.at_ rfl 58 SV.zero.arr) (by rw [hz81]; rfl) rfl (SV.one _) ?_; intro w5 hB5 hbut5; have hbl5 := hbut5.below (Nat.le_refl _) ((Below.refl W.heap.size W).alloc (Nat.le_refl _) _); have HBL := Lib.hid hbl5; have c0 := hB5.cell 0 s.at0; have c3 := hB5.cell 3 s.at3; have c5 := hB5.cell 5 s.at5; have c6 := hB5.cell 6 s.at6; have c7 := hB5.cell 7 s.at7; have c8 := hB5.cell 8 s.at8; have y := HR.out.below hbl5; have HR5 := Lib.hid y; have r0 : w5.cell? ⟨q, 0, Option.none⟩ = some (.int .u8 ua) := y.cell 0 rfl; have r1 : w5.cell? ⟨q, 1, Option.none⟩ = some (.bool um) := y.cell 1 rfl; have r2 : w5.cell? ⟨q, 2, Option.none⟩ = some (.bool ur) := y.cell 2 rfl; have f0 := y.free 0; have f1 := y.free 1; have f2 := y.free 2; have hs5 := hbl5.size; clear hbl5 hB5 hbut5 y))
          go_roundw
          case rel => exact ⟨j + 1, by omega, by go_num, by rw [HUT.out]; simp only [usesStep, if_pos k2]; rw [← or_join u0 u1 b3 (may_ab (by rw [← k2]; exact HMY.out) b3), ← g4]; exact HR5.out.set 0 _, (HK.out.trans (Kp.of_below HBL.out)).trans ((Kp.refl (O := fun b => b = q) (p := q)).set ⟨q, 0, Option.none⟩ rfl _)⟩
          case measure => simp [intOf]; omega
        have t2 : (wrap64 s.op == 2) = false := by rw [hw]; simpa using k2
        by_cases k9 : op = 9
        · have t9 : (wrap64 s.op == 9) = true := by rw [hw, k9]; rfl
          clear hw
          go_wp2_with (first
            | (refine wpList_load_blk rfl 58 (.tmp 30) rfl ⟨g, j * 19 + 2, Option.none⟩ rfl (.agg s.arr) (run_loadVar_at Try.underlying58 hi8 HAT.out (by rw [hz81]; rfl)) ?_)
            | (refine wpList_store_blk rfl 58 (.tmp 9) (.tmp 31) rfl i8 hi8 W.heap.size s.arr rfl rfl 58 _ (BlkN.at_ rfl 58 SV.zero.arr) (by rw [hz81]; rfl) rfl (SV.one _) ?_; intro w5 hB5 hbut5; have hbl5 := hbut5.below (Nat.le_refl _) ((Below.refl W.heap.size W).alloc (Nat.le_refl _) _); have HBL := Lib.hid hbl5; have c0 := hB5.cell 0 s.at0; have c3 := hB5.cell 3 s.at3; have c5 := hB5.cell 5 s.at5; have c6 := hB5.cell 6 s.at6; have c7 := hB5.cell 7 s.at7; have c8 := hB5.cell 8 s.at8; have y := HR.out.below hbl5; have HR5 := Lib.hid y; have r0 : w5.cell? ⟨q, 0, Option.none⟩ = some (.int .u8 ua) := y.cell 0 rfl; have r1 : w5.cell? ⟨q, 1, Option.none⟩ = some (.bool um) := y.cell 1 rfl; have r2 : w5.cell? ⟨q, 2, Option.none⟩ = some (.bool ur) := y.cell 2 rfl; have f0 := y.free 0; have f1 := y.free 1; have f2 := y.free 2; have hs5 := hbl5.size; clear hbl5 hB5 hbut5 y))
          go_roundw
          case rel => exact ⟨j + 1, by omega, by go_num, by rw [HUT.out]; simp only [usesStep, if_neg k2, if_pos k9]; rw [← or_join u0 u1 (by omega) (by omega)]; exact HR5.out.set 0 _, (HK.out.trans (Kp.of_below HBL.out)).trans ((Kp.refl (O := fun b => b = q) (p := q)).set ⟨q, 0, Option.none⟩ rfl _)⟩
          case measure => simp [intOf]; omega
        have t9 : (wrap64 s.op == 9) = false := by rw [hw]; simpa using k9
        by_cases k3 : op = 3
        · have t3 : (wrap64 s.op == 3) = true := by rw [hw, k3]; rfl
          clear hw
          go_wp2_with (first
            | (refine wpList_load_blk rfl 58 (.tmp 30) rfl ⟨g, j * 19 + 2, Option.none⟩ rfl (.agg s.arr) (run_loadVar_at Try.underlying58 hi8 HAT.out (by rw [hz81]; rfl)) ?_)
            | (refine wpList_store_blk rfl 58 (.tmp 9) (.tmp 31) rfl i8 hi8 W.heap.size s.arr rfl rfl 58 _ (BlkN.at_ rfl 58 SV.zero.arr) (by rw [hz81]; rfl) rfl (SV.one _) ?_; intro w5 hB5 hbut5; have hbl5 := hbut5.below (Nat.le_refl _) ((Below.refl W.heap.size W).alloc (Nat.le_refl _) _); have HBL := Lib.hid hbl5; have c0 := hB5.cell 0 s.at0; have c3 := hB5.cell 3 s.at3; have c5 := hB5.cell 5 s.at5; have c6 := hB5.cell 6 s.at6; have c7 := hB5.cell 7 s.at7; have c8 := hB5.cell 8 s.at8; have y := HR.out.below hbl5; have HR5 := Lib.hid y; have r0 : w5.cell? ⟨q, 0, Option.none⟩ = some (.int .u8 ua) := y.cell 0 rfl; have r1 : w5.cell? ⟨q, 1, Option.none⟩ = some (.bool um) := y.cell 1 rfl; have r2 : w5.cell? ⟨q, 2, Option.none⟩ = some (.bool ur) := y.cell 2 rfl; have f0 := y.free 0; have f1 := y.free 1; have f2 := y.free 2; have hs5 := hbl5.size; clear hbl5 hB5 hbut5 y))
          go_roundw
          case rel => exact ⟨j + 1, by omega, by go_num, by rw [HUT.out]; simp only [usesStep, if_neg k2, if_neg k9, if_pos k3]; exact HR5.out.set 1 _, (HK.out.trans (Kp.of_below HBL.out)).trans ((Kp.refl (O := fun b => b = q) (p := q)).set ⟨q, 1, Option.none⟩ rfl _)⟩
          case measure => simp [intOf]; omega
        have t3 : (wrap64 s.op == 3) = false := by rw [hw]; simpa using k3
        by_cases k7 : op = 7
        rotate_left
        · have t7 : (wrap64 s.op == 7) = false := by rw [hw]; simpa using k7
          clear hw
          go_wp2_with (first
            | (refine wpList_load_blk rfl 58 (.tmp 30) rfl ⟨g, j * 19 + 2, Option.none⟩ rfl (.agg s.arr) (run_loadVar_at Try.underlying58 hi8 HAT.out (by rw [hz81]; rfl)) ?_)
            | (refine wpList_store_blk rfl 58 (.tmp 9) (.tmp 31) rfl i8 hi8 W.heap.size s.arr rfl rfl 58 _ (BlkN.at_ rfl 58 SV.zero.arr) (by rw [hz81]; rfl) rfl (SV.one _) ?_; intro w5 hB5 hbut5; have hbl5 := hbut5.below (Nat.le_refl _) ((Below.refl W.heap.size W).alloc (Nat.le_refl _) _); have HBL := Lib.hid hbl5; have c0 := hB5.cell 0 s.at0; have c3 := hB5.cell 3 s.at3; have c5 := hB5.cell 5 s.at5; have c6 := hB5.cell 6 s.at6; have c7 := hB5.cell 7 s.at7; have c8 := hB5.cell 8 s.at8; have y := HR.out.below hbl5; have HR5 := Lib.hid y; have r0 : w5.cell? ⟨q, 0, Option.none⟩ = some (.int .u8 ua) := y.cell 0 rfl; have r1 : w5.cell? ⟨q, 1, Option.none⟩ = some (.bool um) := y.cell 1 rfl; have r2 : w5.cell? ⟨q, 2, Option.none⟩ = some (.bool ur) := y.cell 2 rfl; have f0 := y.free 0; have f1 := y.free 1; have f2 := y.free 2; have hs5 := hbl5.size; clear hbl5 hB5 hbut5 y))
          go_roundw
          case rel => exact ⟨j + 1, by omega, by go_num, by rw [HUT.out]; simp only [usesStep, if_neg k2, if_neg k9, if_neg k3, if_neg k7]; exact HR5.out, HK.out.trans (Kp.of_below HBL.out)⟩
          case measure => simp [intOf]; omega
        have t7 : (wrap64 s.op == 7) = true := by rw [hw, k7]; rfl
        have hN := may_or HMY.out
        have HX5 : Hid (∀ v, Below W.heap.size W v → IsEx v v.heap.size (.agg #[.int .u8 s.a0, .int .i64 s.a1, .string s.a2, .slice s.aA s.al s.ac]) xa) := Lib.hid (fun v hv => IsExR.mono (R := RN B w2.heap.size w3) (fun b o hb => Nat.lt_of_lt_of_le hb.2 (Nat.le_trans HK.out.size hv.size)) (IsExR.keep (fun b o hb => (hv.block b (Nat.lt_of_lt_of_le hb.2 HK.out.size)).trans (HK.out.block b hb.2 (by have h1 := HQL2.out; have h2 := HQL.out; have h3 := hb.1; omega) (by have h1 := HQL2.out; have h2 := HQL.out; have h3 := hb.1; omega))) HX.out))
        clear hw
        cases ur
        · go_wp2_with (first
            | (refine wpList_load_blk rfl 58 (.tmp 30) rfl ⟨g, j * 19 + 2, Option.none⟩ rfl (.agg s.arr) (run_loadVar_at Try.underlying58 hi8 HAT.out (by rw [hz81]; rfl)) ?_)
            | (refine wpList_store_blk rfl 58 (.tmp 9) (.tmp 31) rfl i8 hi8 W.heap.size s.arr rfl rfl 58 _ (BlkN.at_ rfl 58 SV.zero.arr) (by rw [hz81]; rfl) rfl (SV.one _) ?_; intro w5 hB5 hbut5; have hbl5 := hbut5.below (Nat.le_refl _) ((Below.refl W.heap.size W).alloc (Nat.le_refl _) _); have HBL := Lib.hid hbl5; have c0 := hB5.cell 0 s.at0; have c3 := hB5.cell 3 s.at3; have c5 := hB5.cell 5 s.at5; have c6 := hB5.cell 6 s.at6; have c7 := hB5.cell 7 s.at7; have c8 := hB5.cell 8 s.at8; have y := HR.out.below hbl5; have HR5 := Lib.hid y; have r0 : w5.cell? ⟨q, 0, Option.none⟩ = some (.int .u8 ua) := y.cell 0 rfl; have r1 : w5.cell? ⟨q, 1, Option.none⟩ = some (.bool um) := y.cell 1 rfl; have r2 : w5.cell? ⟨q, 2, Option.none⟩ = some (.bool false) := y.cell 2 rfl; have f0 := y.free 0; have f1 := y.free 1; have f2 := y.free 2; have hs5 := hbl5.size; clear hbl5 hB5 hbut5 y)
            | (go_at_call 97; have C := Lib.hid (named97_any xa w5 w5.heap.size (.agg #[.int .u8 s.a0, .int .i64 s.a1, .string s.a2, .slice s.aA s.al s.ac]) (HX5.out w5 HBL.out) (Nat.le_refl _) (by omega)); (with_reducible refine (C.out).mono ?_); rintro e6 w6 ⟨sl6, rfl, hr6, hb6⟩; have HR6 := Lib.hid (HR5.out.below hb6); have HB6 := Lib.hid (HBL.out.trans (hb6.mono hs5)); obtain ⟨A6, cap6, rfl⟩ := row_slice hr6; have f2 := HR6.out.free 2; have r2 : w6.cell? ⟨q, 2, Option.none⟩ = some (.bool false) := HR6.out.cell 2 rfl; clear hb6 hr6))
          go_roundw
          case rel => exact ⟨j + 1, by omega, by go_num, by rw [HUT.out]; simp only [usesStep, if_neg k2, if_neg k9, if_neg k3, if_pos k7]; rw [← some_pos]; exact HR6.out.set 2 _, (HK.out.trans (Kp.of_below HB6.out)).trans ((Kp.refl (O := fun b => b = q) (p := q)).set ⟨q, 2, Option.none⟩ rfl _)⟩
          case measure => simp [intOf]; omega
        · go_wp2_with (first
            | (refine wpList_load_blk rfl 58 (.tmp 30) rfl ⟨g, j * 19 + 2, Option.none⟩ rfl (.agg s.arr) (run_loadVar_at Try.underlying58 hi8 HAT.out (by rw [hz81]; rfl)) ?_)
            | (refine wpList_store_blk rfl 58 (.tmp 9) (.tmp 31) rfl i8 hi8 W.heap.size s.arr rfl rfl 58 _ (BlkN.at_ rfl 58 SV.zero.arr) (by rw [hz81]; rfl) rfl (SV.one _) ?_; intro w5 hB5 hbut5; have hbl5 := hbut5.below (Nat.le_refl _) ((Below.refl W.heap.size W).alloc (Nat.le_refl _) _); have HBL := Lib.hid hbl5; have c0 := hB5.cell 0 s.at0; have c3 := hB5.cell 3 s.at3; have c5 := hB5.cell 5 s.at5; have c6 := hB5.cell 6 s.at6; have c7 := hB5.cell 7 s.at7; have c8 := hB5.cell 8 s.at8; have y := HR.out.below hbl5; have HR5 := Lib.hid y; have r0 : w5.cell? ⟨q, 0, Option.none⟩ = some (.int .u8 ua) := y.cell 0 rfl; have r1 : w5.cell? ⟨q, 1, Option.none⟩ = some (.bool um) := y.cell 1 rfl; have r2 : w5.cell? ⟨q, 2, Option.none⟩ = some (.bool true) := y.cell 2 rfl; have f0 := y.free 0; have f1 := y.free 1; have f2 := y.free 2; have hs5 := hbl5.size; clear hbl5 hB5 hbut5 y))
          go_roundw
          case rel => exact ⟨j + 1, by omega, by go_num, by rw [HUT.out]; simp only [usesStep, if_neg k2, if_neg k9, if_neg k3, if_pos k7]; exact HR5.out.set 2 _, (HK.out.trans (Kp.of_below HBL.out)).trans ((Kp.refl (O := fun b => b = q) (p := q)).set ⟨q, 2, Option.none⟩ rfl _)⟩
          case measure => simp [intOf]; omega
      · obtain rfl : j = R.length := by omega
        rw [List.take_length, HUS.out] at hr
        have HF := Lib.hid hr
        have hb9 : Below w.heap.size w W := ⟨hk.os.trans HB5.out.os, hk.tape.trans HB5.out.tape, hk.output.trans HB5.out.output, Nat.le_trans HB5.out.size hk.size, fun b hb => (hk.block b (Nat.lt_of_lt_of_le hb HB5.out.size) (by have := HQL.out; omega) (by have := HQL.out; omega)).trans (HB5.out.block b hb)⟩
        have hq9 : BlkN W w.heap.size 51 (⟨0, false, false⟩ : US).arr := (hk.block _ (by have := HQL.out; have := HQL3.out; omega) (by have := HQL.out; omega) (by have := HQL.out; omega)).trans HQ3.out
        have HB9 := Lib.hid hb9
        have HQ9 := Lib.hid hq9
        clear hr hk hb9 hq9
        go_wp2_with (first | (refine wpList_load_blk rfl 51 (.tmp 6) rfl ⟨q, 0, Option.none⟩ rfl (.agg (usesL l).arr) (run_loadVar_blk Try.underlying51 hi HF.out (by rw [hz1]; rfl)) ?_) | (refine wpList_store_blk rfl 51 (.tmp 2) (.tmp 64) rfl i0 hi w.heap.size (usesL l).arr rfl rfl 51 _ HQ9.out (by rw [hz1]; rfl) rfl (US.one _) ?_; intro w4 hB4 hbut))
        refine bodyPost_ret (results_cell2 (s := 2) (t := 3) (b := w.heap.size) rfl Try.underlying51 hi rfl hB4 (by rw [hz1]; rfl) rfl) rfl ⟨?_, hbut.below (Nat.le_refl _) HB9.out⟩
        rw [HZ.out]
        rfl
  · have HZ := Lib.hid hz
    have hne2 : ((((chkL l).2 : Nat) : Int) != 0) = true := by simp; omega
    obtain ⟨va, hva⟩ : ∃ va, va = (chkL l).1 := ⟨_, rfl⟩
    obtain ⟨ve, hve⟩ : ∃ ve, ve = (chkL l).2 := ⟨_, rfl⟩
    rw [← hve] at HC hne2
    rw [← hva] at HC
    have HVE := Lib.hid hve
    clear hz hve hva
    go_enter Try.func56, Try.ntmps56
    go_upto_region 3 with (go_at_call 29; refine (HC.out).mono ?_; rintro e w1 ⟨rfl, hb1⟩)
    have hq1 := HQ.out.below hb1
    have hb2 : Below w.heap.size w w1 := HB0.out.trans (hb1.mono (by simp))
    have hlt1 : w.heap.size < w1.heap.size := by have := hb1.size; simp at this; omega
    obtain ⟨w2, hw2⟩ : ∃ w2, w2 = w1.alloc (.cells (⟨0, false, false⟩ : US).arr 51) := ⟨_, rfl⟩
    have hp2 : BlkN w2 w1.heap.size 51 (⟨0, false, false⟩ : US).arr := by rw [hw2]; exact BlkN.at_ rfl _ _
    have hq2 : BlkN w2 w.heap.size 51 (⟨0, false, false⟩ : US).arr := by rw [hw2]; exact hq1.alloc _
    have hb3 : Below w.heap.size w w2 := by rw [hw2]; exact hb2.alloc hb2.size _
    have e2 : w1.alloc (.cells #[.int .u8 0, .bool false, .bool false] 51) = w2 := hw2.symm
    rw [e2]
    obtain ⟨q, hq⟩ : ∃ q, q = w1.heap.size := ⟨_, rfl⟩
    rw [← hq] at hp2 ⊢
    have HP2 := Lib.hid hp2
    have HQ2 := Lib.hid hq2
    have HB3 := Lib.hid hb3
    clear hw2 hq1 hb2 hb1 e2 hq hp2 hq2 hb3
    go_wp2_with (first | (refine wpList_load_blk rfl 51 (.tmp 6) rfl ⟨q, 0, Option.none⟩ rfl (.agg (⟨0, false, false⟩ : US).arr) (run_loadVar_blk Try.underlying51 hi HP2.out (by rw [hz1]; rfl)) ?_) | (refine wpList_store_blk rfl 51 (.tmp 2) (.tmp 17) rfl i0 hi w.heap.size (⟨0, false, false⟩ : US).arr rfl rfl 51 _ HQ2.out (by rw [hz1]; rfl) rfl (US.one _) ?_; intro w4 hB4 hbut))
    refine bodyPost_ret (results_cell2 (s := 2) (t := 3) (b := w.heap.size) rfl Try.underlying51 hi rfl hB4 (by rw [hz1]; rfl) rfl) rfl ⟨?_, hbut.below (Nat.le_refl _) HB3.out⟩
    simp only [usesL, if_neg HZ.out]
    rw [← HVE.out]
    rfl
end Go.Proofs.Ytnknefdpglnbnaa
