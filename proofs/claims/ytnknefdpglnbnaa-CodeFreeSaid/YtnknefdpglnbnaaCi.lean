/- The document's Walk, Check, May, Size, walked: they answer as the program. -/
import Derived.Test.YtnknefdpglnbnaaCh
import Derived.Test.YtnknefdpglnbnaaZk
namespace Go.Proofs.Ytnknefdpglnbnaa
open Go.RowKit

theorem chk_at (L : List St) (i k : Nat) (hk : k < L.length) (h : ∀ j (hj : j < k), mayS (L[j]'(by omega)) = true) (hik : i + k ≤ 512) (hx : i + k = 512 ∨ mayS L[k] = false) : chk L i = (i + k, if i + k = 512 then 4 else 160) := by
  induction L generalizing i k with
  | nil => simp at hk
  | cons x L ih =>
    cases k with
    | zero =>
      simp only [Nat.add_zero, List.getElem_cons_zero] at *
      unfold chk
      by_cases hc : i = 512
      · simp [hc]
      · simp [hc, hx.resolve_left hc]
    | succ k =>
      have h0 := h 0 (by omega)
      simp only [List.getElem_cons_zero] at h0
      unfold chk
      rw [if_neg (by omega), if_pos h0, ih (i + 1) k (by simpa using hk) (fun j hj => by have := h (j + 1) (by omega); simpa using this) (by omega) (hx.imp (fun h => by omega) (fun h => by simpa using h)), show i + 1 + k = i + (k + 1) by omega]
theorem chk_none (L : List St) (i : Nat) (h : ∀ j (hj : j < L.length), mayS L[j] = true) (hi : i + L.length ≤ 512) : chk L i = (0, 0) := by
  induction L generalizing i with
  | nil => rfl
  | cons x L ih =>
    have h0 := h 0 (by simp)
    simp only [List.getElem_cons_zero] at h0
    simp only [List.length_cons] at hi
    unfold chk
    rw [if_neg (by omega), if_pos h0]
    exact ih (i + 1) (fun j hj => by have := h (j + 1) (by simpa using hj); simpa using this) (by omega)
/-- The rows of a code. -/
def rowsX (l : List St) : List RowX := (flatsI l 0 false).take 513
theorem chkL_rows (l : List St) : chkL l = chk ((flatsI l 0 false).map (·.2.2)) 0 := by
  unfold chkL
  rw [← flatsI_flats l 0 false, List.map_map]
  rfl
theorem rows_at (l : List St) (k : Nat) (hk : k < (rowsX l).length) : ∃ h : k < ((flatsI l 0 false).map (·.2.2)).length, ((flatsI l 0 false).map (·.2.2))[k] = (rowsX l)[k].2.2 := by
  unfold rowsX at *
  simp at hk
  refine ⟨by simp; omega, ?_⟩
  simp
theorem rows_len (l : List St) : (rowsX l).length = min 513 (flats l 0).length := by
  unfold rowsX
  rw [← flatsI_flats l 0 false]
  simp
/-- The first row that may not be. -/
theorem rows_bad (l : List St) (k : Nat) (hk : k < (rowsX l).length) (h : ∀ j (hj : j < k), mayS ((rowsX l)[j]'(by omega)).2.2 = true) (hk2 : k < 512) (hx : mayS (rowsX l)[k].2.2 = false) : chkL l = (k, 160) := by
  obtain ⟨h1, h2⟩ := rows_at l k hk
  rw [chkL_rows, chk_at _ 0 k h1 (fun j hj => by rw [(rows_at l j (by omega)).2]; exact h j hj) (by omega) (.inr (by rw [h2]; exact hx)), Nat.zero_add, if_neg (by omega)]
theorem rows_long (l : List St) (hk : 512 < (rowsX l).length) (h : ∀ j (hj : j < 512), mayS ((rowsX l)[j]'(by omega)).2.2 = true) : chkL l = (512, 4) := by
  obtain ⟨h1, h2⟩ := rows_at l 512 hk
  rw [chkL_rows, chk_at _ 0 512 h1 (fun j hj => by rw [(rows_at l j (by omega)).2]; exact h j hj) (by omega) (.inl rfl)]
  rfl
theorem rows_all (l : List St) (hk : (rowsX l).length ≤ 512) (h : ∀ j (hj : j < (rowsX l).length), mayS (rowsX l)[j].2.2 = true) : chkL l = (0, 0) := by
  have h1 : (rowsX l).length = (flatsI l 0 false).length := by unfold rowsX at *; simp at hk ⊢; omega
  rw [chkL_rows]
  refine chk_none _ 0 (fun j hj => ?_) (by simp; omega)
  have hj' : j < (rowsX l).length := by simp at hj; omega
  rw [(rows_at l j hj').2]
  exact h j hj'
set_option maxRecDepth 100000 in
set_option maxHeartbeats 1000000 in
theorem Walk51_any (l : List St) (A : Option Addr) (len cap : Nat) (w : World) (B : Nat) (hB : B ≤ w.heap.size) (h : LR (fun b _ => b < B) 256 A len cap l (fun b o => IsSts w B b o l)) :
    Calls Try.prog 51 #[.slice A len cap] w fun e w' => ∃ sl xs, e = .returned sl ∧ GRow RdW 84 19 w' B w.heap.size sl (rowsX l) xs ∧ Below w.heap.size w w' := by
  have HC := Lib.hid (walk90_any l w B w.heap.size A len cap 0 false (.slice Option.none 0 0) [] [] h (GRow.nil _ _ _ _ _ _) hB (Nat.le_refl _) (by omega) (by simp) (by simp))
  have HE : Hid (walkX l 0 false [] = rowsX l) := Lib.hid (by rw [walkX_eq l 0 false [] (by simp), rowsX, List.nil_append])
  clear h
  rw [HE.out] at HC
  go_enter Try.func51, Try.ntmps51
  go_wp2_with (go_at_call 90; refine HC.out.mono ?_; rintro e w1 ⟨sl, xs, rfl, h1, h2⟩)
  go_ret
  exact ⟨_, xs, rfl, h1, ⟨h2.grown.os, h2.grown.tape, h2.grown.output, h2.grown.size, fun k hk => h2.grown.block k hk (by simp [Value.ownBlock])⟩⟩
theorem At.tail {w : World} {b o : Nat} {c : Value} {cs : List Value} (h : At w b o (c :: cs)) : At w b (o + 1) cs := fun j v hv => by
  have := h (j + 1) v (by simpa using hv)
  rw [show o + (j + 1) = o + 1 + j by omega] at this
  exact this
set_option maxRecDepth 100000 in
set_option maxHeartbeats 1000000 in
theorem Check29_any (l : List St) (A : Option Addr) (len cap : Nat) (w : World) (B : Nat) (hB : B ≤ w.heap.size) (h : LR (fun b _ => b < B) 256 A len cap l (fun b o => IsSts w B b o l)) :
    Calls Try.prog 29 #[.slice A len cap] w fun e w' => e = .returned (.tuple #[.int .i64 ((chkL l).1 : Nat), .int .i64 ((chkL l).2 : Nat)]) ∧ Below w.heap.size w w' := by
  have HW := Lib.hid (Walk51_any l A len cap w B hB h)
  obtain ⟨va, hva⟩ : ∃ va, va = (chkL l).1 := ⟨_, rfl⟩
  obtain ⟨ve, hve⟩ : ∃ ve, ve = (chkL l).2 := ⟨_, rfl⟩
  rw [← hva, ← hve]
  have HVA := Lib.hid hva
  have HVE := Lib.hid hve
  have H1 := Lib.hid (rows_bad l)
  have H2 := Lib.hid (rows_long l)
  have H3 := Lib.hid (rows_all l)
  have HL : (rowsX l).length ≤ 513 := by unfold rowsX; simp; omega
  obtain ⟨R, hR⟩ : ∃ R, R = rowsX l := ⟨_, rfl⟩
  rw [← hR] at HW HL
  have HRR := Lib.hid hR
  clear h hva hve hR
  obtain ⟨i0, hi, hz0, hz1, hz2⟩ := info_parts info58
  go_enter Try.func29, Try.ntmps29
  go_wp2_with (go_at_call 51; refine HW.out.mono ?_; rintro e w1 ⟨sl, xs, rfl, hrow, hb1⟩)
  obtain ⟨A1, cap1, rfl, hcap1, hne⟩ := hrow.list
  have HNE := Lib.hid hne
  have HB1 := Lib.hid hb1
  clear hne hb1 hrow HW
  go_loopw [5] (fun i wr => ∃ j : Nat, j ≤ R.length ∧ j ≤ 512 ∧ i = .int .i64 j ∧ (∀ k (hk : k < j) (hl : k < R.length), mayS R[k].2.2 = true) ∧ Below w1.heap.size w1 wr) (fun i _ => R.length - (intOf i).toNat)
  case atStart => exact ⟨0, by omega, by omega, rfl, fun k hk => by omega, Below.refl _ _⟩
  case round =>
    obtain ⟨j, hj, hj5, rfl, hn, hb⟩ := hrel
    have HN := Lib.hid hn
    have HB := Lib.hid hb
    have hbs := hb.size
    clear hn hb
    by_cases hlt : j < R.length
    rotate_left
    · obtain rfl : j = R.length := by omega
      go_wp2_with fail
      go_ret2
      have hE : chkL l = (0, 0) := H3.out (by rw [← HRR.out]; exact hj5) (fun k hk => by
        have := HN.out k (by rw [HRR.out]; exact hk) (by rw [HRR.out]; exact hk)
        simpa [HRR.out] using this)
      refine ⟨?_, bnext HB1.out HB.out⟩
      rw [HVA.out, HVE.out, hE]
      rfl
    by_cases h5 : j < 512
    rotate_left
    · obtain rfl : j = 512 := by omega
      go_wp2_with fail
      go_ret2
      have hE : chkL l = (512, 4) := H2.out (by rw [← HRR.out]; exact hlt) (fun k hk => by
        have := HN.out k hk (by omega)
        simpa [HRR.out] using this)
      refine ⟨?_, bnext HB1.out HB.out⟩
      rw [HVA.out, HVE.out, hE]
      rfl
    obtain ⟨g, hg, hA, hall⟩ := HNE.out (by rintro rfl; simp at hlt)
    obtain ⟨cs, hcs, hat, s, hcs2, hst⟩ := hall j hlt
    rw [hcs2] at hat
    have hat2 := hat.tail.tail
    rw [show 0 + j * 19 + 1 + 1 = j * 19 + 2 by omega] at hat2
    have hk1 : ∀ b, b < w1.heap.size → wr.heap[b]? = w1.heap[b]? := fun b hb => HB.out.block b hb
    have HAT := Lib.hid (At.keep hat2 hg.2 hk1)
    have hst2 : IsSt wr w1.heap.size s R[j].2.2 := IsSt.keep hk1 (IsStR.mono (fun b o hr => hr.2) hst)
    have HC := Lib.hid (stmt77_any s R[j].2.2 wr w1.heap.size hbs hst2)
    have HEQ : Hid (stmtX R[j].2.2 = mayS R[j].2.2) := Lib.hid (by
      generalize R[j].2.2 = x at hst2
      obtain ⟨op, nm, sec, ab, wh, a, b, t, e, c, ws⟩ := x
      have hf := hst2.form.2.1
      exact stmtX_eq op nm sec ab wh a b t e c ws hf.2.2.1 hf.2.2.2.1)
    rw [HEQ.out] at HC
    subst hA
    clear hall hat hat2 hst hst2 hk1 hcs hcs2
    cases hm : mayS R[j].2.2
    · have HM := Lib.hid hm
      rw [hm] at HC
      clear hm
      go_wp2_with (first | (refine wpList_load_blk rfl 58 (.tmp 21) rfl ⟨g, j * 19 + 2, Option.none⟩ rfl (.agg s.arr) (run_loadVar_at Try.underlying58 hi HAT.out (by rw [hz1]; rfl)) ?_) | (go_at_call 77; refine HC.out.mono ?_; rintro r w4 ⟨rfl, hb4⟩))
      go_ret2
      have hE : chkL l = (j, 160) := H1.out j (by rw [← HRR.out]; exact hlt) (fun k hk => by
        have := HN.out k hk (by omega)
        simpa [HRR.out] using this) h5 (by have := HM.out; simpa [HRR.out] using this)
      refine ⟨?_, bnext HB1.out (bnext HB.out hb4)⟩
      rw [HVA.out, HVE.out, hE]
      rfl
    · have HM := Lib.hid hm
      rw [hm] at HC
      clear hm
      go_wp2_with (first | (refine wpList_load_blk rfl 58 (.tmp 21) rfl ⟨g, j * 19 + 2, Option.none⟩ rfl (.agg s.arr) (run_loadVar_at Try.underlying58 hi HAT.out (by rw [hz1]; rfl)) ?_) | (go_at_call 77; refine HC.out.mono ?_; rintro r w4 ⟨rfl, hb4⟩))
      go_roundw
      case rel =>
        refine ⟨j + 1, by omega, by omega, by go_num, fun k hk hl => ?_, bnext HB.out hb4⟩
        by_cases hkj : k = j
        · subst hkj; exact HM.out
        · exact HN.out k (by omega) hl
      case measure => simp [intOf]; omega
set_option maxHeartbeats 1000000 in
theorem May31_any (l : List St) (A : Option Addr) (len cap : Nat) (w : World) (B : Nat) (hB : B ≤ w.heap.size) (h : LR (fun b _ => b < B) 256 A len cap l (fun b o => IsSts w B b o l)) :
    Calls Try.prog 31 #[.slice A len cap] w fun e w' => e = .returned (.bool (((chkL l).2 : Int) == 0)) ∧ Below w.heap.size w w' := by
  have HC := Lib.hid (Check29_any l A len cap w B hB h)
  clear h
  go_enter Try.func31, Try.ntmps31
  go_wp2_with (go_at_call 29; refine HC.out.mono ?_; rintro e w1 ⟨rfl, hb1⟩)
  go_ret
  exact ⟨rfl, hb1⟩
set_option maxHeartbeats 1000000 in
theorem Size33_any (l : List St) (A : Option Addr) (len cap : Nat) (w : World) (B : Nat) (hB : B ≤ w.heap.size) (h : LR (fun b _ => b < B) 256 A len cap l (fun b o => IsSts w B b o l)) :
    Calls Try.prog 33 #[.slice A len cap] w fun e w' => e = .returned (.int .i64 (sizeL l : Nat)) ∧ Below w.heap.size w w' := by
  have HC := Lib.hid (May31_any l A len cap w B hB h)
  have HW := Lib.hid (fun w' (hb : Below w.heap.size w w') => Walk51_any l A len cap w' B (Nat.le_trans hB hb.size) (h.imp fun b o hr hp => ⟨hr, IsSts.keep (fun b hb' => hb.block b (Nat.lt_of_lt_of_le hb' hB)) hr hp⟩))
  clear h
  obtain ⟨n, hn⟩ : ∃ n, n = sizeL l := ⟨_, rfl⟩
  rw [← hn]
  have HN := Lib.hid hn
  clear hn
  by_cases hz : (chkL l).2 = 0
  · have HZ := Lib.hid hz
    rw [hz] at HC
    clear hz
    go_enter Try.func33, Try.ntmps33
    go_upto_region 3 with (go_at_call 31; refine HC.out.mono ?_; rintro e w1 ⟨rfl, hb1⟩)
    have HB1 := Lib.hid hb1
    have HLN : Hid ((rowsX l).length = n) := Lib.hid (by
      rw [HN.out, sizeL, if_pos HZ.out, rows_len]
      have := chk_zero _ 0 (by omega) HZ.out
      simp at this
      omega)
    go_wp2_with (go_at_call 51; refine (HW.out _ hb1).mono ?_; rintro e w2 ⟨sl, xs, rfl, hrow, hb2⟩; obtain ⟨A1, cap1, rfl, hcap1, _⟩ := hrow.list)
    go_ret
    exact ⟨ret_int (by rw [HLN.out]), bnext HB1.out hb2⟩
  · have HZ := Lib.hid hz
    have hne : (((chkL l).2 : Int) == 0) = false := by rw [beq_eq_false_iff_ne]; omega
    rw [hne] at HC
    clear hz hne
    go_enter Try.func33, Try.ntmps33
    go_wp2_with (go_at_call 31; refine HC.out.mono ?_; rintro e w1 ⟨rfl, hb1⟩)
    go_ret
    exact ⟨by rw [HN.out, sizeL, if_neg HZ.out]; rfl, hb1⟩
end Go.Proofs.Ytnknefdpglnbnaa
