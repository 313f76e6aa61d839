/- The document's answers on a statement, walked: one ability, a name as a form asks. The document's answers on a statement, walked: a name, an expression as a form asks. -/
import Derived.Test.YtnknefdpglnbnaaLi
import Derived.Test.YtnknefdpglnbnaaZb
import Derived.Test.YtnknefdpglnbnaaU
import Derived.Deep.Cut
namespace Go.Proofs.Ytnknefdpglnbnaa
open Go.RowKit

theorem oneB_pow : ∀ a : Fin 256, oneB a = ((List.range 6).any fun k => (a : Nat) == 2 ^ k) := by decide +kernel
theorem oneI_no {a : Int} (h0 : 0 ≤ a) (h1 : a < 256) (h : ∀ k, k < 6 → a ≠ ((2 ^ k : Nat) : Int)) : oneI a = false := by
  obtain ⟨n, rfl⟩ := Int.eq_ofNat_of_zero_le h0
  have hb := oneB_pow ⟨n, by omega⟩
  unfold oneI
  rw [Int.toNat_natCast]
  simp only at hb
  rw [hb, List.any_eq_false]
  intro k hk
  have := h k (by simpa using hk)
  simp only [beq_iff_eq]
  omega
theorem oneI_yes {a : Int} (k : Nat) (hk : k < 6) (h : a = ((2 ^ k : Nat) : Int)) : oneI a = true := by
  have : ∀ k : Fin 6, oneI (((2 ^ (k : Nat) : Nat)) : Int) = true := by decide +kernel
  exact h ▸ this ⟨k, hk⟩
set_option maxRecDepth 100000 in
theorem one121_any (a : Int) (h0 : 0 ≤ a) (h1 : a < 256) (w : World) :
    Calls Try.prog 121 #[.int .u8 a] w fun e w' => e = .returned (.bool (oneI a)) ∧ w = w' := by
  go_enter Try.func121, Try.ntmps121
  go_wp2_with fail
  go_loop [3] (fun i => ∃ j : Nat, j ≤ 6 ∧ i = .int .i64 j ∧ ∀ k, k < j → a ≠ ((2 ^ k : Nat) : Int)) (fun i => 6 - (intOf i).toNat)
  case atStart => exact ⟨0, by omega, rfl, fun k hk => by omega⟩
  case round =>
    obtain ⟨j, hj, rfl, hn⟩ := hrel
    go_wp2_with fail
    · go_ret
      have hlt : j < 6 := by omega
      refine ⟨ret_bool (oneI_yes j hlt ?_).symm, rfl⟩
      have h2 : a = 2 ^ j % 256 := eq_of_beq (by assumption)
      rw [h2]
      have : ∀ j : Fin 6, (2 : Int) ^ (j : Nat) % 256 = (((2 ^ (j : Nat) : Nat)) : Int) := by decide +kernel
      exact this ⟨j, hlt⟩
    · rename_i hlt he
      have hlt' : j < 6 := by omega
      refine ⟨⟨j + 1, by omega, by go_num, fun k hk => ?_⟩, by simp [intOf]; omega⟩
      by_cases hkj : k = j
      · subst hkj
        have h2 : a ≠ 2 ^ k % 256 := by simpa using he
        have : ∀ j : Fin 6, (2 : Int) ^ (j : Nat) % 256 = (((2 ^ (j : Nat) : Nat)) : Int) := by decide +kernel
        have h3 := this ⟨k, hlt'⟩
        simp only at h3
        omega
      · exact hn k (by omega)
    · go_ret
      exact ⟨ret_bool (oneI_no h0 h1 fun k hk => hn k (by omega)).symm, rfl⟩
/-- What a form asks for. -/
structure Fm where
  nm : Int
  sec : Int
  a : Int
  b : Int
  ab : Int
  wh : Bool
  bl : Bool
  cl : Bool
def Fm.arr (f : Fm) : Array Value := #[.int .i64 f.nm, .int .i64 f.sec, .int .i64 f.a, .int .i64 f.b, .int .i64 f.ab, .bool f.wh, .bool f.bl, .bool f.cl]
def formX (op ab wh : Int) : Fm × Bool :=
  if op = 1 then (⟨2, 0, 1, 0, 0, false, false, false⟩, true)
  else if op = 2 then (⟨2, 0, 2, if ab = 1 ∨ ab = 32 then 0 else 1, 1, false, false, false⟩, true)
  else if op = 3 then
    (if wh = 1 then (⟨2, 0, 1, 0, 0, true, false, false⟩, true)
     else if wh = 2 ∨ wh = 3 ∨ wh = 4 ∨ wh = 8 then (⟨2, 0, 0, 0, 0, true, false, false⟩, true)
     else if wh = 14 then (⟨2, 0, 2, 0, 2, true, false, false⟩, true)
     else if wh = 15 ∨ wh = 16 then (⟨2, 2, 2, 0, 0, true, false, false⟩, true)
     else if wh = 5 ∨ wh = 10 then (⟨2, 2, 0, 0, 0, true, false, false⟩, true)
     else if wh = 12 then (⟨2, 0, 0, 0, 0, true, false, true⟩, true)
     else (⟨2, 0, 0, 0, 0, true, false, false⟩, false))
  else if op = 4 then (⟨2, 0, 2, 2, 0, false, false, false⟩, true)
  else if op = 5 then (⟨0, 0, 1, 1, 0, false, true, false⟩, true)
  else if op = 6 then (⟨0, 0, 2, 0, 2, false, true, false⟩, true)
  else if op = 7 then (⟨0, 0, 1, 0, 0, false, false, false⟩, true)
  else if op = 8 then (⟨0, 0, 0, 0, 0, false, false, false⟩, true)
  else if op = 9 then (⟨2, 0, 2, 0, 0, false, false, false⟩, true)
  else (⟨0, 0, 0, 0, 0, false, false, false⟩, false)
theorem info138 : (Try.prog.info? 138).map (fun i => (i.zero, i.size, i.bytes)) = some (some (.agg (Fm.arr ⟨0, 0, 0, 0, 0, false, false, false⟩)), 8, 48) := by kernel_rfl
theorem Fm.one (f : Fm) : ∀ u ∈ f.arr.toList, u.oneCell' = true := by
  intro u hu
  simp only [Fm.arr, List.mem_cons, List.not_mem_nil, or_false] at hu
  rcases hu with rfl | rfl | rfl | rfl | rfl | rfl | rfl | rfl <;> rfl
attribute [local go_sem] SV.g0 SV.g3 SV.g4
set_option maxRecDepth 100000 in
set_option maxHeartbeats 4000000 in
theorem form118_any (s : SV) (h0 : 0 ≤ s.op) (h1 : s.op < 256) (_h2 : 0 ≤ s.ab) (_h3 : s.ab < 256) (_h4 : 0 ≤ s.wh) (_h5 : s.wh < 256) (w : World) :
    Calls Try.prog 118 #[.agg s.arr] w fun e w' => e = .returned (.tuple #[.agg (formX s.op s.ab s.wh).1.arr, .bool (formX s.op s.ab s.wh).2]) ∧ Below w.heap.size w w' := by
  have h17 := s.size
  obtain ⟨FX, hFX⟩ : ∃ FX, FX = formX s.op s.ab s.wh := ⟨_, rfl⟩
  rw [← hFX]
  have HF := Lib.hid hFX
  clear hFX
  go_enter Try.func118, Try.ntmps118
  go_upto_region 1 with (fail)
  obtain ⟨w1, hw1⟩ : ∃ w1, w1 = (w.alloc (.cells s.arr 58)).alloc (.cells #[.int .i64 0, .int .i64 0, .int .i64 0, .int .i64 0, .int .i64 0, .bool false, .bool false, .bool false] 138) := ⟨_, rfl⟩
  rw [← hw1]
  have hS : BlkN w1 w.heap.size 58 s.arr := by rw [hw1]; exact (BlkN.at_ rfl _ _).alloc _
  have hR : BlkN w1 (w.heap.size + 1) 138 #[.int .i64 0, .int .i64 0, .int .i64 0, .int .i64 0, .int .i64 0, .bool false, .bool false, .bool false] := by rw [hw1]; exact BlkN.at_ (by simp) _ _
  have hB1 : Below w.heap.size w w1 := by rw [hw1]; exact ((Below.refl _ _).alloc (Nat.le_refl _) _).alloc (by simp) _
  clear hw1
  have c0 := hS.cell 0 s.at0
  have c3 := hS.cell 3 s.at3
  have c4 := hS.cell 4 s.at4
  have hlt := hS.lt
  have hlt2 := hR.lt
  obtain ⟨ii, hi, hz0, hz1, hz2⟩ := info_parts info138
  clear hS
  by_cases e1 : s.op = 1
  · rw [e1] at c0
    have hF : FX = (⟨2, 0, 1, 0, 0, false, false, false⟩, true) := by rw [HF.out]; simp [formX, e1]
    clear e1
    go_wp2_with (refine wpList_store_blk rfl 138 (.tmp 2) (.tmp 11) rfl ii hi (w.heap.size + 1) (Fm.arr ⟨2, 0, 1, 0, 0, false, false, false⟩) rfl rfl 138 #[.int .i64 0, .int .i64 0, .int .i64 0, .int .i64 0, .int .i64 0, .bool false, .bool false, .bool false] (hR) (by rw [hz1]; rfl) rfl (Fm.one _) ?_; intro w2 hB2 hbut)
    refine bodyPost_ret (results_cell2 (s := 2) (t := 3) (b := w.heap.size + 1) rfl Try.underlying138 hi rfl hB2 (by rw [hz1]; rfl) rfl) rfl ⟨?_, ?_⟩
    · rw [hF]; rfl
    · exact hbut.below (Nat.le_succ _) (hB1)
  by_cases e2 : s.op = 2
  · rw [e2] at c0
    by_cases a1 : s.ab = 1
    · have hF : FX = (⟨2, 0, 2, 0, 1, false, false, false⟩, true) := by rw [HF.out]; simp [formX, e2, a1]
      rw [a1] at c3
      clear e1 e2
      go_wp2_with (refine wpList_store_blk rfl 138 (.tmp 2) (.tmp 24) rfl ii hi (w.heap.size + 1) (Fm.arr ⟨2, 0, 2, 0, 1, false, false, false⟩) rfl rfl 138 #[.int .i64 0, .int .i64 0, .int .i64 0, .int .i64 0, .int .i64 0, .bool false, .bool false, .bool false] (hR.alloc _) (by rw [hz1]; rfl) rfl (Fm.one _) ?_; intro w2 hB2 hbut)
      refine bodyPost_ret (results_cell2 (s := 2) (t := 3) (b := w.heap.size + 1) rfl Try.underlying138 hi rfl hB2 (by rw [hz1]; rfl) rfl) rfl ⟨?_, ?_⟩
      · rw [hF]; rfl
      · exact hbut.below (Nat.le_succ _) (hB1.alloc hB1.size _)
    by_cases a2 : s.ab = 32
    · have hF : FX = (⟨2, 0, 2, 0, 1, false, false, false⟩, true) := by rw [HF.out]; simp [formX, e2, a2]
      rw [a2] at c3
      clear e1 e2
      go_wp2_with (refine wpList_store_blk rfl 138 (.tmp 2) (.tmp 24) rfl ii hi (w.heap.size + 1) (Fm.arr ⟨2, 0, 2, 0, 1, false, false, false⟩) rfl rfl 138 #[.int .i64 0, .int .i64 0, .int .i64 0, .int .i64 0, .int .i64 0, .bool false, .bool false, .bool false] (hR.alloc _) (by rw [hz1]; rfl) rfl (Fm.one _) ?_; intro w2 hB2 hbut)
      refine bodyPost_ret (results_cell2 (s := 2) (t := 3) (b := w.heap.size + 1) rfl Try.underlying138 hi rfl hB2 (by rw [hz1]; rfl) rfl) rfl ⟨?_, ?_⟩
      · rw [hF]; rfl
      · exact hbut.below (Nat.le_succ _) (hB1.alloc hB1.size _)
    have hF : FX = (⟨2, 0, 2, 1, 1, false, false, false⟩, true) := by rw [HF.out]; simp [formX, e2, a1, a2]
    have b1 : (s.ab == 1) = false := by simpa using a1
    have b2 : (s.ab == 32) = false := by simpa using a2
    clear e1 e2
    go_wp2_with (refine wpList_store_blk rfl 138 (.tmp 2) (.tmp 24) rfl ii hi (w.heap.size + 1) (Fm.arr ⟨2, 0, 2, 1, 1, false, false, false⟩) rfl rfl 138 #[.int .i64 0, .int .i64 0, .int .i64 0, .int .i64 0, .int .i64 0, .bool false, .bool false, .bool false] (hR.alloc _) (by rw [hz1]; rfl) rfl (Fm.one _) ?_; intro w2 hB2 hbut)
    refine bodyPost_ret (results_cell2 (s := 2) (t := 3) (b := w.heap.size + 1) rfl Try.underlying138 hi rfl hB2 (by rw [hz1]; rfl) rfl) rfl ⟨?_, ?_⟩
    · rw [hF]; rfl
    · exact hbut.below (Nat.le_succ _) (hB1.alloc hB1.size _)
  by_cases e3 : s.op = 3
  · rw [e3] at c0
    by_cases w1 : s.wh = 1
    · have hF : FX = (⟨2, 0, 1, 0, 0, true, false, false⟩, true) := by rw [HF.out]; simp [formX, e3, w1]
      rw [w1] at c4
      clear e1 e2 e3
      go_wp2_with (refine wpList_store_blk rfl 138 (.tmp 2) (.tmp 55) rfl ii hi (w.heap.size + 1) (Fm.arr ⟨2, 0, 1, 0, 0, true, false, false⟩) rfl rfl 138 #[.int .i64 0, .int .i64 0, .int .i64 0, .int .i64 0, .int .i64 0, .bool false, .bool false, .bool false] (hR.alloc _) (by rw [hz1]; rfl) rfl (Fm.one _) ?_; intro w2 hB2 hbut)
      refine bodyPost_ret (results_cell2 (s := 2) (t := 3) (b := w.heap.size + 1) rfl Try.underlying138 hi rfl hB2 (by rw [hz1]; rfl) rfl) rfl ⟨?_, ?_⟩
      · rw [hF]; rfl
      · exact hbut.below (Nat.le_succ _) (hB1.alloc hB1.size _)
    by_cases w2 : s.wh = 2
    · have hF : FX = (⟨2, 0, 0, 0, 0, true, false, false⟩, true) := by rw [HF.out]; simp [formX, e3, w2]
      rw [w2] at c4
      clear e1 e2 e3
      go_wp2_with (refine wpList_store_blk rfl 138 (.tmp 2) (.tmp 55) rfl ii hi (w.heap.size + 1) (Fm.arr ⟨2, 0, 0, 0, 0, true, false, false⟩) rfl rfl 138 #[.int .i64 0, .int .i64 0, .int .i64 0, .int .i64 0, .int .i64 0, .bool false, .bool false, .bool false] (hR.alloc _) (by rw [hz1]; rfl) rfl (Fm.one _) ?_; intro w2 hB2 hbut)
      refine bodyPost_ret (results_cell2 (s := 2) (t := 3) (b := w.heap.size + 1) rfl Try.underlying138 hi rfl hB2 (by rw [hz1]; rfl) rfl) rfl ⟨?_, ?_⟩
      · rw [hF]; rfl
      · exact hbut.below (Nat.le_succ _) (hB1.alloc hB1.size _)
    by_cases w3 : s.wh = 3
    · have hF : FX = (⟨2, 0, 0, 0, 0, true, false, false⟩, true) := by rw [HF.out]; simp [formX, e3, w3]
      rw [w3] at c4
      clear e1 e2 e3
      go_wp2_with (refine wpList_store_blk rfl 138 (.tmp 2) (.tmp 55) rfl ii hi (w.heap.size + 1) (Fm.arr ⟨2, 0, 0, 0, 0, true, false, false⟩) rfl rfl 138 #[.int .i64 0, .int .i64 0, .int .i64 0, .int .i64 0, .int .i64 0, .bool false, .bool false, .bool false] (hR.alloc _) (by rw [hz1]; rfl) rfl (Fm.one _) ?_; intro w2 hB2 hbut)
      refine bodyPost_ret (results_cell2 (s := 2) (t := 3) (b := w.heap.size + 1) rfl Try.underlying138 hi rfl hB2 (by rw [hz1]; rfl) rfl) rfl ⟨?_, ?_⟩
      · rw [hF]; rfl
      · exact hbut.below (Nat.le_succ _) (hB1.alloc hB1.size _)
    by_cases w4 : s.wh = 4
    · have hF : FX = (⟨2, 0, 0, 0, 0, true, false, false⟩, true) := by rw [HF.out]; simp [formX, e3, w4]
      rw [w4] at c4
      clear e1 e2 e3
      go_wp2_with (refine wpList_store_blk rfl 138 (.tmp 2) (.tmp 55) rfl ii hi (w.heap.size + 1) (Fm.arr ⟨2, 0, 0, 0, 0, true, false, false⟩) rfl rfl 138 #[.int .i64 0, .int .i64 0, .int .i64 0, .int .i64 0, .int .i64 0, .bool false, .bool false, .bool false] (hR.alloc _) (by rw [hz1]; rfl) rfl (Fm.one _) ?_; intro w2 hB2 hbut)
      refine bodyPost_ret (results_cell2 (s := 2) (t := 3) (b := w.heap.size + 1) rfl Try.underlying138 hi rfl hB2 (by rw [hz1]; rfl) rfl) rfl ⟨?_, ?_⟩
      · rw [hF]; rfl
      · exact hbut.below (Nat.le_succ _) (hB1.alloc hB1.size _)
    by_cases w8 : s.wh = 8
    · have hF : FX = (⟨2, 0, 0, 0, 0, true, false, false⟩, true) := by rw [HF.out]; simp [formX, e3, w8]
      rw [w8] at c4
      clear e1 e2 e3
      go_wp2_with (refine wpList_store_blk rfl 138 (.tmp 2) (.tmp 55) rfl ii hi (w.heap.size + 1) (Fm.arr ⟨2, 0, 0, 0, 0, true, false, false⟩) rfl rfl 138 #[.int .i64 0, .int .i64 0, .int .i64 0, .int .i64 0, .int .i64 0, .bool false, .bool false, .bool false] (hR.alloc _) (by rw [hz1]; rfl) rfl (Fm.one _) ?_; intro w2 hB2 hbut)
      refine bodyPost_ret (results_cell2 (s := 2) (t := 3) (b := w.heap.size + 1) rfl Try.underlying138 hi rfl hB2 (by rw [hz1]; rfl) rfl) rfl ⟨?_, ?_⟩
      · rw [hF]; rfl
      · exact hbut.below (Nat.le_succ _) (hB1.alloc hB1.size _)
    by_cases w14 : s.wh = 14
    · have hF : FX = (⟨2, 0, 2, 0, 2, true, false, false⟩, true) := by rw [HF.out]; simp [formX, e3, w14]
      rw [w14] at c4
      clear e1 e2 e3
      go_wp2_with (refine wpList_store_blk rfl 138 (.tmp 2) (.tmp 55) rfl ii hi (w.heap.size + 1) (Fm.arr ⟨2, 0, 2, 0, 2, true, false, false⟩) rfl rfl 138 #[.int .i64 0, .int .i64 0, .int .i64 0, .int .i64 0, .int .i64 0, .bool false, .bool false, .bool false] (hR.alloc _) (by rw [hz1]; rfl) rfl (Fm.one _) ?_; intro w2 hB2 hbut)
      refine bodyPost_ret (results_cell2 (s := 2) (t := 3) (b := w.heap.size + 1) rfl Try.underlying138 hi rfl hB2 (by rw [hz1]; rfl) rfl) rfl ⟨?_, ?_⟩
      · rw [hF]; rfl
      · exact hbut.below (Nat.le_succ _) (hB1.alloc hB1.size _)
    by_cases w15 : s.wh = 15
    · have hF : FX = (⟨2, 2, 2, 0, 0, true, false, false⟩, true) := by rw [HF.out]; simp [formX, e3, w15]
      rw [w15] at c4
      clear e1 e2 e3
      go_wp2_with (refine wpList_store_blk rfl 138 (.tmp 2) (.tmp 55) rfl ii hi (w.heap.size + 1) (Fm.arr ⟨2, 2, 2, 0, 0, true, false, false⟩) rfl rfl 138 #[.int .i64 0, .int .i64 0, .int .i64 0, .int .i64 0, .int .i64 0, .bool false, .bool false, .bool false] (hR.alloc _) (by rw [hz1]; rfl) rfl (Fm.one _) ?_; intro w2 hB2 hbut)
      refine bodyPost_ret (results_cell2 (s := 2) (t := 3) (b := w.heap.size + 1) rfl Try.underlying138 hi rfl hB2 (by rw [hz1]; rfl) rfl) rfl ⟨?_, ?_⟩
      · rw [hF]; rfl
      · exact hbut.below (Nat.le_succ _) (hB1.alloc hB1.size _)
    by_cases w16 : s.wh = 16
    · have hF : FX = (⟨2, 2, 2, 0, 0, true, false, false⟩, true) := by rw [HF.out]; simp [formX, e3, w16]
      rw [w16] at c4
      clear e1 e2 e3
      go_wp2_with (refine wpList_store_blk rfl 138 (.tmp 2) (.tmp 55) rfl ii hi (w.heap.size + 1) (Fm.arr ⟨2, 2, 2, 0, 0, true, false, false⟩) rfl rfl 138 #[.int .i64 0, .int .i64 0, .int .i64 0, .int .i64 0, .int .i64 0, .bool false, .bool false, .bool false] (hR.alloc _) (by rw [hz1]; rfl) rfl (Fm.one _) ?_; intro w2 hB2 hbut)
      refine bodyPost_ret (results_cell2 (s := 2) (t := 3) (b := w.heap.size + 1) rfl Try.underlying138 hi rfl hB2 (by rw [hz1]; rfl) rfl) rfl ⟨?_, ?_⟩
      · rw [hF]; rfl
      · exact hbut.below (Nat.le_succ _) (hB1.alloc hB1.size _)
    by_cases w5 : s.wh = 5
    · have hF : FX = (⟨2, 2, 0, 0, 0, true, false, false⟩, true) := by rw [HF.out]; simp [formX, e3, w5]
      rw [w5] at c4
      clear e1 e2 e3
      go_wp2_with (refine wpList_store_blk rfl 138 (.tmp 2) (.tmp 55) rfl ii hi (w.heap.size + 1) (Fm.arr ⟨2, 2, 0, 0, 0, true, false, false⟩) rfl rfl 138 #[.int .i64 0, .int .i64 0, .int .i64 0, .int .i64 0, .int .i64 0, .bool false, .bool false, .bool false] (hR.alloc _) (by rw [hz1]; rfl) rfl (Fm.one _) ?_; intro w2 hB2 hbut)
      refine bodyPost_ret (results_cell2 (s := 2) (t := 3) (b := w.heap.size + 1) rfl Try.underlying138 hi rfl hB2 (by rw [hz1]; rfl) rfl) rfl ⟨?_, ?_⟩
      · rw [hF]; rfl
      · exact hbut.below (Nat.le_succ _) (hB1.alloc hB1.size _)
    by_cases w10 : s.wh = 10
    · have hF : FX = (⟨2, 2, 0, 0, 0, true, false, false⟩, true) := by rw [HF.out]; simp [formX, e3, w10]
      rw [w10] at c4
      clear e1 e2 e3
      go_wp2_with (refine wpList_store_blk rfl 138 (.tmp 2) (.tmp 55) rfl ii hi (w.heap.size + 1) (Fm.arr ⟨2, 2, 0, 0, 0, true, false, false⟩) rfl rfl 138 #[.int .i64 0, .int .i64 0, .int .i64 0, .int .i64 0, .int .i64 0, .bool false, .bool false, .bool false] (hR.alloc _) (by rw [hz1]; rfl) rfl (Fm.one _) ?_; intro w2 hB2 hbut)
      refine bodyPost_ret (results_cell2 (s := 2) (t := 3) (b := w.heap.size + 1) rfl Try.underlying138 hi rfl hB2 (by rw [hz1]; rfl) rfl) rfl ⟨?_, ?_⟩
      · rw [hF]; rfl
      · exact hbut.below (Nat.le_succ _) (hB1.alloc hB1.size _)
    by_cases w12 : s.wh = 12
    · have hF : FX = (⟨2, 0, 0, 0, 0, true, false, true⟩, true) := by rw [HF.out]; simp [formX, e3, w12]
      rw [w12] at c4
      clear e1 e2 e3
      go_wp2_with (refine wpList_store_blk rfl 138 (.tmp 2) (.tmp 55) rfl ii hi (w.heap.size + 1) (Fm.arr ⟨2, 0, 0, 0, 0, true, false, true⟩) rfl rfl 138 #[.int .i64 0, .int .i64 0, .int .i64 0, .int .i64 0, .int .i64 0, .bool false, .bool false, .bool false] (hR.alloc _) (by rw [hz1]; rfl) rfl (Fm.one _) ?_; intro w2 hB2 hbut)
      refine bodyPost_ret (results_cell2 (s := 2) (t := 3) (b := w.heap.size + 1) rfl Try.underlying138 hi rfl hB2 (by rw [hz1]; rfl) rfl) rfl ⟨?_, ?_⟩
      · rw [hF]; rfl
      · exact hbut.below (Nat.le_succ _) (hB1.alloc hB1.size _)
    have hF : FX = (⟨2, 0, 0, 0, 0, true, false, false⟩, false) := by rw [HF.out]; simp [formX, e3, w1, w2, w3, w4, w8, w14, w15, w16, w5, w10, w12]
    have q1 : (s.wh == 1) = false := by simpa using w1
    have q2 : (s.wh == 2) = false := by simpa using w2
    have q3 : (s.wh == 3) = false := by simpa using w3
    have q4 : (s.wh == 4) = false := by simpa using w4
    have q8 : (s.wh == 8) = false := by simpa using w8
    have q14 : (s.wh == 14) = false := by simpa using w14
    have q15 : (s.wh == 15) = false := by simpa using w15
    have q16 : (s.wh == 16) = false := by simpa using w16
    have q5 : (s.wh == 5) = false := by simpa using w5
    have q10 : (s.wh == 10) = false := by simpa using w10
    have q12 : (s.wh == 12) = false := by simpa using w12
    clear e1 e2 e3
    go_wp2_with (refine wpList_store_blk rfl 138 (.tmp 2) (.tmp 30) rfl ii hi (w.heap.size + 1) (Fm.arr ⟨2, 0, 0, 0, 0, true, false, false⟩) rfl rfl 138 #[.int .i64 0, .int .i64 0, .int .i64 0, .int .i64 0, .int .i64 0, .bool false, .bool false, .bool false] (hR.alloc _) (by rw [hz1]; rfl) rfl (Fm.one _) ?_; intro w2 hB2 hbut)
    refine bodyPost_ret (results_cell2 (s := 2) (t := 3) (b := w.heap.size + 1) rfl Try.underlying138 hi rfl hB2 (by rw [hz1]; rfl) rfl) rfl ⟨?_, ?_⟩
    · rw [hF]; rfl
    · exact hbut.below (Nat.le_succ _) (hB1.alloc hB1.size _)
  by_cases e4 : s.op = 4
  · rw [e4] at c0
    have hF : FX = (⟨2, 0, 2, 2, 0, false, false, false⟩, true) := by rw [HF.out]; simp [formX, e4]
    clear e1 e2 e3 e4
    go_wp2_with (refine wpList_store_blk rfl 138 (.tmp 2) (.tmp 58) rfl ii hi (w.heap.size + 1) (Fm.arr ⟨2, 0, 2, 2, 0, false, false, false⟩) rfl rfl 138 #[.int .i64 0, .int .i64 0, .int .i64 0, .int .i64 0, .int .i64 0, .bool false, .bool false, .bool false] (hR) (by rw [hz1]; rfl) rfl (Fm.one _) ?_; intro w2 hB2 hbut)
    refine bodyPost_ret (results_cell2 (s := 2) (t := 3) (b := w.heap.size + 1) rfl Try.underlying138 hi rfl hB2 (by rw [hz1]; rfl) rfl) rfl ⟨?_, ?_⟩
    · rw [hF]; rfl
    · exact hbut.below (Nat.le_succ _) (hB1)
  by_cases e5 : s.op = 5
  · rw [e5] at c0
    have hF : FX = (⟨0, 0, 1, 1, 0, false, true, false⟩, true) := by rw [HF.out]; simp [formX, e5]
    clear e1 e2 e3 e4 e5
    go_wp2_with (refine wpList_store_blk rfl 138 (.tmp 2) (.tmp 61) rfl ii hi (w.heap.size + 1) (Fm.arr ⟨0, 0, 1, 1, 0, false, true, false⟩) rfl rfl 138 #[.int .i64 0, .int .i64 0, .int .i64 0, .int .i64 0, .int .i64 0, .bool false, .bool false, .bool false] (hR) (by rw [hz1]; rfl) rfl (Fm.one _) ?_; intro w2 hB2 hbut)
    refine bodyPost_ret (results_cell2 (s := 2) (t := 3) (b := w.heap.size + 1) rfl Try.underlying138 hi rfl hB2 (by rw [hz1]; rfl) rfl) rfl ⟨?_, ?_⟩
    · rw [hF]; rfl
    · exact hbut.below (Nat.le_succ _) (hB1)
  by_cases e6 : s.op = 6
  · rw [e6] at c0
    have hF : FX = (⟨0, 0, 2, 0, 2, false, true, false⟩, true) := by rw [HF.out]; simp [formX, e6]
    clear e1 e2 e3 e4 e5 e6
    go_wp2_with (refine wpList_store_blk rfl 138 (.tmp 2) (.tmp 64) rfl ii hi (w.heap.size + 1) (Fm.arr ⟨0, 0, 2, 0, 2, false, true, false⟩) rfl rfl 138 #[.int .i64 0, .int .i64 0, .int .i64 0, .int .i64 0, .int .i64 0, .bool false, .bool false, .bool false] (hR) (by rw [hz1]; rfl) rfl (Fm.one _) ?_; intro w2 hB2 hbut)
    refine bodyPost_ret (results_cell2 (s := 2) (t := 3) (b := w.heap.size + 1) rfl Try.underlying138 hi rfl hB2 (by rw [hz1]; rfl) rfl) rfl ⟨?_, ?_⟩
    · rw [hF]; rfl
    · exact hbut.below (Nat.le_succ _) (hB1)
  by_cases e7 : s.op = 7
  · rw [e7] at c0
    have hF : FX = (⟨0, 0, 1, 0, 0, false, false, false⟩, true) := by rw [HF.out]; simp [formX, e7]
    clear e1 e2 e3 e4 e5 e6 e7
    go_wp2_with (refine wpList_store_blk rfl 138 (.tmp 2) (.tmp 67) rfl ii hi (w.heap.size + 1) (Fm.arr ⟨0, 0, 1, 0, 0, false, false, false⟩) rfl rfl 138 #[.int .i64 0, .int .i64 0, .int .i64 0, .int .i64 0, .int .i64 0, .bool false, .bool false, .bool false] (hR) (by rw [hz1]; rfl) rfl (Fm.one _) ?_; intro w2 hB2 hbut)
    refine bodyPost_ret (results_cell2 (s := 2) (t := 3) (b := w.heap.size + 1) rfl Try.underlying138 hi rfl hB2 (by rw [hz1]; rfl) rfl) rfl ⟨?_, ?_⟩
    · rw [hF]; rfl
    · exact hbut.below (Nat.le_succ _) (hB1)
  by_cases e8 : s.op = 8
  · rw [e8] at c0
    have hF : FX = (⟨0, 0, 0, 0, 0, false, false, false⟩, true) := by rw [HF.out]; simp [formX, e8]
    clear e1 e2 e3 e4 e5 e6 e7 e8
    go_wp2_with (refine wpList_store_blk rfl 138 (.tmp 2) (.tmp 70) rfl ii hi (w.heap.size + 1) (Fm.arr ⟨0, 0, 0, 0, 0, false, false, false⟩) rfl rfl 138 #[.int .i64 0, .int .i64 0, .int .i64 0, .int .i64 0, .int .i64 0, .bool false, .bool false, .bool false] (hR) (by rw [hz1]; rfl) rfl (Fm.one _) ?_; intro w2 hB2 hbut)
    refine bodyPost_ret (results_cell2 (s := 2) (t := 3) (b := w.heap.size + 1) rfl Try.underlying138 hi rfl hB2 (by rw [hz1]; rfl) rfl) rfl ⟨?_, ?_⟩
    · rw [hF]; rfl
    · exact hbut.below (Nat.le_succ _) (hB1)
  by_cases e9 : s.op = 9
  · rw [e9] at c0
    have hF : FX = (⟨2, 0, 2, 0, 0, false, false, false⟩, true) := by rw [HF.out]; simp [formX, e9]
    clear e1 e2 e3 e4 e5 e6 e7 e8 e9
    go_wp2_with (refine wpList_store_blk rfl 138 (.tmp 2) (.tmp 73) rfl ii hi (w.heap.size + 1) (Fm.arr ⟨2, 0, 2, 0, 0, false, false, false⟩) rfl rfl 138 #[.int .i64 0, .int .i64 0, .int .i64 0, .int .i64 0, .int .i64 0, .bool false, .bool false, .bool false] (hR) (by rw [hz1]; rfl) rfl (Fm.one _) ?_; intro w2 hB2 hbut)
    refine bodyPost_ret (results_cell2 (s := 2) (t := 3) (b := w.heap.size + 1) rfl Try.underlying138 hi rfl hB2 (by rw [hz1]; rfl) rfl) rfl ⟨?_, ?_⟩
    · rw [hF]; rfl
    · exact hbut.below (Nat.le_succ _) (hB1)
  have hF : FX = (⟨0, 0, 0, 0, 0, false, false, false⟩, false) := by rw [HF.out]; simp [formX, e1, e2, e3, e4, e5, e6, e7, e8, e9]
  have q1 : (s.op == 1) = false := by simpa using e1
  have q2 : (s.op == 2) = false := by simpa using e2
  have q3 : (s.op == 3) = false := by simpa using e3
  have q4 : (s.op == 4) = false := by simpa using e4
  have q5 : (s.op == 5) = false := by simpa using e5
  have q6 : (s.op == 6) = false := by simpa using e6
  have q7 : (s.op == 7) = false := by simpa using e7
  have q8 : (s.op == 8) = false := by simpa using e8
  have q9 : (s.op == 9) = false := by simpa using e9
  go_wp2_with (refine wpList_store_blk rfl 138 (.tmp 2) (.tmp 74) rfl ii hi (w.heap.size + 1) (Fm.arr ⟨0, 0, 0, 0, 0, false, false, false⟩) rfl rfl 138 #[.int .i64 0, .int .i64 0, .int .i64 0, .int .i64 0, .int .i64 0, .bool false, .bool false, .bool false] (hR) (by rw [hz1]; rfl) rfl (Fm.one _) ?_; intro w2 hB2 hbut)
  refine bodyPost_ret (results_cell2 (s := 2) (t := 3) (b := w.heap.size + 1) rfl Try.underlying138 hi rfl hB2 (by rw [hz1]; rfl) rfl) rfl ⟨?_, ?_⟩
  · rw [hF]; rfl
  · exact hbut.below (Nat.le_succ _) (hB1)
end Go.Proofs.Ytnknefdpglnbnaa
namespace Go.Proofs.Ytnknefdpglnbnaa
open Go.RowKit

def nameF (s : ByteArray) (how : Int) : Bool := if how = 0 then s.toList == [] else mayN s
def exprF (x : Ex) (how : Int) : Bool := if noneX x then decide (how < 2) else (decide (0 < how) && mayE x)
set_option maxRecDepth 100000 in
theorem name119_any (s : ByteArray) (how : Int) (w : World) (hs : s.size ≤ 140737488351232) :
    Calls Try.prog 119 #[.string s, .int .i64 how] w fun e w' => e = .returned (.bool (nameF s how)) ∧ w = w' := by
  obtain ⟨nf, hnf⟩ : ∃ nf, nf = nameF s how := ⟨_, rfl⟩
  rw [← hnf]
  have HN := Lib.hid hnf
  clear hnf
  go_enter Try.func119, Try.ntmps119
  by_cases h0 : how = 0
  · have H0 := Lib.hid h0
    have hb : (how == 0) = true := by simpa using h0
    clear h0
    go_wp2_with fail
    go_ret
    refine ⟨ret_bool ?_, rfl⟩
    rw [HN.out, nameF, if_pos H0.out]
    cases h : s.toList <;> rfl
  · have H0 := Lib.hid h0
    have hb : (how == 0) = false := by simpa using h0
    clear h0
    go_wp2_with (go_at_call 39; refine (mayName39_any s _ hs).mono ?_; rintro e w1 ⟨rfl, rfl⟩)
    go_ret
    exact ⟨ret_bool (by rw [HN.out, nameF, if_neg H0.out]), rfl⟩
set_option maxRecDepth 100000 in
set_option maxHeartbeats 1000000 in
theorem expr120_any {B : Nat} {v : Value} {x : Ex} (how : Int) (w : World) (h : IsEx w B v x) (hB : B ≤ w.heap.size) :
    Calls Try.prog 120 #[v, .int .i64 how] w fun e w' => e = .returned (.bool (exprF x how)) ∧ Below w.heap.size w w' := by
  obtain ⟨nf, hnf⟩ : ∃ nf, nf = exprF x how := ⟨_, rfl⟩
  rw [← hnf]
  have HN := Lib.hid hnf
  clear hnf
  have HX := Lib.hid h
  obtain ⟨k, n, s, A, len, cap, rfl⟩ : ∃ k n s A len cap, v = .agg #[.int .u8 k, .int .i64 n, .string s, .slice A len cap] := by
    obtain ⟨k, n, s, l⟩ := x
    obtain ⟨_, _, _, _, A, cap, _, h6, _⟩ := h.form
    exact ⟨k, n, s, A, _, cap, h6⟩
  clear h
  have C65 := Lib.hid (fun w' (hb : Below w.heap.size w w') => none65_any w' (HX.out.keep fun b hl => hb.block b (by omega)))
  have C22 := Lib.hid (fun w' (hb : Below w.heap.size w w') => MayExpr22_any w' (HX.out.keep fun b hl => hb.block b (by omega)) (by have := hb.size; omega))
  have HB0 : Hid (Below w.heap.size w (w.alloc (.cells #[.int .u8 k, .int .i64 n, .string s, .slice A len cap] 26))) := Lib.hid ((Below.refl _ _).alloc (Nat.le_refl _) _)
  have HQ : Hid (BlkN (w.alloc (.cells #[.int .u8 k, .int .i64 n, .string s, .slice A len cap] 26)) w.heap.size 26 #[.int .u8 k, .int .i64 n, .string s, .slice A len cap]) := Lib.hid (BlkN.at_ rfl _ _)
  go_enter Try.func120, Try.ntmps120
  cases hn : noneX x
  · have HNN := Lib.hid hn
    rw [hn] at C65
    clear hn
    by_cases hlt : 0 < how
    · have HH := Lib.hid hlt
      go_wp2_with (first | (go_at_call 65; refine (C65.out _ HB0.out).mono ?_; rintro e w1 ⟨rfl, hb1⟩; have hB1 := bnext HB0.out hb1; have hq1 := HQ.out.below hb1; have q0 := hq1.cell 0 rfl; have q1 := hq1.cell 1 rfl; have q2 := hq1.cell 2 rfl; have q3 := hq1.cell 3 rfl) | (go_at_call 22; refine (C22.out _ hB1).mono ?_; rintro e w2 ⟨rfl, hb2⟩))
      go_ret
      exact ⟨ret_bool (by rw [HN.out, exprF, HNN.out]; simp [HH.out]), bnext hB1 hb2⟩
    · have HH := Lib.hid hlt
      go_wp2_with (first | (go_at_call 65; refine (C65.out _ HB0.out).mono ?_; rintro e w1 ⟨rfl, hb1⟩; have hB1 := bnext HB0.out hb1; have hq1 := HQ.out.below hb1; have q0 := hq1.cell 0 rfl; have q1 := hq1.cell 1 rfl; have q2 := hq1.cell 2 rfl; have q3 := hq1.cell 3 rfl))
      go_ret
      exact ⟨ret_bool (by rw [HN.out, exprF, HNN.out]; have := HH.out; simp; intro h; omega), hB1⟩
  · have HNN := Lib.hid hn
    rw [hn] at C65
    clear hn
    go_wp2_with (go_at_call 65; refine (C65.out _ HB0.out).mono ?_; rintro e w1 ⟨rfl, hb1⟩; have hB1 := bnext HB0.out hb1; have hq1 := HQ.out.below hb1; have q0 := hq1.cell 0 rfl; have q1 := hq1.cell 1 rfl; have q2 := hq1.cell 2 rfl; have q3 := hq1.cell 3 rfl)
    go_ret
    exact ⟨ret_bool (by rw [HN.out, exprF, HNN.out]; rfl), hB1⟩
end Go.Proofs.Ytnknefdpglnbnaa
