/- package word: Text, Row. -/
import Derived.Test.YtjmelamllapmiaaGreatDoorL
import Derived.Test.YtjmelamllapmiaaGreatDoorB
import Derived.Lib.Strings
namespace Go.Proofs.YtjmelamllapmiaaGreatDoor
open Go.RowKit

theorem emp_size {s : ByteArray} (h : s.toList.isEmpty = true) : s.size = 0 := by
  have h2 : s.toList = [] := by simpa using h
  have h3 : s.toList = s.data.toList := Lib.toList_data s
  rw [h3] at h2
  have := congrArg List.length h2
  simpa using this
mutual
theorem takeV_sz : ∀ (x : Va) (q m q' : Nat), takeV x q m = some q' → szV x ≤ 1064 * (q - q')
  | .mk k n s l r, q, m, q', h => by
    have hle := takeV_le _ _ _ _ h
    cases q with
    | zero => unfold takeV at h; cases h
    | succ q =>
      unfold szV
      by_cases hk : k = 3
      · subst hk
        unfold takeV at h
        cases m with
        | zero => simp at h
        | succ m =>
          simp only [show ((3 : Int) == 0) = false from rfl, show ((3 : Int) == 1) = false from rfl, show ((3 : Int) == 2) = false from rfl, show ((3 : Int) == 4) = false from rfl, show ((3 : Int) == 3) = true from rfl, if_true, Bool.false_eq_true, if_false] at h
          split at h
          · cases h
          · split at h
            · cases h
            · rename_i q2 h2
              split at h
              · rename_i hc
                simp only [Bool.and_eq_true] at hc
                have hs := emp_size hc.1.2
                have := takeVs_sz l q m q2 h2
                have := takeVs_le l q m q2 h2
                simp at h; subst h; omega
              · cases h
      · have e := takeV_plain k n s l r q m q' hk h
        subst e
        unfold takeV at h
        by_cases h0 : k = 0
        · subst h0
          simp at h
          obtain ⟨-, h1, -, rfl⟩ := h
          have hs := emp_size (by simpa using h1)
          simp [szVs]; omega
        · by_cases h1 : k = 1
          · subst h1
            simp at h
            obtain ⟨h1, -, rfl⟩ := h
            have hs := emp_size (by simpa using h1)
            simp [szVs]; omega
          · by_cases h2 : k = 2
            · subst h2
              simp at h
              obtain ⟨h1, -, -, rfl⟩ := h
              simp [szVs]; omega
            · by_cases h4 : k = 4
              · subst h4
                simp at h
                obtain ⟨-, -, h1, rfl⟩ := h
                have hs := emp_size (by simpa using h1)
                simp [szVs]; omega
              · simp [h0, h1, h2, hk, h4] at h
theorem takeVs_sz : ∀ (l : List Va) (q m q' : Nat), takeVs l q m = some q' → szVs l ≤ 1064 * (q - q')
  | [], q, m, q', h => by simp [szVs]
  | x :: l, q, m, q', h => by
    unfold takeVs at h
    split at h
    · cases h
    · rename_i q1 h1
      have a := takeV_sz x q m q1 h1
      have b := takeVs_sz l q1 m q' h
      have c := takeV_le x q m q1 h1
      have d := takeVs_le l q1 m q' h
      simp only [szVs]; omega
end
theorem mayV_sz (x : Va) (h : mayV x = true) : szV x ≤ 544768 := by
  unfold mayV at h
  cases e : takeV x 512 16 with
  | none => rw [e] at h; cases h
  | some q => have := takeV_sz x 512 16 q e; omega
abbrev TabI (w : World) : Prop := Lib.TabIs Tryz.prog w "internal/strconv.uint64pow10" .u64 Lib.pow10Tab
theorem TabI.on {w w' : World} (h : TabI w) (hb : Below w.heap.size w w') : TabI w' := (Lib.tabBelow_of_tabIs h) w' hb
/-- What Text answers. -/
def textR (x : Va) : L8 × Int := if mayV x then (textL x, 0) else ([], 2)
set_option maxRecDepth 100000 in
set_option maxHeartbeats 1000000 in
theorem Text_any {B : Nat} {v : Value} {x : Va} (w : World) (h : IsVa w B v x) (hB : B ≤ w.heap.size) (hfit : Fit x) (hT : TabI w) :
    Calls Tryz.prog 53 #[v] w fun e w' => Below w.heap.size w w' ∧ e = .returned (.tuple #[.string (txtV (textR x).1), .int .i64 (textR x).2]) := by
  have HH := Lib.hid h
  obtain ⟨k, n, s, A, len, cap, r, rfl⟩ := h.shape
  have C53 := Lib.hid (fun w' (hb : Below w.heap.size w w') => vmay_any w' (h.keep fun b hl => hb.block b (by omega)) (Nat.le_trans hB hb.size))
  obtain ⟨m, hm⟩ : ∃ m, m = mayV x := ⟨_, rfl⟩
  rw [← hm] at C53
  have HM := Lib.hid hm
  clear h hm
  have HB0 : Hid (Below w.heap.size w (w.alloc (.cells #[.int .u8 k, .int .i64 n, .string s, .slice A len cap, .int .i64 r] 27))) := Lib.hid ((Below.refl _ _).alloc (Nat.le_refl _) _)
  cases m
  · have HR : Hid (textR x = ([], 2)) := Lib.hid (by simp [textR, ← HM.out])
    go_enter Tryz.func53, Tryz.ntmps53
    go_wp2_with (first | (go_at_call 102; refine (C53.out _ HB0.out).mono ?_; rintro e w1 ⟨rfl, hb1⟩))
    go_ret2
    exact ⟨HB0.out.trans (hb1.mono (by simp)), by rw [HR.out]; rfl⟩
  · have HR : Hid (textR x = (textL x, 0)) := Lib.hid (by simp [textR, ← HM.out])
    have HSZ := Lib.hid (mayV_sz x HM.out.symm)
    have HFIT := Lib.hid hfit
    have HTT := Lib.hid (Lib.tabBelow_of_tabIs hT)
    clear hfit hT
    go_enter Tryz.func53, Tryz.ntmps53
    go_wp2_with (first
      | (go_at_call 102; refine (C53.out _ HB0.out).mono ?_; rintro e w1 ⟨rfl, hb1⟩
         have hbb := HB0.out.trans (hb1.mono (by simp))
         have hc : BlkN w1 w.heap.size 27 #[.int .u8 k, .int .i64 n, .string s, .slice A len cap, .int .i64 r] := (BlkN.at_ rfl _ _).below hb1
         have d0 := hc.cell 0 rfl
         have d1 := hc.cell 1 rfl
         have d2 := hc.cell 2 rfl
         have d3 := hc.cell 3 rfl
         have d4 := hc.cell 4 rfl
         have hl := hc.lt
         have HBB := Lib.hid hbb
         have C54 := Lib.hid (text_any x w1 w.heap.size B (.slice Option.none 0 0) _ [] (BRow.nil _ _) hbb.size (HH.out.keep fun b hl => hbb.block b (by omega)) hB HFIT.out (by have := HSZ.out; simp; omega) (HTT.out.on hbb))
         clear hbb hc hb1)
      | (go_at_call 103; refine C54.out.mono ?_; rintro e w2 ⟨v2, rfl, hg2⟩
         have hconv := brow_string hg2.row
         have HG2 := Lib.hid hg2
         clear hg2))
    go_ret2
    exact ⟨HBB.out.trans HG2.out.below, by rw [HR.out]; rfl⟩
end Go.Proofs.YtjmelamllapmiaaGreatDoor
