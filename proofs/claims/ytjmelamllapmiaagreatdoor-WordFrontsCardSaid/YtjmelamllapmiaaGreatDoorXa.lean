/- The document's letter, digit, sign, Name, while. -/
import Derived.Test.YtjmelamllapmiaaGreatDoorPb
namespace Go.Proofs.YtjmelamllapmiaaGreatDoor
open Go.RowKit

theorem rletter_any (c : UInt8) (w : World) : Calls Tryz.prog 169 #[.int .u8 (c.toNat : Nat)] w fun e w' => e = .returned (.bool (lett c)) ∧ w' = w := by
  by_cases h : 97 ≤ c.toNat
  · have h1 : (97 : Int) ≤ c.toNat := by omega
    go_enter Tryz.func169, Tryz.ntmps169
    go_wp2_with fail
    go_ret
    exact ⟨ret_bool (by unfold lett; rw [Bool.eq_iff_iff]; simp; omega), rfl⟩
  · have h1 : ¬ (97 : Int) ≤ c.toNat := by omega
    go_enter Tryz.func169, Tryz.ntmps169
    go_wp2_with fail
    go_ret
    exact ⟨ret_bool (by unfold lett; rw [Bool.eq_iff_iff]; simp; omega), rfl⟩
theorem rdigit_any (c : UInt8) (w : World) : Calls Tryz.prog 171 #[.int .u8 (c.toNat : Nat)] w fun e w' => e = .returned (.bool (digB c)) ∧ w' = w := by
  by_cases h : 48 ≤ c.toNat
  · have h1 : (48 : Int) ≤ c.toNat := by omega
    go_enter Tryz.func171, Tryz.ntmps171
    go_wp2_with fail
    go_ret
    exact ⟨ret_bool (by unfold digB; rw [Bool.eq_iff_iff]; simp; omega), rfl⟩
  · have h1 : ¬ (48 : Int) ≤ c.toNat := by omega
    go_enter Tryz.func171, Tryz.ntmps171
    go_wp2_with fail
    go_ret
    exact ⟨ret_bool (by unfold digB; rw [Bool.eq_iff_iff]; simp; omega), rfl⟩
set_option maxRecDepth 100000 in
set_option maxHeartbeats 1000000 in
theorem rsign_any (c : UInt8) (w : World) : Calls Tryz.prog 159 #[.int .u8 (c.toNat : Nat)] w fun e w' => e = .returned (.bool (sgnB c)) ∧ w' = w := by
  go_enter Tryz.func159, Tryz.ntmps159
  go_wp2_with fail
  go_loopw [3] (fun ix wr => ∃ j : Nat, ix = .int .i64 j ∧ j ≤ 16 ∧ (signsL.take j).contains c = false ∧ wr = w) (fun ix _ => 16 - (intOf ix).toNat)
  case atStart => exact ⟨0, rfl, by omega, rfl, rfl⟩
  case round =>
    obtain ⟨j, rfl, hj, hn, rfl⟩ := hrel
    have HN := Lib.hid hn
    clear hn
    by_cases hlt : j < 16
    · have hlt' : (j : Int) < 16 := by omega
      have hl : j < signsL.length := hlt
      have he : signsL.take (j + 1) = signsL.take j ++ [signsL[j]] := by rw [List.take_add_one, List.getElem?_eq_getElem hl]; rfl
      have HE := Lib.hid he
      clear he
      go_upto_region 5 with fail
      · have hc : ((((⟨#[91, 93, 40, 41, 123, 125, 61, 58, 59, 44, 46, 43, 60, 62, 95, 63]⟩ : ByteArray)[j]'hlt).toNat : Int) == (c.toNat : Int)) = true := by assumption
        have hc2 : ((signsL[j].toNat : Int) == (c.toNat : Int)) = true := hc
        have hc' : signsL[j] = c := UInt8.toNat_inj.1 (by have := eq_of_beq hc2; omega)
        go_wp2_with fail
        go_ret
        refine ⟨ret_bool ?_, rfl⟩
        have : sgnB c = true := by
          unfold sgnB
          rw [← hc']
          simp
        rw [this]
      · rename_i hc
        have hc' : signsL[j] ≠ c := fun e => by
          have : ((signsL[j].toNat : Int) == (c.toNat : Int)) = false := hc
          rw [e] at this; simp at this
        refine ⟨⟨j + 1, by go_num, by omega, ?_, trivial⟩, by simp only [intOf]; omega⟩
        rw [HE.out]
        have h1 := HN.out
        simp only [List.contains_eq_mem, decide_eq_false_iff_not, List.mem_append, List.mem_singleton] at h1 ⊢
        rintro (h | h)
        · exact h1 h
        · exact hc' h.symm
    · have hlt' : ¬ (j : Int) < 16 := by omega
      go_wp2_with fail
      go_ret
      refine ⟨ret_bool ?_, rfl⟩
      have h1 := HN.out
      rw [List.take_of_length_le (by show 16 ≤ j; omega)] at h1
      exact h1.symm
set_option maxRecDepth 100000 in
set_option maxHeartbeats 1000000 in
theorem rname_any (s : ByteArray) (hs : s.size ≤ 140737488351232) (w : World) : Calls Tryz.prog 158 #[.string s] w fun e w' => e = .returned (.bool (nameB s.data.toList)) ∧ w' = w := by
  have hsl : s.data.toList.length = s.size := by simp
  by_cases h0 : s.size < 1
  · have HN : Hid (nameB s.data.toList = false) := Lib.hid (by rw [show s.data.toList = [] from List.eq_nil_of_length_eq_zero (by omega)]; rfl)
    have h0' : (s.size : Int) < 1 := by omega
    clear hsl
    go_enter Tryz.func158, Tryz.ntmps158
    go_wp2_with fail
    go_ret
    exact ⟨ret_bool HN.out.symm, rfl⟩
  have h0' : ¬ (s.size : Int) < 1 := by omega
  have h00 : 0 < s.size := by omega
  have hl0 : s.data.toList = s[0] :: rest s 1 := rest_cons h00
  by_cases h1 : 32 < s.size
  · have HN : Hid (nameB s.data.toList = false) := Lib.hid (by
      have hl := congrArg List.length hl0
      simp only [List.length_cons, hsl] at hl
      rw [hl0]
      show (lett _ && _ && decide ((rest s 1).length < 32)) = false
      have : decide ((rest s 1).length < 32) = false := decide_eq_false (by omega)
      rw [this, Bool.and_false])
    have h1' : (32 : Int) < s.size := by omega
    clear hsl hl0
    go_enter Tryz.func158, Tryz.ntmps158
    go_wp2_with fail
    go_ret
    exact ⟨ret_bool HN.out.symm, rfl⟩
  have h1' : ¬ (32 : Int) < s.size := by omega
  have C75 := rletter_any s[0] w
  obtain ⟨cl, hcl⟩ : ∃ cl, cl = lett s[0] := ⟨_, rfl⟩
  rw [← hcl] at C75
  have HC75 := Lib.hid C75
  have HCL := Lib.hid hcl
  have HL0 := Lib.hid hl0
  have HSL := Lib.hid hsl
  clear C75 hcl hl0 hsl
  cases cl
  · go_enter Tryz.func158, Tryz.ntmps158
    go_wp2_with (first | (go_at_call 169; refine HC75.out.mono ?_; rintro e w1 ⟨rfl, hw1⟩; rw [hw1]; clear hw1))
    go_ret
    exact ⟨ret_bool (by rw [HL0.out]; show false = (lett s[0] && _ && _); rw [← HCL.out]; rfl), rfl⟩
  go_enter Tryz.func158, Tryz.ntmps158
  go_upto_region 3 with (first | (go_at_call 169; refine HC75.out.mono ?_; rintro e w1 ⟨rfl, hw1⟩; rw [hw1]; clear hw1))
  go_wp2_with fail
  go_loopw [3] (fun ix wr => ∃ j : Nat, ix = .int .i64 j ∧ j ≤ s.size ∧ nameTo s.data.toList j ∧ wr = w) (fun ix _ => s.size - (intOf ix).toNat)
  case atStart => exact ⟨0, rfl, by omega, ⟨rfl, fun h => absurd h (by omega)⟩, rfl⟩
  case round =>
    obtain ⟨j, rfl, hj, hn, rfl⟩ := hrel
    have HN := Lib.hid hn
    clear hn
    by_cases hlt : j < s.size
    · have hlt' : (j : Int) < s.size := by omega
      have C75 := Lib.hid (rletter_any s[j] wr)
      have C78 := Lib.hid (rdigit_any s[j] wr)
      obtain ⟨cl, hcl⟩ : ∃ cl, cl = lett s[j] := ⟨_, rfl⟩
      obtain ⟨cd, hcd⟩ : ∃ cd, cd = digB s[j] := ⟨_, rfl⟩
      rw [← hcl] at C75
      rw [← hcd] at C78
      have HL := Lib.hid hcl
      have HD := Lib.hid hcd
      clear hcl hcd
      have HG := Lib.hid (str_get hlt)
      have H0 : Hid (j = 0 → cl = true) := Lib.hid (by rintro rfl; exact HL.out.trans HCL.out.symm)
      cases cl
      rotate_left
      · go_wp2_with (first | (go_at_call 169; refine C75.out.mono ?_; rintro e w1 ⟨rfl, hw1⟩; rw [hw1]; clear hw1))
        go_roundw
        case rel => exact ⟨j + 1, by go_num, by omega, HN.out.step HG.out (.inl HL.out.symm), trivial⟩
        case measure => simp only [intOf]; omega
      cases cd
      · go_wp2_with (first | (go_at_call 169; refine C75.out.mono ?_; rintro e w1 ⟨rfl, hw1⟩; rw [hw1]; clear hw1) | (go_at_call 171; refine C78.out.mono ?_; rintro e w1 ⟨rfl, hw1⟩; rw [hw1]; clear hw1))
        go_ret
        exact ⟨ret_bool (nameTo.bad HG.out HL.out.symm (.inr HD.out.symm)).symm, rfl⟩
      · go_wp2_with (first | (go_at_call 169; refine C75.out.mono ?_; rintro e w1 ⟨rfl, hw1⟩; rw [hw1]; clear hw1) | (go_at_call 171; refine C78.out.mono ?_; rintro e w1 ⟨rfl, hw1⟩; rw [hw1]; clear hw1))
        go_roundw
        case rel => exact ⟨j + 1, by go_num, by omega, HN.out.step HG.out (.inr ⟨Nat.pos_of_ne_zero (fun e => by have := H0.out e; cases this), HD.out.symm⟩), trivial⟩
        case measure => simp only [intOf]; omega
    · obtain rfl : j = s.size := by omega
      have HF := Lib.hid (nameTo.fin (l := s.data.toList) (by rw [HSL.out]; exact HN.out))
      go_wp2_with fail
      go_ret
      refine ⟨ret_bool ?_, rfl⟩
      rw [HF.out, HSL.out]
      have h2 : decide (s.data.toList ≠ []) = true := decide_eq_true (by rw [HL0.out]; simp)
      have h3 : decide (s.size ≤ 32) = true := decide_eq_true (by omega)
      rw [h2, h3]; rfl
/-- Which bytes a row of them goes over. -/
def rowB (letters : Bool) (c : UInt8) : Bool := digB c || (letters && lett c)
theorem rowB_true : rowB true = wordB := by funext c; unfold rowB wordB; rw [Bool.true_and, Bool.or_comm]
theorem rowB_false : rowB false = digB := by funext c; unfold rowB; rw [Bool.false_and, Bool.or_false]
set_option maxRecDepth 100000 in
set_option maxHeartbeats 1000000 in
theorem while_any (s : ByteArray) (hs : s.size ≤ 140737488351232) (i : Nat) (hi : i ≤ s.size) (letters : Bool) (w : World) : Calls Tryz.prog 170 #[.string s, .int .i64 i, .bool letters] w fun e w' => e = .returned (.int .i64 ((i + ((rest s i).takeWhile (rowB letters)).length : Nat) : Int)) ∧ w' = w := by
  obtain ⟨E, hE⟩ : ∃ E, E = i + ((rest s i).takeWhile (rowB letters)).length := ⟨_, rfl⟩
  rw [← hE]
  have HE := Lib.hid hE
  clear hE
  go_enter Tryz.func170, Tryz.ntmps170
  go_wp2_with fail
  go_loopw [1] (fun ix wr => ∃ j : Nat, ix = .int .i64 j ∧ j ≤ s.size ∧ E = j + ((rest s j).takeWhile (rowB letters)).length ∧ wr = w) (fun ix _ => s.size - (intOf ix).toNat)
  case atStart => exact ⟨i, rfl, hi, HE.out, rfl⟩
  case round =>
    obtain ⟨j, rfl, hj, hn, rfl⟩ := hrel
    have HN := Lib.hid hn
    clear hn
    by_cases hlt : j < s.size
    · have hlt' : (j : Int) < s.size := by omega
      have C75 := Lib.hid (rletter_any s[j] wr)
      have C78 := Lib.hid (rdigit_any s[j] wr)
      obtain ⟨cl, hcl⟩ : ∃ cl, cl = lett s[j] := ⟨_, rfl⟩
      obtain ⟨cd, hcd⟩ : ∃ cd, cd = digB s[j] := ⟨_, rfl⟩
      rw [← hcl] at C75
      rw [← hcd] at C78
      have HR : Hid (rowB letters s[j] = (cd || (letters && cl))) := Lib.hid (by rw [hcl, hcd]; rfl)
      clear hcl hcd
      have HD := Lib.hid (rest_cons hlt)
      cases cd
      rotate_left
      · go_wp2_with (first | (go_at_call 169; refine C75.out.mono ?_; rintro e w1 ⟨rfl, hw1⟩; rw [hw1]; clear hw1) | (go_at_call 171; refine C78.out.mono ?_; rintro e w1 ⟨rfl, hw1⟩; rw [hw1]; clear hw1))
        go_roundw
        case rel =>
          refine ⟨j + 1, by go_num, by omega, ?_, trivial⟩
          have := HN.out
          rw [HD.out, List.takeWhile_cons, HR.out] at this
          simp at this
          omega
        case measure => simp only [intOf]; omega
      cases letters
      · go_wp2_with (first | (go_at_call 169; refine C75.out.mono ?_; rintro e w1 ⟨rfl, hw1⟩; rw [hw1]; clear hw1) | (go_at_call 171; refine C78.out.mono ?_; rintro e w1 ⟨rfl, hw1⟩; rw [hw1]; clear hw1))
        go_ret
        refine ⟨ret_int ?_, rfl⟩
        have := HN.out
        rw [HD.out, List.takeWhile_cons, HR.out] at this
        simp at this
        omega
      cases cl
      · go_wp2_with (first | (go_at_call 169; refine C75.out.mono ?_; rintro e w1 ⟨rfl, hw1⟩; rw [hw1]; clear hw1) | (go_at_call 171; refine C78.out.mono ?_; rintro e w1 ⟨rfl, hw1⟩; rw [hw1]; clear hw1))
        go_ret
        refine ⟨ret_int ?_, rfl⟩
        have := HN.out
        rw [HD.out, List.takeWhile_cons, HR.out] at this
        simp at this
        omega
      · go_wp2_with (first | (go_at_call 169; refine C75.out.mono ?_; rintro e w1 ⟨rfl, hw1⟩; rw [hw1]; clear hw1) | (go_at_call 171; refine C78.out.mono ?_; rintro e w1 ⟨rfl, hw1⟩; rw [hw1]; clear hw1))
        go_roundw
        case rel =>
          refine ⟨j + 1, by go_num, by omega, ?_, trivial⟩
          have := HN.out
          rw [HD.out, List.takeWhile_cons, HR.out] at this
          simp at this
          omega
        case measure => simp only [intOf]; omega
    · obtain rfl : j = s.size := by omega
      go_wp2_with fail
      go_ret
      refine ⟨ret_int ?_, rfl⟩
      have := HN.out
      rw [rest_end (Nat.le_refl _)] at this
      simp at this
      omega
end Go.Proofs.YtjmelamllapmiaaGreatDoor
