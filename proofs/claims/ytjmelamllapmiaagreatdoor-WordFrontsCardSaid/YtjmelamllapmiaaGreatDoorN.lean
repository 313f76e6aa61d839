/- package word: letter, digit, sign, named. -/
import Derived.Test.YtjmelamllapmiaaGreatDoorM
namespace Go.Proofs.YtjmelamllapmiaaGreatDoor
open Go.RowKit

def lett (c : UInt8) : Bool := decide (97 ≤ c.toNat) && decide (c.toNat ≤ 122)
def signsL : L8 := [91, 93, 40, 41, 123, 125, 61, 58, 59, 44, 46, 43, 60, 62, 95, 63]
def sgnB (c : UInt8) : Bool := signsL.contains c
/-- Is it a name? -/
def nameB : L8 → Bool
  | [] => false
  | c :: t => lett c && t.all (fun c => lett c || digB c) && decide (t.length < 32)
theorem letter_any (c : UInt8) (w : World) : Calls Tryz.prog 137 #[.int .u8 (c.toNat : Nat)] w fun e w' => e = .returned (.bool (lett c)) ∧ w' = w := by
  by_cases h : 97 ≤ c.toNat
  · have h1 : (97 : Int) ≤ c.toNat := by omega
    go_enter Tryz.func137, Tryz.ntmps137
    go_wp2_with fail
    go_ret
    exact ⟨ret_bool (by unfold lett; rw [Bool.eq_iff_iff]; simp; omega), rfl⟩
  · have h1 : ¬ (97 : Int) ≤ c.toNat := by omega
    go_enter Tryz.func137, Tryz.ntmps137
    go_wp2_with fail
    go_ret
    exact ⟨ret_bool (by unfold lett; rw [Bool.eq_iff_iff]; simp; omega), rfl⟩
theorem digit_any (c : UInt8) (w : World) : Calls Tryz.prog 138 #[.int .u8 (c.toNat : Nat)] w fun e w' => e = .returned (.bool (digB c)) ∧ w' = w := by
  by_cases h : 48 ≤ c.toNat
  · have h1 : (48 : Int) ≤ c.toNat := by omega
    go_enter Tryz.func138, Tryz.ntmps138
    go_wp2_with fail
    go_ret
    exact ⟨ret_bool (by unfold digB; rw [Bool.eq_iff_iff]; simp; omega), rfl⟩
  · have h1 : ¬ (48 : Int) ≤ c.toNat := by omega
    go_enter Tryz.func138, Tryz.ntmps138
    go_wp2_with fail
    go_ret
    exact ⟨ret_bool (by unfold digB; rw [Bool.eq_iff_iff]; simp; omega), rfl⟩
set_option maxRecDepth 100000 in
set_option maxHeartbeats 1000000 in
theorem sign_any (c : UInt8) (w : World) : Calls Tryz.prog 80 #[.int .u8 (c.toNat : Nat)] w fun e w' => e = .returned (.bool (sgnB c)) ∧ w' = w := by
  go_enter Tryz.func80, Tryz.ntmps80
  go_wp2_with fail
  go_loopw [3, 4] (fun _ ix wr => ∃ j : Nat, ix = .int .i64 j ∧ j ≤ 16 ∧ (signsL.take j).contains c = false ∧ wr = w) (fun _ ix _ => 16 - (intOf ix).toNat)
  case atStart => exact ⟨0, rfl, by omega, rfl, rfl⟩
  case round =>
    obtain ⟨j, rfl, hj, hn, rfl⟩ := hrel
    have HN := Lib.hid hn
    clear hn
    by_cases hlt : j < 16
    · have hlt' : (j : Int) < 16 := by omega
      have hl : j < signsL.length := hlt
      have he : signsL.take (j + 1) = signsL.take j ++ [signsL[j]] := by rw [List.take_add_one, List.getElem?_eq_getElem hl]; rfl
      have HE := Lib.hid he
      clear he
      go_upto_region 5 with fail
      · have hc : ((((⟨#[91, 93, 40, 41, 123, 125, 61, 58, 59, 44, 46, 43, 60, 62, 95, 63]⟩ : ByteArray)[j]'hlt).toNat : Int) == (c.toNat : Int)) = true := by assumption
        have hc2 : ((signsL[j].toNat : Int) == (c.toNat : Int)) = true := hc
        have hc' : signsL[j] = c := UInt8.toNat_inj.1 (by have := eq_of_beq hc2; omega)
        go_wp2_with fail
        go_ret
        refine ⟨ret_bool ?_, rfl⟩
        have : sgnB c = true := by
          unfold sgnB
          rw [← hc']
          simp
        rw [this]
      · rename_i hc
        have hc' : signsL[j] ≠ c := fun e => by
          have : ((signsL[j].toNat : Int) == (c.toNat : Int)) = false := hc
          rw [e] at this; simp at this
        refine ⟨⟨j + 1, by go_num, by omega, ?_, trivial⟩, by simp only [intOf]; omega⟩
        rw [HE.out]
        have h1 := HN.out
        simp only [List.contains_eq_mem, decide_eq_false_iff_not, List.mem_append, List.mem_singleton] at h1 ⊢
        rintro (h | h)
        · exact h1 h
        · exact hc' h.symm
    · have hlt' : ¬ (j : Int) < 16 := by omega
      go_wp2_with fail
      go_ret
      refine ⟨ret_bool ?_, rfl⟩
      have h1 := HN.out
      rw [List.take_of_length_le (by show 16 ≤ j; omega)] at h1
      exact h1.symm
theorem str_get {s : ByteArray} {j : Nat} (h : j < s.size) : s.data.toList[j]? = some s[j] := by
  have h' : j < s.data.toList.length := by simpa using h
  rw [List.getElem?_eq_getElem h']
  rfl
/-- The bytes so far are a name's. -/
def nameTo (l : L8) (j : Nat) : Prop := (l.take j).all (fun c => lett c || digB c) = true ∧ (0 < j → ∃ c t, l = c :: t ∧ lett c = true)
theorem nameTo.step {l : L8} {j : Nat} {c : UInt8} (h : nameTo l j) (hc : l[j]? = some c) (hok : lett c = true ∨ (0 < j ∧ digB c = true)) : nameTo l (j + 1) := by
  refine ⟨?_, fun _ => ?_⟩
  · rw [List.take_add_one, hc, List.all_append, h.1]
    rcases hok with h1 | ⟨_, h1⟩ <;> simp [h1]
  · by_cases hj : 0 < j
    · exact h.2 hj
    · obtain rfl : j = 0 := by omega
      rcases hok with h1 | ⟨h1, _⟩
      · cases l with
        | nil => simp at hc
        | cons d t => simp at hc; subst hc; exact ⟨_, _, rfl, h1⟩
      · omega
theorem nameTo.bad {l : L8} {j : Nat} {c : UInt8} (hc : l[j]? = some c) (hl : lett c = false) (hd : j = 0 ∨ digB c = false) : nameB l = false := by
  cases l with
  | nil => simp at hc
  | cons d t =>
    unfold nameB
    cases j with
    | zero => simp at hc; subst hc; simp [hl]
    | succ j =>
      have hd' := hd.resolve_left (by omega)
      have hm : c ∈ t := List.mem_of_getElem? (by simpa using hc)
      have : t.all (fun c => lett c || digB c) = false := by
        rw [List.all_eq_false]
        exact ⟨c, hm, by simp [hl, hd']⟩
      simp [this]
theorem nameTo.fin {l : L8} (h : nameTo l l.length) : nameB l = (decide (l ≠ []) && decide (l.length ≤ 32)) := by
  cases l with
  | nil => rfl
  | cons d t =>
    obtain ⟨h1, h2⟩ := h
    obtain ⟨c, t', e, hl⟩ := h2 (by simp)
    injection e with e1 e2
    subst e1
    rw [List.take_length] at h1
    simp only [List.all_cons, Bool.and_eq_true] at h1
    show (lett d && t.all (fun c => lett c || digB c) && decide (t.length < 32)) = _
    rw [hl, h1.2]
    rw [Bool.eq_iff_iff]; simp; omega
set_option maxRecDepth 100000 in
set_option maxHeartbeats 1000000 in
theorem named_any (s : ByteArray) (hs : s.size ≤ 140737488351232) (w : World) : Calls Tryz.prog 140 #[.string s] w fun e w' => e = .returned (.bool (nameB s.data.toList)) ∧ w' = w := by
  go_enter Tryz.func140, Tryz.ntmps140
  go_wp2_with fail
  go_loopw [3, 6] (fun _ ix wr => ∃ j : Nat, ix = .int .i64 j ∧ j ≤ s.size ∧ nameTo s.data.toList j ∧ wr = w) (fun _ ix _ => s.size - (intOf ix).toNat)
  case atStart => exact ⟨0, rfl, by omega, ⟨rfl, fun h => absurd h (by omega)⟩, rfl⟩
  case round =>
    obtain ⟨j, rfl, hj, hn, rfl⟩ := hrel
    have HN := Lib.hid hn
    clear hn
    by_cases hlt : j < s.size
    · have hlt' : (j : Int) < s.size := by omega
      have C72 := Lib.hid (letter_any s[j] wr)
      have C73 := Lib.hid (digit_any s[j] wr)
      obtain ⟨cl, hcl⟩ : ∃ cl, cl = lett s[j] := ⟨_, rfl⟩
      obtain ⟨cd, hcd⟩ : ∃ cd, cd = digB s[j] := ⟨_, rfl⟩
      rw [← hcl] at C72
      rw [← hcd] at C73
      have HL := Lib.hid hcl
      have HD := Lib.hid hcd
      clear hcl hcd
      have HG := Lib.hid (str_get hlt)
      cases cl
      rotate_left
      · go_wp2_with (first | (go_at_call 137; refine C72.out.mono ?_; rintro e w1 ⟨rfl, rfl⟩))
        go_roundw
        case rel => exact ⟨j + 1, by go_num, by omega, HN.out.step HG.out (.inl HL.out.symm), trivial⟩
        case measure => simp only [intOf]; omega
      by_cases hj0 : j = 0
      · have hb : ((j : Int) == 0) = true := by rw [hj0]; rfl
        have HJ := Lib.hid hj0
        clear hj0
        go_wp2_with (first | (go_at_call 137; refine C72.out.mono ?_; rintro e w1 ⟨rfl, rfl⟩))
        go_ret
        exact ⟨ret_bool (nameTo.bad HG.out HL.out.symm (.inl HJ.out)).symm, rfl⟩
      have hb : ((j : Int) == 0) = false := by rw [beq_eq_false_iff_ne]; omega
      have HJ := Lib.hid hj0
      clear hj0
      cases cd
      · go_wp2_with (first | (go_at_call 137; refine C72.out.mono ?_; rintro e w1 ⟨rfl, rfl⟩) | (go_at_call 138; refine C73.out.mono ?_; rintro e w1 ⟨rfl, rfl⟩))
        go_ret
        exact ⟨ret_bool (nameTo.bad HG.out HL.out.symm (.inr HD.out.symm)).symm, rfl⟩
      · go_wp2_with (first | (go_at_call 137; refine C72.out.mono ?_; rintro e w1 ⟨rfl, rfl⟩) | (go_at_call 138; refine C73.out.mono ?_; rintro e w1 ⟨rfl, rfl⟩))
        go_roundw
        case rel => exact ⟨j + 1, by go_num, by omega, HN.out.step HG.out (.inr ⟨Nat.pos_of_ne_zero HJ.out, HD.out.symm⟩), trivial⟩
        case measure => simp only [intOf]; omega
    · obtain rfl : j = s.size := by omega
      have e : s.data.toList.length = s.size := by simp
      have HF := Lib.hid (nameTo.fin (l := s.data.toList) (by rw [e]; exact HN.out))
      have HE := Lib.hid e
      have HT := Lib.hid (Lib.toList_data s)
      clear e
      go_wp2_with fail
      · go_ret
        refine ⟨ret_bool ?_, rfl⟩
        rename_i hz
        rw [HF.out]
        rw [HT.out] at hz
        simp [hz]
      · go_ret
        refine ⟨ret_bool ?_, rfl⟩
        rename_i hz
        rw [HF.out, HT.out, HE.out]
        rw [HT.out] at hz
        have h1 : s.data.toList.isEmpty = false := by simpa using hz
        have h2 : decide (s.data.toList ≠ []) = true := by simpa using hz
        rw [h1, h2]
        have h3 : decide ((s.size : Int) ≤ 32) = decide (s.size ≤ 32) := by rw [Bool.eq_iff_iff]; simp; omega
        rw [h3]
        rfl
end Go.Proofs.YtjmelamllapmiaaGreatDoor
