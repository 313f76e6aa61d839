/- The document's MayToken and form. -/
import Derived.Test.YtjmelamllapmiaaGreatDoorXa
import Derived.Test.YtjmelamllapmiaaGreatDoorRa
import Derived.Test.YtjmelamllapmiaaGreatDoorKa
import Derived.Lib.AppendIntMem
namespace Go.Proofs.YtjmelamllapmiaaGreatDoor
open Go.RowKit

theorem cat_txt (a b : L8) : (⟨a.toArray⟩ ++ ⟨b.toArray⟩ : ByteArray) = txtV (a ++ b) := by
  apply ByteArray.ext
  simp [txtV]
theorem rmay_end {w : World} {b c : Bool} {o1 : Obj} (h : b = c) : Below w.heap.size w (w.alloc o1) ∧ Ending.returned (.bool b) = .returned (.bool c) :=
  ⟨(Below.refl _ _).alloc (Nat.le_refl _) _, ret_bool h⟩
set_option maxRecDepth 100000 in
set_option maxHeartbeats 4000000 in
theorem rmay_1 (a n r : Int) (s : ByteArray) (hs : s.size ≤ 140737488351232) (w : World) :
    Calls Tryz.prog 100 #[.agg #[.int .u8 1, .int .i64 a, .int .i64 n, .string s, .int .i64 r]] w fun e w' => Below w.heap.size w w' ∧ e = .returned (.bool (n == 0 && r == 0 && nameB s.data.toList)) := by
  have C83 := Lib.hid (fun w => rname_any s hs w)
  go_enter Tryz.func100, Tryz.ntmps100
  go_wp2_with (first | (go_at_call 158; refine (C83.out _).mono ?_; rintro e w1 ⟨rfl, hw1⟩; rw [hw1]; clear hw1))
  all_goals
    go_ret
    refine rmay_end ?_
    first
      | (simp_all; done)
      | (rw [Bool.eq_iff_iff]; simp_all; done)
      | (rw [Bool.eq_iff_iff]; simp_all; omega)
      | (rw [Bool.eq_iff_iff]; simp; omega)
set_option maxRecDepth 100000 in
set_option maxHeartbeats 4000000 in
theorem rmay_2 (a n r : Int) (s : ByteArray) (hs : s.size ≤ 140737488351232) (w : World) :
    Calls Tryz.prog 100 #[.agg #[.int .u8 2, .int .i64 a, .int .i64 n, .string s, .int .i64 r]] w fun e w' => Below w.heap.size w w' ∧ e = .returned (.bool (s.data.toList.isEmpty && r == 0)) := by
  by_cases hse : s = ⟨#[]⟩
  · subst hse
    have he : (⟨#[]⟩ : ByteArray).data.toList.isEmpty = true := rfl
    rw [he]
    clear he
    go_enter Tryz.func100, Tryz.ntmps100
    go_wp2_with (fail)
    all_goals
      go_ret
      refine rmay_end ?_
      first
        | (simp_all; done)
        | (rw [Bool.eq_iff_iff]; simp_all; done)
        | (rw [Bool.eq_iff_iff]; simp_all; omega)
        | (rw [Bool.eq_iff_iff]; simp; omega)
  · have hq : ¬ (⟨#[]⟩ : ByteArray) = s := fun h => hse h.symm
    have he : s.data.toList.isEmpty = false := by simpa using emp_not hq
    rw [he]
    have hq2 : ¬ s.toList = [] := fun h => hq (emp_eq h).symm
    clear he hse
    go_enter Tryz.func100, Tryz.ntmps100
    go_wp2_with (fail)
    all_goals
      go_ret
      refine rmay_end ?_
      first
        | (simp_all; done)
        | (rw [Bool.eq_iff_iff]; simp_all; done)
        | (rw [Bool.eq_iff_iff]; simp_all; omega)
        | (rw [Bool.eq_iff_iff]; simp; omega)
set_option maxRecDepth 100000 in
set_option maxHeartbeats 4000000 in
theorem rmay_3 (a n r : Int) (s : ByteArray) (_hs : s.size ≤ 140737488351232) (w : World) :
    Calls Tryz.prog 100 #[.agg #[.int .u8 3, .int .i64 a, .int .i64 n, .string s, .int .i64 r]] w fun e w' => Below w.heap.size w w' ∧ e = .returned (.bool (n == 0 && r == 0)) := by
  go_enter Tryz.func100, Tryz.ntmps100
  go_wp2_with (fail)
  all_goals
    go_ret
    refine rmay_end ?_
    first
      | (simp_all; done)
      | (rw [Bool.eq_iff_iff]; simp_all; done)
      | (rw [Bool.eq_iff_iff]; simp_all; omega)
      | (rw [Bool.eq_iff_iff]; simp; omega)
set_option maxRecDepth 100000 in
set_option maxHeartbeats 4000000 in
theorem rmay_4 (a n r : Int) (s : ByteArray) (hs : s.size ≤ 140737488351232) (w : World) :
    Calls Tryz.prog 100 #[.agg #[.int .u8 4, .int .i64 a, .int .i64 n, .string s, .int .i64 r]] w fun e w' => Below w.heap.size w w' ∧ e = .returned (.bool (n == 0 && s.data.toList.isEmpty && decide (1 ≤ r))) := by
  by_cases hse : s = ⟨#[]⟩
  · subst hse
    have he : (⟨#[]⟩ : ByteArray).data.toList.isEmpty = true := rfl
    rw [he]
    clear he
    go_enter Tryz.func100, Tryz.ntmps100
    go_wp2_with (fail)
    all_goals
      go_ret
      refine rmay_end ?_
      first
        | (simp_all; done)
        | (rw [Bool.eq_iff_iff]; simp_all; done)
        | (rw [Bool.eq_iff_iff]; simp_all; omega)
        | (rw [Bool.eq_iff_iff]; simp; omega)
  · have hq : ¬ (⟨#[]⟩ : ByteArray) = s := fun h => hse h.symm
    have he : s.data.toList.isEmpty = false := by simpa using emp_not hq
    rw [he]
    have hq2 : ¬ s.toList = [] := fun h => hq (emp_eq h).symm
    clear he hse
    go_enter Tryz.func100, Tryz.ntmps100
    go_wp2_with (fail)
    all_goals
      go_ret
      refine rmay_end ?_
      first
        | (simp_all; done)
        | (rw [Bool.eq_iff_iff]; simp_all; done)
        | (rw [Bool.eq_iff_iff]; simp_all; omega)
        | (rw [Bool.eq_iff_iff]; simp; omega)
set_option maxRecDepth 100000 in
set_option maxHeartbeats 4000000 in
theorem rmay_x (a n r : Int) (s : ByteArray) (_hs : s.size ≤ 140737488351232) (w : World) (k : Int) (hk : ¬ k = 1 ∧ ¬ k = 2 ∧ ¬ k = 3 ∧ ¬ k = 4 ∧ ¬ k = 5) :
    Calls Tryz.prog 100 #[.agg #[.int .u8 k, .int .i64 a, .int .i64 n, .string s, .int .i64 r]] w fun e w' => Below w.heap.size w w' ∧ e = .returned (.bool (false)) := by
  have h1 : (k == 1) = false := by simpa using hk.1
  have h2 : (k == 2) = false := by simpa using hk.2.1
  have h3 : (k == 3) = false := by simpa using hk.2.2.1
  have h4 : (k == 4) = false := by simpa using hk.2.2.2.1
  have h5 : (k == 5) = false := by simpa using hk.2.2.2.2
  clear hk
  go_enter Tryz.func100, Tryz.ntmps100
  go_wp2_with (fail)
  all_goals
    go_ret
    refine rmay_end ?_
    first
      | (simp_all; done)
      | (rw [Bool.eq_iff_iff]; simp_all; done)
      | (rw [Bool.eq_iff_iff]; simp_all; omega)
      | (rw [Bool.eq_iff_iff]; simp; omega)
theorem rone_len {s : ByteArray} (h0 : 0 < s.size) (h : s.size = 1) : s.data.toList = [s[0]'h0] := by
  have e : s.data.toList.length = 1 := by simpa using h
  match hl : s.data.toList, e with
  | [c], _ =>
    have := str_get (s := s) (j := 0) (by omega)
    rw [hl] at this
    simpa using this
set_option maxRecDepth 100000 in
set_option maxHeartbeats 4000000 in
theorem rmay_5 (a n r : Int) (s : ByteArray) (_hs : s.size ≤ 140737488351232) (w : World) :
    Calls Tryz.prog 100 #[.agg #[.int .u8 5, .int .i64 a, .int .i64 n, .string s, .int .i64 r]] w fun e w' => Below w.heap.size w w' ∧ e = .returned (.bool (n == 0 && r == 0 && oneSign s.data.toList)) := by
  by_cases h1 : s.size = 1
  · have h0 : 0 < s.size := by omega
    rw [rone_len h0 h1]
    obtain ⟨sg, hsg⟩ : ∃ sg, sg = sgnB (s[0]'h0) := ⟨_, rfl⟩
    have C49 := Lib.hid (fun w => rsign_any (s[0]'h0) w)
    have e1 : oneSign [s[0]'h0] = sg := hsg.symm
    rw [e1]
    rw [← hsg] at C49
    clear e1 hsg
    have hz : (((s.size : Nat) : Int) == 1) = true := by simp; omega
    clear h1
    by_cases hnr : n = 0 ∧ r = 0
    · obtain ⟨rfl, rfl⟩ := hnr
      go_enter Tryz.func100, Tryz.ntmps100
      go_wp2_with (first | (go_at_call 159; refine (C49.out _).mono ?_; rintro e w1 ⟨rfl, hw1⟩; rw [hw1]; clear hw1))
      all_goals
        go_ret
        refine rmay_end ?_
        first
          | (simp_all; done)
          | (rw [Bool.eq_iff_iff]; simp_all; omega)
    · have e2 : (n == 0 && r == 0 && sg) = false := by rw [Bool.and_eq_false_iff]; left; rw [Bool.and_eq_false_iff]; by_cases h : n = 0; right; simpa using fun h2 => hnr ⟨h, h2⟩; left; simpa using h
      rw [e2]
      have hn2 : ¬ (0 = n ∧ 0 = r) := fun h => hnr ⟨h.1.symm, h.2.symm⟩
      clear hnr e2 C49
      go_enter Tryz.func100, Tryz.ntmps100
      go_wp2_with fail
      all_goals
        go_ret
        refine rmay_end ?_
        first
          | (simp_all; done)
          | (rw [Bool.eq_iff_iff]; simp_all; omega)
  · have e0 : oneSign s.data.toList = false := by
      have e : s.data.toList.length = s.size := by simp
      match hl : s.data.toList with
      | [] => rfl
      | [c] => rw [hl] at e; exact absurd e.symm h1
      | _ :: _ :: _ => rfl
    rw [e0]
    have hz : (((s.size : Nat) : Int) == 1) = false := by rw [beq_eq_false_iff_ne]; omega
    clear h1 e0
    go_enter Tryz.func100, Tryz.ntmps100
    go_wp2_with fail
    all_goals
      go_ret
      refine rmay_end ?_
      first
        | (simp_all; done)
        | (rw [Bool.eq_iff_iff]; simp_all; omega)
/-- MayToken's contract. -/
theorem rtmay_any (t : Tk) (hs : t.s.length ≤ 140737488351232) (w : World) :
    Calls Tryz.prog 100 #[.agg t.arr] w fun e w' => Below w.heap.size w w' ∧ e = .returned (.bool (tokMay t)) := by
  obtain ⟨k, a, n, s, r⟩ := t
  have hsz : (txtV s).size ≤ 140737488351232 := hs
  have hd : (txtV s).data.toList = s := rfl
  unfold tokMay Tk.arr
  simp only
  by_cases h1 : k = 1
  · subst h1; rw [if_pos rfl]; have := rmay_1 a n r (txtV s) hsz w; rw [hd] at this; exact this
  rw [if_neg h1]
  by_cases h2 : k = 2
  · subst h2; rw [if_pos rfl]; have := rmay_2 a n r (txtV s) hsz w; rw [hd] at this; exact this
  rw [if_neg h2]
  by_cases h3 : k = 3
  · subst h3; rw [if_pos rfl]; exact rmay_3 a n r (txtV s) hsz w
  rw [if_neg h3]
  by_cases h4 : k = 4
  · subst h4; rw [if_pos rfl]; have := rmay_4 a n r (txtV s) hsz w; rw [hd] at this; exact this
  rw [if_neg h4]
  by_cases h5 : k = 5
  · subst h5; rw [if_pos rfl]; have := rmay_5 a n r (txtV s) hsz w; rw [hd] at this; exact this
  rw [if_neg h5]
  exact rmay_x a n r (txtV s) hsz w k ⟨h1, h2, h3, h4, h5⟩
/-- form's contract. -/
theorem rform_any (t : Tk) (hok : TkOk t) (w : World) (hT : TabI w) :
    Calls Tryz.prog 124 #[.agg t.arr] w fun e w' => Below w.heap.size w w' ∧ e = .returned (.string (txtV (formL t))) := by
  obtain ⟨k, a, n, s, r⟩ := t
  obtain ⟨hs, ⟨hn0, hn1⟩, hr0, hr1⟩ := hok
  simp only at hs hn0 hn1 hr0 hr1
  have HT := Lib.hid hT
  clear hT
  have hB : ∀ o, Below w.heap.size w (w.alloc o) := fun o => (Below.refl _ _).alloc (Nat.le_refl _) o
  have C85 := Lib.hid (fun w' (hb : Below w.heap.size w w') => Tryz.strconv_FormatInt_10 n hn0 hn1 w' (HT.out.on hb))
  have C86 := Lib.hid (fun w' (hb : Below w.heap.size w w') => Tryz.strconv_Itoa r hr0 hr1 w' (HT.out.on hb))
  have C19 := Lib.hid (fun w' => rQuote_any (txtV s) (by show 4 * s.length + 2 ≤ _; omega) w')
  have HB := Lib.hid hB
  clear hB
  obtain ⟨F, hF⟩ : ∃ F, F = formL ⟨k, a, n, s, r⟩ := ⟨_, rfl⟩
  rw [← hF]
  simp only [Tk.arr]
  by_cases h2 : k = 2
  · subst h2
    have HF : Hid (F = Lib.itoa n) := Lib.hid (by rw [hF]; rfl)
    clear hF
    go_enter Tryz.func124, Tryz.ntmps124
    go_wp2_with (first | (go_at_call 166; refine (C85.out _ (HB.out _)).mono ?_; rintro e w1 ⟨rfl, q, os, rfl⟩))
    go_ret
    exact ⟨(HB.out _).trans (Lib.below_grow _ _ (by simp) _ _), by rw [HF.out]; rfl⟩
  by_cases h4 : k = 4
  · subst h4
    have HF : Hid (F = 35 :: Lib.itoa r) := Lib.hid (by rw [hF]; rfl)
    clear hF h2
    go_enter Tryz.func124, Tryz.ntmps124
    have hil : ¬ 9223372036854775807 < 1 + (Lib.itoa r).length := by have := Lib.itoa_length_le r hr0 hr1; omega
    go_wp2_with (first | (go_at_call 168; refine (C86.out _ (HB.out _)).mono ?_; rintro e w1 ⟨rfl, q, os, rfl⟩))
    go_ret
    refine ⟨(HB.out _).trans (Lib.below_grow _ _ (by simp) _ _), ?_⟩
    show Ending.returned (.string (_ ++ _)) = _
    rw [HF.out]
    exact congrArg (fun x => Ending.returned (.string x)) (cat_txt [35] (Lib.itoa r))
  by_cases h3 : k = 3
  · subst h3
    have HF : Hid (F = quoteL s) := Lib.hid (by rw [hF]; rfl)
    clear hF h2 h4
    go_enter Tryz.func124, Tryz.ntmps124
    go_wp2_with (first | (go_at_call 167; refine (C19.out _).mono ?_; rintro e w1 ⟨hb1, rfl⟩))
    go_ret
    exact ⟨bnext (HB.out _) hb1, by rw [HF.out]; rfl⟩
  have HF : Hid (F = s) := Lib.hid (by rw [hF]; unfold formL; rw [if_neg h2, if_neg h3, if_neg h4])
  clear hF
  go_enter Tryz.func124, Tryz.ntmps124
  go_wp2_with fail
  go_ret
  exact ⟨HB.out _, by rw [HF.out]; rfl⟩
end Go.Proofs.YtjmelamllapmiaaGreatDoor
