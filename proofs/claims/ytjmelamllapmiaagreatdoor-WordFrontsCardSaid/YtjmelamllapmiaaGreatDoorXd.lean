/- The document's Cut. -/
import Derived.Test.YtjmelamllapmiaaGreatDoorXc
import Derived.Test.YtjmelamllapmiaaGreatDoorQ
namespace Go.Proofs.YtjmelamllapmiaaGreatDoor
open Go.RowKit

theorem word0_no {l : L8} (h : word0 l = true) : ∃ c t, l = c :: t ∧ wordB c = true := by
  cases l with
  | nil => cases h
  | cons c t => exact ⟨c, t, rfl, h⟩
theorem word_sgn : ∀ c : Fin 256, wordB (UInt8.ofNat c.val) = true → sgnB (UInt8.ofNat c.val) = false ∧ UInt8.ofNat c.val ≠ 32 := by decide +kernel
theorem word_sgn' (c : UInt8) (h : wordB c = true) : sgnB c = false ∧ c ≠ 32 := by
  have e : UInt8.ofNat c.toNat = c := UInt8.ofNat_toNat
  have := word_sgn ⟨c.toNat, c.toNat_lt⟩
  rw [e] at this
  exact this h
/-- Behind a token, no sign, there stands a letter or a digit. -/
theorem cutL_word (N f : Nat) (r : L8) (l : List Tk) (h : word0 r = true) : cutL N (f + 1) r true l = .no r := by
  obtain ⟨c, t, rfl, hw⟩ := word0_no h
  obtain ⟨h1, h2⟩ := word_sgn' c hw
  exact cutL_bad N f c t true l h2 ⟨rfl, h1⟩
set_option maxRecDepth 100000 in
set_option maxHeartbeats 8000000 in
theorem rcut_any (s : ByteArray) (hs : s.size ≤ 140737488351232) (w : World) : Calls Tryz.prog 58 #[.string s] w fun e w' => Below w.heap.size w w' ∧ CutP s w.heap.size e w' := by
  obtain ⟨n, hn⟩ : ∃ n, n = w.heap.size := ⟨_, rfl⟩
  by_cases hlong : 1048576 < s.size
  · have hl : (1048576 : Int) < s.size := by omega
    have HL := Lib.hid hlong
    clear hlong
    go_enter Tryz.func58, Tryz.ntmps58
    go_wp2_with fail
    go_ret3
    exact ⟨Below.refl _ _, by unfold CutP; rw [if_pos HL.out]; rfl⟩
  have hlong2 := Lib.hid hlong
  have hl : ¬ (1048576 : Int) < s.size := by omega
  obtain ⟨R, hR⟩ : ∃ R, R = cutL s.size (s.size + 1) (rest s 0) false [] := ⟨_, rfl⟩
  have HR0 := Lib.hid hR
  have HCR : Hid (cutR s = R) := Lib.hid hR.symm
  have HN := Lib.hid hn
  clear hR hlong
  go_enter Tryz.func58, Tryz.ntmps58
  go_wp2_with fail
  go_loopw [5, 6, 7, 8, 9, 10, 11] (fun v ix tg _ _ _ _ wr => ∃ (j f : Nat) (tight : Bool) (l : List Tk), ix = .int .i64 j ∧ tg = .bool tight ∧ j ≤ s.size ∧ s.size - j < f ∧ l.length ≤ j ∧ TRow wr n v l ∧ Below n w wr ∧ (tight = true → word0 (rest s j) = false) ∧ cutL s.size f (rest s j) tight l = R) (fun _ ix _ _ _ _ _ _ => s.size - (intOf ix).toNat)
  case atStart => exact ⟨0, s.size + 1, false, [], rfl, rfl, by omega, by omega, by simp, TRow.nil _ _, by rw [HN.out]; exact Below.refl _ _, (fun h => by cases h), HR0.out.symm⟩
  case round =>
    obtain ⟨j, f, tight, l, rfl, rfl, hj, hf, hlj, hv, hb, ht, hc⟩ := hrel
    have HBJ := Lib.hid hb
    have HCJ := Lib.hid hc
    have HTJ := Lib.hid ht
    obtain ⟨A, cap, rfl, hcap⟩ := hv.slice
    have HVJ := Lib.hid hv
    have hnw : n ≤ wr.heap.size := by have := HN.out; have := HBJ.out.size; omega
    clear hb hc hv ht
    by_cases hjl : j < s.size
    rotate_left
    · have hnj : ¬ (j : Int) < (s.size : Nat) := by omega
      go_wp2_with fail
      go_ret3
      refine ⟨by rw [← HN.out]; exact HBJ.out, ?_⟩
      obtain ⟨f', rfl⟩ : ∃ f', f = f' + 1 := ⟨f - 1, by omega⟩
      have hRR : R = .ok l [] := by rw [← HCJ.out, rest_end (by omega)]; rfl
      unfold CutP
      rw [if_neg hlong2.out, HCR.out, hRR, ← HN.out]
      exact ⟨_, rfl, HVJ.out⟩
    obtain ⟨c, hc⟩ : ∃ c, c = s[j] := ⟨_, rfl⟩
    have HRC : Hid (rest s j = c :: rest s (j + 1)) := Lib.hid (by rw [rest_cons hjl, hc])
    obtain ⟨f', rfl⟩ : ∃ f', f = f' + 1 := ⟨f - 1, by omega⟩
    have hji : (j : Int) < s.size := by omega
    go_upto_region 8 with fail
    rw [← hc]
    clear hc
    have hc0 : c.toNat < 256 := c.toNat_lt
    by_cases h32 : c = 32
    · have hb32 : ((c.toNat : Int) == 32) = true := by rw [h32]; rfl
      have H32 := Lib.hid h32
      clear h32
      go_wp2_with fail
      go_roundw
      case rel => exact ⟨j + 1, f', false, l, by go_num, rfl, by omega, by omega, by omega, HVJ.out, HBJ.out, (fun h => by cases h), by rw [← HCJ.out, HRC.out, cutL_blank _ _ _ _ _ _ H32.out]⟩
      case measure => simp only [intOf]; omega
    have hb32 : ((c.toNat : Int) == 32) = false := u8_beq (n := 32) (by decide) h32
    have H32 := Lib.hid h32
    clear h32
    by_cases hbad : tight = true ∧ (c = 34 ∨ c = 35 ∨ c = 45)
    · obtain ⟨rfl, hb3⟩ := hbad
      have HR2 : Hid (R = .no (rest s j)) := Lib.hid (by
        rw [← HCJ.out, HRC.out]
        exact cutL_bad _ _ _ _ _ _ H32.out ⟨rfl, by rcases hb3 with rfl | rfl | rfl <;> rfl⟩)
      have hb3' : ((c.toNat : Int) == 34) = true ∨ (((c.toNat : Int) == 34) = false ∧ (((c.toNat : Int) == 35) = true ∨ (((c.toNat : Int) == 35) = false ∧ ((c.toNat : Int) == 45) = true))) := by
        rcases hb3 with rfl | rfl | rfl <;> decide
      clear hb3
      rcases hb3' with h | ⟨h, h2 | ⟨h2, h3⟩⟩
      all_goals
        go_wp2_with fail
        go_ret3
        refine ⟨by rw [← HN.out]; exact HBJ.out, ?_⟩
        unfold CutP
        rw [if_neg hlong2.out, HCR.out, HR2.out]
        simp only [rest_len]
        rw [show s.size - (s.size - j) = j by omega]
        rfl
    have HTE : Hid (R = match tokL s.size j (rest s j) with | .no r => .no r | .ok k r => cutL s.size f' r (decide (k.k ≠ 5)) (l ++ [k])) := Lib.hid (by
      have e1 : ((s.size - (c :: rest s (j + 1)).length : Nat) : Int) = j := by rw [← HRC.out, rest_len]; omega
      by_cases htb : tight = true ∧ sgnB c = false
      · have hR2 : R = .no (rest s j) := by
          rw [← HCJ.out, HRC.out]
          exact cutL_bad _ _ _ _ _ _ H32.out htb
        have hw : wordB c = false := by have := HTJ.out htb.1; rw [HRC.out] at this; exact this
        have ho : Odd c := by
          unfold wordB at hw
          simp only [Bool.or_eq_false_iff] at hw
          exact ⟨hw.1, hw.2, fun h => hbad ⟨htb.1, .inr (.inr h)⟩, fun h => hbad ⟨htb.1, .inr (.inl h)⟩, fun h => hbad ⟨htb.1, .inl h⟩⟩
        rw [tokL_other s.size j (rest s j) c _ HRC.out ho, htb.2, hR2]
        rfl
      · have h1 := cutL_tok s.size f' c (rest s (j + 1)) tight l H32.out htb
        rw [e1, ← HRC.out, HCJ.out] at h1
        exact h1)
    have htc : tight = false ∨ (tight = true ∧ ((c.toNat : Int) == 34) = false ∧ ((c.toNat : Int) == 35) = false ∧ ((c.toNat : Int) == 45) = false) := by
      cases tight with
      | false => exact .inl rfl
      | true => exact .inr ⟨rfl, u8_beq (n := 34) (by decide) fun h => hbad ⟨rfl, .inl h⟩, u8_beq (n := 35) (by decide) fun h => hbad ⟨rfl, .inr (.inl h)⟩, u8_beq (n := 45) (by decide) fun h => hbad ⟨rfl, .inr (.inr h)⟩⟩
    have C51 := Lib.hid (one_any s j hjl hs wr)
    clear hbad
    unfold OneP at C51
    cases hT : tokL s.size j (rest s j) with
    | no r =>
      rw [hT] at HTE C51
      have HC51 := Lib.hid C51.out
      clear C51 hT
      rcases htc with rfl | ⟨rfl, b34, b35, b45⟩
      all_goals
        go_wp2_with (first | (go_at_call 110; refine HC51.out.mono ?_; rintro e w3 ⟨hb3, j2, k0, a0, n0, m0, t0, hij, hj2, hr, rfl⟩; have HB3 := Lib.hid hb3; have HRR := Lib.hid hr; clear hb3 hr))
        go_ret3
        refine ⟨?_, ?_⟩
        · have h1 := HBJ.out.trans ((HB3.out.mono hnw).alloc (o := .cells #[.int .u8 k0, .int .i64 a0, .int .i64 n0, .string t0, .int .i64 m0] 58) (by have := HB3.out.size; omega))
          rw [← HN.out]; exact h1
        · unfold CutP
          rw [if_neg hlong2.out, HCR.out, HTE.out, HRR.out]
          simp only [rest_len]
          rw [show s.size - (s.size - j2) = j2 by omega]
          rfl
    | ok k r =>
      rw [hT] at HTE C51
      obtain ⟨nw, hnw0⟩ : ∃ nw, nw = decide (k.k ≠ 5 ∧ word0 r = true) := ⟨_, rfl⟩
      have HC51 := Lib.hid C51.out
      clear C51 hT
      by_cases hbw : k.k ≠ 5 ∧ word0 r = true
      · have HBW := Lib.hid hbw
        clear hbw hnw0
        rcases htc with rfl | ⟨rfl, b34, b35, b45⟩
        all_goals
          go_wp2_with (first | (go_at_call 110; refine HC51.out.mono ?_; rintro e w3 ⟨hb3, j2, hij, hj2, hr, he⟩; rw [if_pos HBW.out] at he; obtain ⟨k0, a0, n0, m0, t0, rfl⟩ := he; have HB3 := Lib.hid hb3; have HRR := Lib.hid hr; clear hb3 hr))
          go_ret3
          refine ⟨?_, ?_⟩
          · have h1 := HBJ.out.trans ((HB3.out.mono hnw).alloc (o := .cells #[.int .u8 k0, .int .i64 a0, .int .i64 n0, .string t0, .int .i64 m0] 58) (by have := HB3.out.size; omega))
            rw [← HN.out]; exact h1
          · have hfe : ∃ g, f' = g + 1 := ⟨f' - 1, by omega⟩
            obtain ⟨g, rfl⟩ := hfe
            have hRR : R = .no r := by
              rw [HTE.out]
              show cutL s.size (g + 1) r (decide (k.k ≠ 5)) (l ++ [k]) = _
              rw [decide_eq_true HBW.out.1]
              exact cutL_word _ _ _ _ HBW.out.2
            unfold CutP
            rw [if_neg hlong2.out, HCR.out, hRR, HRR.out]
            simp only [rest_len]
            rw [show s.size - (s.size - j2) = j2 by omega]
            rfl
      · have HBW := Lib.hid hbw
        clear hbw hnw0
        rcases htc with rfl | ⟨rfl, b34, b35, b45⟩
        all_goals
          go_upto_region 16 with (first | (go_at_call 110; refine HC51.out.mono ?_; rintro e w3 ⟨hb3, j2, hij, hj2, hr, he⟩; rw [if_neg HBW.out] at he; simp only [Tk.arr] at he; obtain rfl := he; have HB3 := Lib.hid hb3; have HRR := Lib.hid hr; clear hb3 hr))
          obtain ⟨W5, hW5⟩ : ∃ W5, W5 = w3.alloc (.cells #[.int .u8 k.k, .int .i64 k.at_, .int .i64 k.n, .string (txtV k.s), .int .i64 k.r] 58) := ⟨_, rfl⟩
          have HB5 : Hid (Below wr.heap.size wr W5) := Lib.hid (by rw [hW5]; exact HB3.out.alloc HB3.out.size _)
          have HK5 : Hid (BlkN W5 w3.heap.size 58 #[.int .u8 k.k, .int .i64 k.at_, .int .i64 k.n, .string (txtV k.s), .int .i64 k.r]) := Lib.hid (by rw [hW5]; exact BlkN.at_ rfl _ _)
          have HV5 := Lib.hid (HVJ.out.below HB5.out)
          have hs5 := HB5.out.size
          have hk5l := HK5.out.lt
          have q0 := HK5.out.cell 0 rfl
          have q1 := HK5.out.cell 1 rfl
          have q2 := HK5.out.cell 2 rfl
          have q3 := HK5.out.cell 3 rfl
          have q4 := HK5.out.cell 4 rfl
          have hm3 : wr.heap.size ≤ w3.heap.size := HB3.out.size
          rw [← hW5]
          clear hW5
          go_wp2_with (first
            | (refine wpList_append_tk _ rfl (.tmp 50) (.tmp 52) rfl n (.slice A l.length cap) l rfl (HV5.out.below ((Below.refl _ W5).alloc (Nat.le_refl _) (.cells k.arr 58))) W5.heap.size k rfl (BlkN.at_ rfl _ _) (by omega) (by simp; omega) ?_
               intro v7 w7 hv7 hg7
               obtain ⟨A7, cap7, hv7e, hcap7⟩ := hv7.slice
               have hl7 : (l ++ [k]).length = l.length + 1 := by simp
               rw [hl7] at hv7e
               subst hv7e
               have hrow : ∀ g, (Value.slice A l.length cap).ownBlock = some g → n ≤ g ∧ g < wr.heap.size := fun g hg => HVJ.out.blk hg
               have hz7 : BlkN w7 w3.heap.size 58 #[.int .u8 k.k, .int .i64 k.at_, .int .i64 k.n, .string (txtV k.s), .int .i64 k.r] := (hg7.block _ (by simp; omega) (fun e => by have := hrow _ e.symm; omega)).trans (HK5.out.alloc _)
               clear q0 q1 q2 q3 q4
               have q0 := hz7.cell 0 rfl
               have hz7l := hz7.lt
               have HV7 := Lib.hid hv7
               have HB7 : Hid (Below n w w7) := Lib.hid ((HBJ.out.trans (HB5.out.mono hnw)).alloc (by omega) _ |>.grown hg7 (by simp; omega) (fun g hg => (hrow g hg).1))
               clear hz7 hv7 hg7 hrow))
          refine ⟨⟨j2, f', decide (k.k ≠ 5), l ++ [k], rfl, congrArg Value.bool (by rw [Bool.eq_iff_iff]; simp), hj2, by omega, by simp; omega, HV7.out, HB7.out, fun h => ?_, by rw [← HRR.out]; exact HTE.out.symm⟩, by simp only [intOf]; omega⟩
          have h5 := of_decide_eq_true h
          rw [← HRR.out]
          cases hw : word0 r with
          | false => rfl
          | true => exact absurd ⟨h5, hw⟩ HBW.out
end Go.Proofs.YtjmelamllapmiaaGreatDoor
