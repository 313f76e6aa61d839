/- The program's side of CodeUses: the names in an expression, told to a method value. -/
import Derived.Test.YtnknefdpglnbnaaXj
namespace Go.Proofs.Ytnknefdpglnbnaa
open Go Go.RowKit Go.Maps
structure NTellerM (k : Nat) (mv : Value) (O : Nat → Prop) (J : List ByteArray → World → Prop) (B p : Nat) (w0 : World) : Prop where
  cf : ∀ args w, (callFunc k args).run Try.prog w = .ok (.enter k args) w
  own : ∀ b, O b → b < w0.heap.size
  ownp : O p
  size : ∀ told w, J told w → w0.heap.size ≤ w.heap.size
  keep : ∀ told w, J told w → ∀ b, b < B → w.heap[b]? = w0.heap[b]?
  mono : ∀ told w w', J told w → Below w.heap.size w w' → J told w'
  call : ∀ told s w, J told w → s.size ≤ 140737488351232 → told.length ≤ 2000 → Calls Try.prog k #[mv, .string s] w fun e w' => e = .returned (.tuple #[]) ∧ J (told ++ [s]) w' ∧ Kp O p w w'
def NameMC (k : Nat) (mv : Value) (O : Nat → Prop) (J : List ByteArray → World → Prop) (B p : Nat) (x : Ex) : Prop :=
  ∀ (w : World) (v : Value) (told : List ByteArray), IsEx w B v x → J told w → told.length + (namesX x).length ≤ 2000 → Calls Try.prog 83 #[v, .func (.func k) #[mv] #[]] w fun e w' => e = .returned (.tuple #[]) ∧ J (told ++ namesX x) w' ∧ Kp O p w w'
set_option maxRecDepth 100000 in
set_option maxHeartbeats 1000000 in
theorem namesM_any (k : Nat) (mv : Value) (O : Nat → Prop) (J : List ByteArray → World → Prop) (B p : Nat) (w0 : World) (hT : NTellerM k mv O J B p w0) (_hB : B ≤ w0.heap.size) (x : Ex) : NameMC k mv O J B p x := by
  induction x using Ex.ind with
  | h kd n s l IH =>
    intro w v told h hJ hLn
    have hLs : told.length + ((if kd = 4 then [s] else ([] : List ByteArray)).length + (namesXs l).length) ≤ 2000 := by simpa only [namesX, List.length_append] using hLn
    have HLS := Lib.hid hLs
    clear hLs hLn
    obtain ⟨h1, h2, h3, h4, A, cap, h5, rfl, h7⟩ := h.form
    have hcf := hT.cf
    have HT := Lib.hid hT
    have HI := Lib.hid IH
    have hb0 : Below w.heap.size w (w.alloc (.cells #[.int .u8 kd, .int .i64 n, .string s, .slice A l.length cap] 26)) := (Below.refl _ _).alloc (Nat.le_refl _) _
    have H7 := Lib.hid h7
    have hsz0 := hT.size _ _ hJ
    have HJ := Lib.hid hJ
    have HJ1 := Lib.hid (hT.mono _ _ _ hJ hb0)
    have hfr : ¬ O w.heap.size := fun ho => absurd (hT.own _ ho) (by omega)
    have HFR := Lib.hid hfr
    have HB1 : Hid (BlkN (w.alloc (.cells #[.int .u8 kd, .int .i64 n, .string s, .slice A l.length cap] 26)) w.heap.size 26 #[.int .u8 kd, .int .i64 n, .string s, .slice A l.length cap]) := Lib.hid (BlkN.at_ rfl _ _)
    have HB0 := Lib.hid hb0
    clear h h7 hT IH hJ hfr hb0
    have main : ∀ (w1 : World) (t1 : List ByteArray), t1 = told ++ (if kd = 4 then [s] else []) → J t1 w1 → Kp O p w w1 → True := fun _ _ _ _ _ => trivial
    clear main
    by_cases hk4 : kd = 4
    · subst hk4
      have hLs : told.length + (1 + (namesXs l).length) ≤ 2000 := by simpa using HLS.out
      go_enter Try.func83, Try.ntmps83
      go_wp2_with (first | (refine (HT.out.call told s _ HJ1.out h3 (by omega)).mono ?_; rintro e w1 ⟨rfl, hj1, hk1⟩; have hbb : BlkN w1 w.heap.size 26 #[.int .u8 4, .int .i64 n, .string s, .slice A l.length cap] := (hk1.block _ HB1.out.lt HFR.out (fun e => HFR.out (e ▸ HT.out.ownp))).trans HB1.out; have q3 := hbb.cell 3 rfl; clear hbb))
      obtain ⟨T1, hT1⟩ : ∃ T1, T1 = told ++ [s] := ⟨_, rfl⟩
      have HJW := Lib.hid hj1
      have HKW := Lib.hid ((Kp.of_below (O := O) (p := p) HB0.out).trans hk1)
      rw [← hT1] at HJW
      have HT1 := Lib.hid hT1
      have hT1l : T1.length + (namesXs l).length ≤ 2000 := by rw [hT1]; (try simp); omega
      clear hj1 hk1 q3 hT1
      go_loopw [16] (fun i wr => ∃ j : Nat, j ≤ l.length ∧ i = .int .i64 j ∧ J (T1 ++ namesXs (l.take j)) wr ∧ Kp O p w wr) (fun i _ => l.length - (intOf i).toNat)
      case atStart => exact ⟨0, Nat.zero_le _, rfl, by simpa [namesXs] using HJW.out, HKW.out⟩
      case round =>
        obtain ⟨j, hj, rfl, hjr, hkr⟩ := hrel
        have HJR := Lib.hid hjr
        have HKR := Lib.hid hkr
        clear hjr hkr
        by_cases hlt : j < l.length
        · obtain ⟨b, o, hbB, hA, hx⟩ := H7.out (by rintro rfl; simp at hlt)
          have hkw : ∀ b, b < B → wr.heap[b]? = w.heap[b]? := fun b hb => (HT.out.keep _ _ HJR.out b hb).trans (HT.out.keep _ _ HJ.out b hb).symm
          obtain ⟨k', n', s', A', len', cap', hat, hxj⟩ := hx.at2 j hlt
          have hat' := At.keep hat hbB hkw
          have hxr := IsEx.keep hkw hxj
          obtain ⟨e0, e1, e2, e3⟩ := hat'.four
          have hb1 : Below wr.heap.size wr (wr.alloc (.cells #[.int .u8 k', .int .i64 n', .string s', .slice A' len' cap'] 26)) := (Below.refl _ _).alloc (Nat.le_refl _) _
          have HJ2 := Lib.hid (HT.out.mono _ _ _ HJR.out hb1)
          have HX2 := Lib.hid (IsEx.keep (fun b hb => (HT.out.keep _ _ HJ2.out b hb).trans (HT.out.keep _ _ HJR.out b hb).symm) hxr)
          have HKA := Lib.hid (HKR.out.trans (Kp.of_below (O := O) (p := p) hb1))
          have HNT := Lib.hid (namesXs_take l j hlt)
          have hb2 : (T1 ++ namesXs (l.take j)).length + (namesX l[j]).length ≤ 2000 := by
            have h1 := namesXs_len_take l j hlt
            have h2 := congrArg List.length (namesXs_take l j hlt)
            simp only [List.length_append] at h2 ⊢
            omega
          subst hA
          clear hx hat hat' hxj hxr hkw hb1
          go_wp2_with (go_at_call 83; refine (HI.out l[j] (List.getElem_mem hlt) _ _ _ HX2.out HJ2.out hb2).mono ?_; rintro e w2 ⟨rfl, hj2, hk2⟩)
          go_roundw
          case rel => exact ⟨j + 1, by omega, by go_num, by rw [HNT.out, ← List.append_assoc]; exact hj2, HKA.out.trans hk2⟩
          case measure => simp [intOf]; omega
        · obtain rfl : j = l.length := by omega
          go_wp2_with fail
          go_end0
          have hz := HJR.out
          rw [List.take_length] at hz
          refine ⟨rfl, ?_, HKR.out⟩
          rw [HT1.out] at hz
          simpa [namesX, List.append_assoc] using hz
    · have hk4' : (kd == 4) = false := by simpa using hk4
      have hLs : told.length + (namesXs l).length ≤ 2000 := by have := HLS.out; rw [if_neg hk4] at this; simpa using this
      go_enter Try.func83, Try.ntmps83
      go_wp2_with fail
      obtain ⟨T1, hT1⟩ : ∃ T1, T1 = told := ⟨_, rfl⟩
      have HJW := Lib.hid HJ1.out
      have HKW := Lib.hid (Kp.of_below (O := O) (p := p) HB0.out)
      rw [← hT1] at HJW
      have HT1 := Lib.hid hT1
      have hT1l : T1.length + (namesXs l).length ≤ 2000 := by rw [hT1]; (try simp); omega
      clear hT1
      go_loopw [16] (fun i wr => ∃ j : Nat, j ≤ l.length ∧ i = .int .i64 j ∧ J (T1 ++ namesXs (l.take j)) wr ∧ Kp O p w wr) (fun i _ => l.length - (intOf i).toNat)
      case atStart => exact ⟨0, Nat.zero_le _, rfl, by simpa [namesXs] using HJW.out, HKW.out⟩
      case round =>
        obtain ⟨j, hj, rfl, hjr, hkr⟩ := hrel
        have HJR := Lib.hid hjr
        have HKR := Lib.hid hkr
        clear hjr hkr
        by_cases hlt : j < l.length
        · obtain ⟨b, o, hbB, hA, hx⟩ := H7.out (by rintro rfl; simp at hlt)
          have hkw : ∀ b, b < B → wr.heap[b]? = w.heap[b]? := fun b hb => (HT.out.keep _ _ HJR.out b hb).trans (HT.out.keep _ _ HJ.out b hb).symm
          obtain ⟨k', n', s', A', len', cap', hat, hxj⟩ := hx.at2 j hlt
          have hat' := At.keep hat hbB hkw
          have hxr := IsEx.keep hkw hxj
          obtain ⟨e0, e1, e2, e3⟩ := hat'.four
          have hb1 : Below wr.heap.size wr (wr.alloc (.cells #[.int .u8 k', .int .i64 n', .string s', .slice A' len' cap'] 26)) := (Below.refl _ _).alloc (Nat.le_refl _) _
          have HJ2 := Lib.hid (HT.out.mono _ _ _ HJR.out hb1)
          have HX2 := Lib.hid (IsEx.keep (fun b hb => (HT.out.keep _ _ HJ2.out b hb).trans (HT.out.keep _ _ HJR.out b hb).symm) hxr)
          have HKA := Lib.hid (HKR.out.trans (Kp.of_below (O := O) (p := p) hb1))
          have HNT := Lib.hid (namesXs_take l j hlt)
          have hb2 : (T1 ++ namesXs (l.take j)).length + (namesX l[j]).length ≤ 2000 := by
            have h1 := namesXs_len_take l j hlt
            have h2 := congrArg List.length (namesXs_take l j hlt)
            simp only [List.length_append] at h2 ⊢
            omega
          subst hA
          clear hx hat hat' hxj hxr hkw hb1
          go_wp2_with (go_at_call 83; refine (HI.out l[j] (List.getElem_mem hlt) _ _ _ HX2.out HJ2.out hb2).mono ?_; rintro e w2 ⟨rfl, hj2, hk2⟩)
          go_roundw
          case rel => exact ⟨j + 1, by omega, by go_num, by rw [HNT.out, ← List.append_assoc]; exact hj2, HKA.out.trans hk2⟩
          case measure => simp [intOf]; omega
        · obtain rfl : j = l.length := by omega
          go_wp2_with fail
          go_end0
          have hz := HJR.out
          rw [List.take_length] at hz
          refine ⟨rfl, ?_, HKR.out⟩
          rw [HT1.out] at hz
          simpa [namesX, hk4] using hz
end Go.Proofs.Ytnknefdpglnbnaa
