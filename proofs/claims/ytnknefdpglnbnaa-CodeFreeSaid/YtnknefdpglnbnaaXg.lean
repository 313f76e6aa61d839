/- The program's side of CodeUses: the keys of a map, sorted. The program's side of CodeUses: a name is added to the set; the names in an expression are told. -/
import Derived.Test.YtnknefdpglnbnaaRows
import Derived.Test.YtnknefdpglnbnaaXs
import Derived.Test.YtnknefdpglnbnaaXa
import Derived.Sort.KeysCollected
import Derived.Sort.OwnSorted
import Derived.Maps.RangeWalk
import Derived.Maps.AppendAt
import Derived.Test.YtnknefdpglnbnaaZf
import Derived.Maps.OwnOps
import Derived.StringKeys
namespace Go.Proofs.Ytnknefdpglnbnaa
open Go Go.RowKit Go.Maps Go.Sort

theorem keyed9 : Keyed Try.prog 9 := string_keyed Try.underlying9
/-- A row of the call's own that holds these texts. -/
def KRow (w : World) (lo : Nat) (sl : Value) (ss : List (List UInt8)) : Prop := w.ownsRow lo 9 1 sl ss.length (ss.map encStr)
theorem sort132_any (w : World) (lo : Nat) (sl : Value) (ss : List (List UInt8)) (h : KRow w lo sl ss) (hl : ss.length < 4611686018427387904) :
    Calls Try.prog 132 #[sl] w fun e w' => e = .returned (.tuple #[]) ∧ KRow w' lo sl (ss.mergeSort fun x y => decide (x ≤ y)) ∧ w.grownBy w' sl.ownBlock := by
  rcases h.2 with ⟨rfl, h0⟩ | ⟨g, cap, cur, rfl, hbase, hb, h1, h2, h3, h4⟩
  · have e : ss = [] := List.eq_nil_of_length_eq_zero h0
    subst e
    refine (AnyM.slices_Sort_string_none Try.sortS Option.none 0 w).mono ?_
    rintro e w' ⟨rfl, rfl⟩
    exact ⟨rfl, by rw [List.mergeSort_nil]; exact h, ⟨rfl, rfl, rfl, Nat.le_refl _, fun _ _ _ => rfl⟩⟩
  · refine (AnyM.slices_Sort_string Try.sortS g 0 cap ss w (holds_of_block hb (by simpa using h4)) (Array.getElem?_eq_some_iff.1 hb).1 hl).mono ?_
    rintro e w' ⟨rfl, n, os, rfl⟩
    refine ⟨rfl, ?_, grownBy_sorted _⟩
    have := ownsRow_sorted (n := n) (os := os) (ss := ss) (ts := ss.mergeSort fun x y => decide (x ≤ y)) (by simp) hbase hb h1 h2 h3
    unfold KRow
    simpa using this
attribute [local irreducible] wpList
set_option maxRecDepth 100000 in
set_option maxHeartbeats 1000000 in
theorem list101_any {H : Type} (b n : Nat) (D0 : DataW H) (w : World) (hown : w.ownsMap Try.prog 9 (plainElem Try.prog 3) b n D0) (hmax : Maps.size D0 ≤ 1000000) :
    Calls Try.prog 101 #[.map (some b)] w fun e w' => ∃ (sl : Value) (ss : List (List UInt8)), e = .returned sl ∧ (ss.Nodup ∧ ∀ x, x ∈ ss ↔ has D0 (.string x) = true) ∧ KRow w' w.heap.size sl (ss.mergeSort fun x y => decide (x ≤ y)) ∧ Below w.heap.size w w' := by
  obtain ⟨i0, hi, hz0, hz1, hz2⟩ := info_parts info9
  have hbl := hown.lt
  go_enter Try.func101, Try.ntmps101
  go_wp2_with (refine wpList_range_own _ rfl (.tmp 5) 120 rfl 9 3 keyed9 Try.underlying120 (plainElem Try.prog 3) b n D0 rfl hown ?_; intro w0 hrg0 hg0 hs0)
  clear hs0
  go_frame
  go_loopw [3] (fun v wr => ∃ (left : Lit → Bool) (cnt : Nat) (ss : List (List UInt8)), wr.ranges Try.prog 9 (plainElem Try.prog 3) b w.heap.size n D0 left cnt ∧ ss.length + cnt ≤ Maps.size D0 ∧
      wr.ownsRow (w.heap.size + 1) 9 1 v ss.length (ss.map encStr) ∧ Collected D0 left ss ∧ Below w.heap.size w wr)
    (fun _ wr => wr.rangeLeft b w.heap.size)
  case atStart =>
    exact ⟨_, _, [], hrg0, by simp, World.ownsRow_nil _ _ _ _, Collected.start D0, (Below.refl _ _).grown hg0 (Nat.le_refl _) (fun j hj => by cases hj)⟩
  case round =>
    obtain ⟨left, cnt, ss, hrg, hcs, hrow, hC, hnx⟩ := hrel
    have hls := hrg.lt
    go_wp2_with (refine wpList_next_ranges _ rfl (.tmp 6) rfl 9 keyed9 (plainElem Try.prog 3) encStr (Value.int .i64) (fun key kl hk => by obtain ⟨x, hx, _⟩ := Maps.keyOf_str Try.underlying9 hk; exact ⟨x, hx⟩) (fun v y hv => by obtain ⟨c, rfl, _⟩ := plainElem_int_inv Try.underlying3 hv; exact ⟨c, rfl⟩) b w.heap.size n _ _ _ rfl hrg ?_ ?_)
    · intro hc0 hl0
      have HR := Lib.hid (show KRow _ _ _ _ from hrow)
      have HP : Hid (ss.Nodup ∧ ∀ x, x ∈ ss ↔ has D0 (.string x) = true) := Lib.hid ⟨hC.1, fun x => by rw [hC.2 x, hl0]; simp⟩
      have hn2 : ss.length < 4611686018427387904 := by omega
      have HNX := Lib.hid hnx
      have hsz := hnx.size
      clear hrow hC hnx hrg hl0
      go_wp2_with (go_at_call 132; refine (sort132_any _ _ _ ss HR.out hn2).mono ?_; rintro e w3 ⟨rfl, hr3, hg3⟩)
      go_ret
      exact ⟨_, ss, rfl, HP.out, row_low hr3 (by omega), HNX.out.grown hg3 hsz (fun k e => by have := (HR.out.lt k e).1; omega)⟩
    · intro x c kl yd yp w2 cnt2 hkey hlk hv hat hrg2 hlt hg2 hs2 hen
      obtain ⟨x', ex, rfl, _⟩ := Maps.keyOf_str Try.underlying9 hkey
      obtain rfl : x = x' := encStr_inj ex
      have hrow2 := hrow.kept hg2 (Or.inr (row_ne_iter hrow hrg).symm)
      have hsz2 := hg2.size
      have hszr := hnx.size
      clear hs2
      go_wp2_with (at_builtin; refine wpList_append_row _ rfl (.tmp 11) (.tmp 13) 56 rfl (w.heap.size + 1) 9 i0 (.string ⟨#[]⟩) 1 16 Try.underlying56 hi hz0 hz1 hz2 rfl (by decide) _ _ _ rfl (hrow2.alloc _) ⟨w2.heap.size, 0, Option.none⟩ 1 1 [encStr x] rfl rfl (cell_one_new _ _ _) (by simp [Value.oneCell', encStr]) (by unfold maxLen; omega) (by omega) (by simp; omega) ?_; intro v' w3 hown' hg3 hor3)
      have hrg3 := (hrg2.alloc (.cells #[encStr x] 9)).kept hg3 (row_ne_low hrow2 (by omega)) (row_ne_low hrow2 (by omega))
      go_roundw
      case rel =>
        refine ⟨_, cnt2, ss ++ [x], hrg3, by simp; omega, by simpa using hown', hC.step hlk hat, ?_⟩
        exact ((hnx.grown hg2 hnx.size (fun j hj => by cases hj; exact Nat.le_refl _)).alloc (by omega) _).grown hg3 (by simp; omega) (fun j hj => by have := (hrow2.lt j hj).1; omega)
      case measure => rw [hrg3.left_eq, hrg.left_eq]; exact hlt
end Go.Proofs.Ytnknefdpglnbnaa
namespace Go.Proofs.Ytnknefdpglnbnaa
open Go Go.RowKit Go.Maps

/-- Block b is a map whose keys are these texts. -/
def MpN (w : World) (b : Nat) (ns : List (List UInt8)) : Prop :=
  ∃ (D : DataW Nat) (n : Nat), w.ownsMap Try.prog 9 (plainElem Try.prog 3) b n D ∧ n ≤ ns.length ∧ ∀ x, has D (.string x) = true ↔ x ∈ ns
def addN (s : ByteArray) (ns : List (List UInt8)) : List (List UInt8) := if (s.toList == []) = true then ns else s.data.toList :: ns
structure NTellerB (k : Nat) (caps : Array Value) (O : Nat → Prop) (J : List ByteArray → World → Prop) (B p : Nat) (w0 : World) : Prop where
  cf : ∀ args w, (callFunc k args).run Try.prog w = .ok (.enter k args) w
  own : ∀ b, O b → b < w0.heap.size
  ownp : O p
  size : ∀ told w, J told w → w0.heap.size ≤ w.heap.size
  keep : ∀ told w, J told w → ∀ b, b < B → w.heap[b]? = w0.heap[b]?
  mono : ∀ told w w', J told w → Below w.heap.size w w' → J told w'
  call : ∀ told s w, J told w → s.size ≤ 140737488351232 → Calls Try.prog k (#[.string s] ++ caps) w fun e w' => e = .returned (.tuple #[]) ∧ J (told ++ [s]) w' ∧ Kp O p w w'
def NameBC (k : Nat) (caps : Array Value) (O : Nat → Prop) (J : List ByteArray → World → Prop) (B p : Nat) (x : Ex) : Prop :=
  ∀ (w : World) (v : Value) (told : List ByteArray), IsEx w B v x → J told w → Calls Try.prog 83 #[v, .func (.func k) #[] caps] w fun e w' => e = .returned (.tuple #[]) ∧ J (told ++ namesX x) w' ∧ Kp O p w w'
set_option maxRecDepth 100000 in
set_option maxHeartbeats 1000000 in
theorem namesB_any (k : Nat) (caps : Array Value) (O : Nat → Prop) (J : List ByteArray → World → Prop) (B p : Nat) (w0 : World) (hT : NTellerB k caps O J B p w0) (_hB : B ≤ w0.heap.size) (x : Ex) : NameBC k caps O J B p x := by
  induction x using Ex.ind with
  | h kd n s l IH =>
    intro w v told h hJ
    obtain ⟨h1, h2, h3, h4, A, cap, h5, rfl, h7⟩ := h.form
    have hcf := hT.cf
    have HT := Lib.hid hT
    have HI := Lib.hid IH
    have hb0 : Below w.heap.size w (w.alloc (.cells #[.int .u8 kd, .int .i64 n, .string s, .slice A l.length cap] 26)) := (Below.refl _ _).alloc (Nat.le_refl _) _
    have H7 := Lib.hid h7
    have hsz0 := hT.size _ _ hJ
    have HJ := Lib.hid hJ
    have HJ1 := Lib.hid (hT.mono _ _ _ hJ hb0)
    have hfr : ¬ O w.heap.size := fun ho => absurd (hT.own _ ho) (by omega)
    have HFR := Lib.hid hfr
    have HB1 : Hid (BlkN (w.alloc (.cells #[.int .u8 kd, .int .i64 n, .string s, .slice A l.length cap] 26)) w.heap.size 26 #[.int .u8 kd, .int .i64 n, .string s, .slice A l.length cap]) := Lib.hid (BlkN.at_ rfl _ _)
    have HB0 := Lib.hid hb0
    clear h h7 hT IH hJ hfr hb0
    have main : ∀ (w1 : World) (t1 : List ByteArray), t1 = told ++ (if kd = 4 then [s] else []) → J t1 w1 → Kp O p w w1 → True := fun _ _ _ _ _ => trivial
    clear main
    by_cases hk4 : kd = 4
    · subst hk4
      go_enter Try.func83, Try.ntmps83
      go_wp2_with (first | (refine (HT.out.call told s _ HJ1.out h3).mono ?_; rintro e w1 ⟨rfl, hj1, hk1⟩; have hbb : BlkN w1 w.heap.size 26 #[.int .u8 4, .int .i64 n, .string s, .slice A l.length cap] := (hk1.block _ HB1.out.lt HFR.out (fun e => HFR.out (e ▸ HT.out.ownp))).trans HB1.out; have q3 := hbb.cell 3 rfl; clear hbb))
      obtain ⟨T1, hT1⟩ : ∃ T1, T1 = told ++ [s] := ⟨_, rfl⟩
      have HJW := Lib.hid hj1
      have HKW := Lib.hid ((Kp.of_below (O := O) (p := p) HB0.out).trans hk1)
      rw [← hT1] at HJW
      have HT1 := Lib.hid hT1
      clear hj1 hk1 q3 hT1
      go_loopw [16] (fun i wr => ∃ j : Nat, j ≤ l.length ∧ i = .int .i64 j ∧ J (T1 ++ namesXs (l.take j)) wr ∧ Kp O p w wr) (fun i _ => l.length - (intOf i).toNat)
      case atStart => exact ⟨0, Nat.zero_le _, rfl, by simpa [namesXs] using HJW.out, HKW.out⟩
      case round =>
        obtain ⟨j, hj, rfl, hjr, hkr⟩ := hrel
        have HJR := Lib.hid hjr
        have HKR := Lib.hid hkr
        clear hjr hkr
        by_cases hlt : j < l.length
        · obtain ⟨b, o, hbB, hA, hx⟩ := H7.out (by rintro rfl; simp at hlt)
          have hkw : ∀ b, b < B → wr.heap[b]? = w.heap[b]? := fun b hb => (HT.out.keep _ _ HJR.out b hb).trans (HT.out.keep _ _ HJ.out b hb).symm
          obtain ⟨k', n', s', A', len', cap', hat, hxj⟩ := hx.at2 j hlt
          have hat' := At.keep hat hbB hkw
          have hxr := IsEx.keep hkw hxj
          obtain ⟨e0, e1, e2, e3⟩ := hat'.four
          have hb1 : Below wr.heap.size wr (wr.alloc (.cells #[.int .u8 k', .int .i64 n', .string s', .slice A' len' cap'] 26)) := (Below.refl _ _).alloc (Nat.le_refl _) _
          have HJ2 := Lib.hid (HT.out.mono _ _ _ HJR.out hb1)
          have HX2 := Lib.hid (IsEx.keep (fun b hb => (HT.out.keep _ _ HJ2.out b hb).trans (HT.out.keep _ _ HJR.out b hb).symm) hxr)
          have HKA := Lib.hid (HKR.out.trans (Kp.of_below (O := O) (p := p) hb1))
          have HNT := Lib.hid (namesXs_take l j hlt)
          subst hA
          clear hx hat hat' hxj hxr hkw hb1
          go_wp2_with (go_at_call 83; refine (HI.out l[j] (List.getElem_mem hlt) _ _ _ HX2.out HJ2.out).mono ?_; rintro e w2 ⟨rfl, hj2, hk2⟩)
          go_roundw
          case rel => exact ⟨j + 1, by omega, by go_num, by rw [HNT.out, ← List.append_assoc]; exact hj2, HKA.out.trans hk2⟩
          case measure => simp [intOf]; omega
        · obtain rfl : j = l.length := by omega
          go_wp2_with fail
          go_end0
          have hz := HJR.out
          rw [List.take_length] at hz
          refine ⟨rfl, ?_, HKR.out⟩
          rw [HT1.out] at hz
          simpa [namesX, List.append_assoc] using hz
    · have hk4' : (kd == 4) = false := by simpa using hk4
      go_enter Try.func83, Try.ntmps83
      go_wp2_with fail
      obtain ⟨T1, hT1⟩ : ∃ T1, T1 = told := ⟨_, rfl⟩
      have HJW := Lib.hid HJ1.out
      have HKW := Lib.hid (Kp.of_below (O := O) (p := p) HB0.out)
      rw [← hT1] at HJW
      have HT1 := Lib.hid hT1
      clear hT1
      go_loopw [16] (fun i wr => ∃ j : Nat, j ≤ l.length ∧ i = .int .i64 j ∧ J (T1 ++ namesXs (l.take j)) wr ∧ Kp O p w wr) (fun i _ => l.length - (intOf i).toNat)
      case atStart => exact ⟨0, Nat.zero_le _, rfl, by simpa [namesXs] using HJW.out, HKW.out⟩
      case round =>
        obtain ⟨j, hj, rfl, hjr, hkr⟩ := hrel
        have HJR := Lib.hid hjr
        have HKR := Lib.hid hkr
        clear hjr hkr
        by_cases hlt : j < l.length
        · obtain ⟨b, o, hbB, hA, hx⟩ := H7.out (by rintro rfl; simp at hlt)
          have hkw : ∀ b, b < B → wr.heap[b]? = w.heap[b]? := fun b hb => (HT.out.keep _ _ HJR.out b hb).trans (HT.out.keep _ _ HJ.out b hb).symm
          obtain ⟨k', n', s', A', len', cap', hat, hxj⟩ := hx.at2 j hlt
          have hat' := At.keep hat hbB hkw
          have hxr := IsEx.keep hkw hxj
          obtain ⟨e0, e1, e2, e3⟩ := hat'.four
          have hb1 : Below wr.heap.size wr (wr.alloc (.cells #[.int .u8 k', .int .i64 n', .string s', .slice A' len' cap'] 26)) := (Below.refl _ _).alloc (Nat.le_refl _) _
          have HJ2 := Lib.hid (HT.out.mono _ _ _ HJR.out hb1)
          have HX2 := Lib.hid (IsEx.keep (fun b hb => (HT.out.keep _ _ HJ2.out b hb).trans (HT.out.keep _ _ HJR.out b hb).symm) hxr)
          have HKA := Lib.hid (HKR.out.trans (Kp.of_below (O := O) (p := p) hb1))
          have HNT := Lib.hid (namesXs_take l j hlt)
          subst hA
          clear hx hat hat' hxj hxr hkw hb1
          go_wp2_with (go_at_call 83; refine (HI.out l[j] (List.getElem_mem hlt) _ _ _ HX2.out HJ2.out).mono ?_; rintro e w2 ⟨rfl, hj2, hk2⟩)
          go_roundw
          case rel => exact ⟨j + 1, by omega, by go_num, by rw [HNT.out, ← List.append_assoc]; exact hj2, HKA.out.trans hk2⟩
          case measure => simp [intOf]; omega
        · obtain rfl : j = l.length := by omega
          go_wp2_with fail
          go_end0
          have hz := HJR.out
          rw [List.take_length] at hz
          refine ⟨rfl, ?_, HKR.out⟩
          rw [HT1.out] at hz
          simpa [namesX, hk4] using hz
set_option maxRecDepth 100000 in
set_option maxHeartbeats 1000000 in
theorem add100_any (s : ByteArray) (b : Nat) (ns : List (List UInt8)) (w : World) (h : MpN w b ns) (hs : s.size ≤ 140737488351232) (hn : ns.length ≤ 10000000) :
    Calls Try.prog 100 #[.map (some b), .string s] w fun e w' => e = .returned (.tuple #[]) ∧ MpN w' b (addN s ns) ∧ w.grownBy w' (some b) := by
  obtain ⟨D, n, hown, hnl, hk⟩ := h
  unfold addN
  cases hc : (s.toList == [])
  · have hkey : keyOf Try.prog 9 (.string s) = some (.string s.data.toList) := WideMaps.keyOf_string_mk Try.underlying9 (by unfold maxLen; omega)
    obtain ⟨c, hrun, hat, hwc⟩ := hown.lookup_int keyed9 Try.underlying120 Try.underlying3 (by go_simp) hkey
    have hwf : (Lit.int .i64 (wrap64 (c + 1))).wf = true := wrap64_wf _
    go_enter Try.func100, Try.ntmps100
    go_wp2_with (at_mapUpdate; refine wpList_mapUpdate_own _ rfl (.tmp 6) (.tmp 7) (.tmp 9) 120 rfl 9 3 keyed9 Try.underlying120 (plainElem Try.prog 3) b n D rfl hown (by unfold maxLen; omega) (.string s) (.int .i64 (wrap64 (c + 1))) (.string s.data.toList) rfl rfl hkey (.lit (.int .i64 (wrap64 (c + 1)))) [] (plainElem_int Try.underlying3 hwf) ?_; intro w1 hown1 hg1)
    go_end0
    refine ⟨rfl, ⟨_, _, hown1, by simp; omega, fun x => ?_⟩, hg1⟩
    have hne : (s.toList == []) = false := hc
    by_cases hx : x = s.data.toList
    · subst hx
      rw [has_put_same (by obtain ⟨es, e, _⟩ := hown.entries keyed9; exact ⟨es, e⟩) (k := .string s.data.toList) trivial]
      simp
    · rw [has_put_other (by intro e; injection e with e; exact hx e), hk x]
      simp [hx]
  · go_enter Try.func100, Try.ntmps100
    go_wp2_with fail
    go_end0
    exact ⟨rfl, ⟨D, n, hown, hnl, hk⟩, ⟨rfl, rfl, rfl, Nat.le_refl _, fun _ _ _ => rfl⟩⟩
end Go.Proofs.Ytnknefdpglnbnaa
