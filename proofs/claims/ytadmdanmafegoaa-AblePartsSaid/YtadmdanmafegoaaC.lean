/- Contracts of able.Place, able.names, able.Each (an iterator), for every byte. -/
import Derived.Test.YtadmdanmafegoaaB
import Derived.RangeFuncNested
import Derived.RangeFuncBound
import Derived.RangeFuncCalls
import Derived.RangeFuncLeaves
import Derived.RangeFuncBox
import Derived.Shelf.Abstract
import Derived.Shelf.RegionOpen
import Derived.OwnWalkIn
import Derived.TacticsInMore
import Derived.LoopNIn
import Derived.LoopIn
import Derived.Maps.AppendAt
namespace Go.Proofs.Ytadmdanmafegoaa
open Go.RowKit Go.Shelf
attribute [local go_sem] Oper.semAt_some

theorem tz_any (x : Int) (a : Nat) (hx : x = a) (ha : a < 256) (w : World) :
    Calls Try.prog 40 #[.int .u8 x] w fun e w' => e = .returned (.int .i64 (Lib.trailingZeros8 a)) ∧ w = w' := by
  subst hx
  exact (Try.bits_TrailingZeros8 _ _ (by omega) (by omega)).mono fun e w' ⟨h1, h2⟩ => ⟨by rw [h1]; rfl, h2.symm⟩
def errN (b : Bool) (n : Nat) : Nat := if b then 0 else n
set_option maxHeartbeats 400000 in
theorem place_any (a : Nat) (ha : a < 256) (w : World) :
    Calls Try.prog 15 #[.int .u8 a] w fun e w' => e = .returned (.tuple #[.int .i64 (placeN a), .int .i64 (errN (oneB a) 2)]) ∧ w = w' := by
  cases hm : oneB a
  all_goals
    have Hm := Lib.hid hm
    go_enter Try.func15, Try.ntmps15
    go_wp2_with (first | (go_at_call 19; refine (one_any a ha _).mono ?_; rintro e w' ⟨rfl, rfl⟩) | (go_at_call 40; refine (tz_any _ a (by omega) (by omega) _).mono ?_; rintro e w' ⟨rfl, rfl⟩))
    go_ret2
    exact ⟨by simp [placeN, Hm.out, errN], rfl⟩

set_option maxHeartbeats 400000 in
theorem names_any (w : World) :
    Calls Try.prog 38 #[] w fun e w' => e = .returned (.agg #[nmV 0, nmV 1, nmV 2, nmV 3, nmV 4, nmV 5]) ∧ w' = w.alloc (.cells #[nmV 0, nmV 1, nmV 2, nmV 3, nmV 4, nmV 5] 56) := by
  go_enter Try.func38, Try.ntmps38
  go_wp2
  exact bodyPost_ret (v := .agg #[nmV 0, nmV 1, nmV 2, nmV 3, nmV 4, nmV 5]) (by simp [results, Try.results38, go_sem, nmV, nmL]) rfl ⟨rfl, rfl⟩

/-! able.Each -/
def fins : List (Fin 6) := [0, 1, 2, 3, 4, 5]
def eachTo (a k : Nat) : List (Fin 6) := (fins.take k).filter (fun j => a.testBit j)
theorem eachTo_succ (a k : Nat) (hk : k < 6) : eachTo a (k + 1) = eachTo a k ++ (if a.testBit k then [⟨k, hk⟩] else []) := by
  have : fins.take (k + 1) = fins.take k ++ [⟨k, hk⟩] := by
    have h : k = 0 ∨ k = 1 ∨ k = 2 ∨ k = 3 ∨ k = 4 ∨ k = 5 := by omega
    rcases h with rfl | rfl | rfl | rfl | rfl | rfl <;> rfl
  unfold eachTo
  rw [this, List.filter_append]
  cases h : a.testBit k <;> simp [h]
theorem eachTo_le (a k : Nat) : (eachTo a k).length ≤ k := by
  unfold eachTo; exact Nat.le_trans (List.length_filter_le _ _) (List.length_take_le _ _)
theorem eachTo_pre (a k : Nat) (hk : k ≤ 6) : eachTo a k <+: eachTo a 6 := by
  obtain ⟨m, hm⟩ : ∃ m, k + m = 6 := ⟨6 - k, by omega⟩
  induction m generalizing k with
  | zero => rw [show k = 6 by omega]; exact List.prefix_refl _
  | succ m ih => exact List.IsPrefix.trans ⟨_, (eachTo_succ a k (by omega)).symm⟩ (ih (k + 1) (by omega) (by omega))
set_option maxHeartbeats 400000 in
theorem each_any (a : Nat) (w : World) :
    Calls Try.prog 37 #[.int .u8 a] w fun e w' => e = .returned (.func (.func 47) #[] #[.pointer (some ⟨w.heap.size, 0, Option.none⟩)]) ∧ w' = w.alloc (.cells #[.int .u8 a] 22) := by
  go_enter Try.func37, Try.ntmps37
  go_wp2
  go_ret
  exact ⟨rfl, rfl⟩
/-- what a round keeps: the box of the set. -/
def Kc (b : Nat) (W W' : World) : Prop := W'.cell? ⟨b, 0, Option.none⟩ = W.cell? ⟨b, 0, Option.none⟩
theorem Kc_t {b : Nat} {A B C : World} (h : Kc b A B) (k : Kc b B C) : Kc b A C := Eq.trans k h
theorem Kc_b {b : Nat} {w : World} (hb : b < w.heap.size) (W : World) (l : Nat) (o o' : Obj) (hl : w.heap.size ≤ l) (_ : W.heap[l]? = some o) (_ : o.isCells = false) (_ : o.isWalk = false) : Kc b W (W.putObj l o') := by
  unfold Kc
  exact World.cell?_of_block (World.putObj_heap_other (by simp; omega))
def encF (k : Fin 6) : Array Value := #[.int .u8 (bitN k)]
theorem bitN_succ (k : Nat) : bitN (k + 1) = bitN k * 2 := Nat.pow_succ ..
theorem bitN_pos (k : Nat) : 0 < bitN k := Nat.two_pow_pos k
set_option maxRecDepth 100000 in
set_option maxHeartbeats 1000000 in
theorem each1_in (n : Nat) (a : Nat) (ha : a < 256) (l Bn : Nat) (J Jx : List (Fin 6) → World → Prop)
    (hY : ∀ pre x W, J pre W → pre.length < 6 → YieldAt Fence.wide (n - 1) Try.prog l (encF x) W fun e W' =>
      (e = .returned (.bool true) ∧ J (pre ++ [x]) W' ∧ Kc Bn W W') ∨ (e = .returned (.bool false) ∧ Jx (pre ++ [x]) W'))
    (W : World) (hBn : W.cell? ⟨Bn, 0, Option.none⟩ = some (.int .u8 a)) (h0 : J [] W) :
    CallsIn Fence.wide n Try.prog 47 #[.func (.yield l) #[] #[], .pointer (some ⟨Bn, 0, Option.none⟩)] W fun e W' => (∃ v, e = .returned v) ∧
      ((∃ ys, ys = eachTo a 6 ∧ J ys W') ∨ (∃ pre, pre <+: eachTo a 6 ∧ Jx pre W')) := by
  refine callsIn_of_wp Try.func47 rfl trivial ?_ rfl
  simp only [Try.ntmps47, List.size_toArray, List.length_cons, List.length_nil, Nat.reduceAdd, Nat.reduceSub, Array.replicate_succ, Array.replicate_zero, List.push_toArray, List.append_toArray, List.nil_append, List.cons_append]
  gi_wp2
  gi_loopw [3] (fun p wr => ∃ k : Nat, k ≤ 6 ∧ p = .int .u8 (bitN k) ∧ wr.cell? ⟨Bn, 0, Option.none⟩ = some (.int .u8 a) ∧ J (eachTo a k) wr)
    (fun p _ => 64 - (intOf p).toNat)
  case atStart =>
    exact ⟨0, by omega, rfl, hBn, h0⟩
  case round =>
    obtain ⟨k, hk, rfl, hc, hJ⟩ := hrel
    by_cases hlt : k < 6
    · have hp := (pow6 ⟨k, hlt⟩).2
      simp only at hp
      have hle : bitN k ≤ 32 := by unfold bitN; exact Nat.pow_le_pow_right (n := 2) (by omega) (show k ≤ 5 by omega)
      have HA := Lib.hid (u8_and_nat a (bitN k) ha (by omega))
      have HI := Lib.hid (f_in ⟨a, ha⟩ ⟨k, hlt⟩)
      have hpos := bitN_pos k
      have HS := Lib.hid (eachTo_succ a k hlt)
      cases hx : a.testBit k
      · have Hx := Lib.hid hx
        have hz : bits BinOp.and IntKind.u8 ↑a ↑(bitN k) = 0 := by
          have h1 := HI.out
          simp only at h1
          rw [Hx.out, ← HA.out] at h1
          simpa using h1
        gi_wp2
        refine ⟨fun _ h => (by cases h), ?_⟩
        gi_wp2
        go_roundw
        case rel => exact ⟨k + 1, by omega, by rw [bitN_succ]; go_num, hc, by rw [HS.out, Hx.out]; simpa using hJ⟩
        case measure => simp [intOf]; omega
      · have Hx := Lib.hid hx
        have hz : (bits BinOp.and IntKind.u8 ↑a ↑(bitN k) != 0) = true := by
          have h1 := HI.out
          simp only at h1
          rw [Hx.out, ← HA.out] at h1
          exact h1
        obtain ⟨fn, tmps, assign, body, hy, hR⟩ := hY (eachTo a k) ⟨k, hlt⟩ wr hJ (by have := eachTo_le a k; omega)
        simp only [encF] at hy hR
        gi_wp2
        refine ⟨fun h => (by cases h), hR.mono ?_⟩
        rintro e W3 (⟨rfl, hJ3, hk3⟩ | ⟨rfl, hJx3⟩)
        · have hc3 : W3.cell? ⟨Bn, 0, Option.none⟩ = some (.int .u8 a) := hk3.trans hc
          gi_wp2
          go_roundw
          case rel => exact ⟨k + 1, by omega, by rw [bitN_succ]; go_num, hc3, by rw [HS.out, Hx.out]; simpa using hJ3⟩
          case measure => simp [intOf]; omega
        · gi_wp2
          refine bodyPost_ret (results_none rfl _ _ _) rfl ?_
          exact ⟨⟨_, rfl⟩, .inr ⟨_, by have h := eachTo_pre a (k + 1) (by omega); rw [HS.out, Hx.out] at h; simpa using h, hJx3⟩⟩
    · obtain rfl : k = 6 := by omega
      have h64 : bitN 6 = 64 := rfl
      gi_wp2
      go_end0
      exact ⟨⟨_, rfl⟩, .inl ⟨_, rfl, hJ⟩⟩
theorem each_stops (n : Nat) (a : Nat) (ha : a < 256) (Bn : Nat) (w : World) (hB : Bn < w.heap.size) (hc : w.cell? ⟨Bn, 0, Option.none⟩ = some (.int .u8 a)) :
    SeqStopsK Fence.wide n Try.prog 47 #[.pointer (some ⟨Bn, 0, Option.none⟩)] encF (Kc Bn) (fun ys => ys = eachTo a 6) (fun pre => pre <+: eachTo a 6) 6 w := fun l J Jx W hW _ _ hY h0 =>
  each1_in n a ha l Bn J Jx hY W ((hW.cell (p := ⟨Bn, 0, Option.none⟩) hB).trans hc) h0
end Go.Proofs.Ytadmdanmafegoaa
