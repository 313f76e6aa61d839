/- Contracts of the small functions on one set of abilities (May, One, Count, Less, Has, bit, In), for every byte. -/
import Derived.Test.YtadmdanmafegoaaRows
import Derived.Test.YtadmdanmafegoaaShelf
import Derived.WalkKit
import Derived.Lib.Hide
import Derived.WalkSpells
import Derived.WalkLawsBesides
namespace Go.Proofs.Ytadmdanmafegoaa
open Go.RowKit

def mayB (a : Nat) : Bool := decide (a < 64)
def cntN (a : Nat) : Nat := Lib.onesCount (a % 64)
def oneB (a : Nat) : Bool := mayB a && Lib.onesCount a == 1
def lessN (a b : Nat) : Nat := (a &&& (255 - b)) % 64
def hasB (a b : Nat) : Bool := lessN b a == 0

theorem f_may : ∀ a : Fin 256, (bits .andNot .u8 ((a : Nat) : Int) 63 == 0) = mayB a := by decide +kernel
theorem f_cnt : ∀ a : Fin 256, bits .and .u8 ((a : Nat) : Int) 63 = ((a : Nat) % 64 : Nat) := by decide +kernel

set_option maxHeartbeats 400000 in
theorem may_any (a : Nat) (ha : a < 256) (w : World) :
    Calls Try.prog 17 #[.int .u8 a] w fun e w' => e = .returned (.bool (mayB a)) ∧ w = w' := by
  go_enter Try.func17, Try.ntmps17
  go_wp2
  go_ret
  exact ⟨by simp [f_may ⟨a, ha⟩], rfl⟩

set_option maxHeartbeats 400000 in
theorem ones_any (x : Int) (a : Nat) (hx : x = a) (ha : a < 256) (w : World) :
    Calls Try.prog 42 #[.int .u8 x] w fun e w' => e = .returned (.int .i64 (Lib.onesCount a)) ∧ w = w' := by
  subst hx
  exact (Try.bits_OnesCount8 _ _ (by omega) (by omega)).mono fun e w' ⟨h1, h2⟩ => ⟨by rw [h1]; rfl, h2.symm⟩

set_option maxHeartbeats 400000 in
theorem cnt_any (a : Nat) (ha : a < 256) (w : World) :
    Calls Try.prog 21 #[.int .u8 a] w fun e w' => e = .returned (.int .i64 (cntN a)) ∧ w = w' := by
  go_enter Try.func21, Try.ntmps21
  go_wp2_with (go_at_call 42; refine (ones_any _ (a % 64) (by omega) (by omega) _).mono ?_; rintro e w' ⟨rfl, rfl⟩)
  go_ret
  exact ⟨rfl, rfl⟩

set_option maxHeartbeats 400000 in
theorem one_any (a : Nat) (ha : a < 256) (w : World) :
    Calls Try.prog 19 #[.int .u8 a] w fun e w' => e = .returned (.bool (oneB a)) ∧ w = w' := by
  by_cases hm : mayB a = true
  · go_enter Try.func19, Try.ntmps19
    go_wp2_with (first | (go_at_call 17; refine (may_any a ha _).mono ?_; rintro e w' ⟨rfl, rfl⟩) | (go_at_call 42; refine (ones_any _ a (by omega) (by omega) _).mono ?_; rintro e w' ⟨rfl, rfl⟩))
    go_ret
    exact ⟨by rw [show oneB a = (((Lib.onesCount a : Nat) : Int) == 1) from by simp only [oneB, hm, Bool.true_and]; rw [Bool.eq_iff_iff]; simp; omega]; rfl, rfl⟩
  · have hm : mayB a = false := by simpa using hm
    go_enter Try.func19, Try.ntmps19
    go_wp2_with (first | (go_at_call 17; refine (may_any a ha _).mono ?_; rintro e w' ⟨rfl, rfl⟩) | (go_at_call 42; refine (ones_any _ a (by omega) (by omega) _).mono ?_; rintro e w' ⟨rfl, rfl⟩))
    go_ret
    exact ⟨by simp [oneB, hm], rfl⟩


theorem lessN_lt (a b : Nat) : lessN a b < 64 := Nat.mod_lt _ (by omega)
theorem nat_beq0 (n : Nat) : (((n : Nat) : Int) == 0) = (n == 0) := by rw [Bool.eq_iff_iff]; simp
set_option maxHeartbeats 400000 in
theorem less_any (a b : Nat) (ha : a < 256) (hb : b < 256) (w : World) :
    Calls Try.prog 29 #[.int .u8 a, .int .u8 b] w fun e w' => e = .returned (.int .u8 (lessN a b)) ∧ w = w' := by
  have H := u8_andNot_nat a b ha hb
  have hlt : (a &&& (255 - b)) < 256 := Nat.lt_of_le_of_lt Nat.and_le_left ha
  have H2 := f_cnt ⟨_, hlt⟩
  go_enter Try.func29, Try.ntmps29
  go_wp2
  go_ret
  exact ⟨by simp [lessN], rfl⟩

set_option maxHeartbeats 400000 in
theorem has_any (a b : Nat) (ha : a < 256) (hb : b < 256) (w : World) :
    Calls Try.prog 31 #[.int .u8 a, .int .u8 b] w fun e w' => e = .returned (.bool (hasB a b)) ∧ w = w' := by
  go_enter Try.func31, Try.ntmps31
  go_wp2_with (go_at_call 29; refine (less_any b a hb ha _).mono ?_; rintro e w' ⟨rfl, rfl⟩)
  go_ret
  exact ⟨by rw [show hasB a b = (((lessN b a : Nat) : Int) == 0) from (nat_beq0 _).symm]; rfl, rfl⟩

/-! ### The reference's small functions -/
theorem ret_int {k : IntKind} {a b : Int} (h : a = b) : Ending.returned (.int k a) = .returned (.int k b) := by rw [h]
theorem ret_bool {a b : Bool} (h : a = b) : Ending.returned (.bool a) = .returned (.bool b) := by rw [h]
def bitN (k : Nat) : Nat := 2 ^ k
theorem pow6 : ∀ k : Fin 6, ((2 ^ (k : Nat) % 256 : Int)) = ((bitN (k : Nat) : Nat) : Int) ∧ bitN (k : Nat) < 64 := by decide +kernel
set_option maxHeartbeats 400000 in
theorem bit_any (x : Int) (k : Nat) (hx : x = k) (hk : k < 6) (w : World) :
    Calls Try.prog 41 #[.int .i64 x] w fun e w' => e = .returned (.int .u8 (bitN k)) ∧ w = w' := by
  subst hx
  go_enter Try.func41, Try.ntmps41
  go_wp2
  go_ret
  exact ⟨ret_int (pow6 ⟨k, hk⟩).1, rfl⟩

set_option maxHeartbeats 400000 in
theorem rmay_any (a : Nat) (ha : a < 256) (w : World) :
    Calls Try.prog 18 #[.int .u8 a] w fun e w' => e = .returned (.bool (mayB a)) ∧ w = w' := by
  go_enter Try.func18, Try.ntmps18
  go_wp2
  go_ret
  exact ⟨ret_bool (by unfold mayB; rw [Bool.eq_iff_iff]; simp; omega), rfl⟩

theorem f_in : ∀ (a : Fin 256) (k : Fin 6), ((((a : Nat) &&& bitN (k : Nat) : Nat) : Int) != 0) = (a : Nat).testBit k := by decide +kernel
set_option maxHeartbeats 400000 in
theorem in_any (a k : Nat) (ha : a < 256) (hk : k < 6) (w : World) :
    Calls Try.prog 43 #[.int .u8 a, .int .i64 k] w fun e w' => e = .returned (.bool (a.testBit k)) ∧ w = w' := by
  have hp := (pow6 ⟨k, hk⟩).2
  have H := u8_and_nat a (bitN k) ha (by simp only at hp; omega)
  have HH := Lib.hid H
  clear H
  go_enter Try.func43, Try.ntmps43
  go_wp2_with (go_at_call 41; refine (bit_any _ k rfl hk _).mono ?_; rintro e w' ⟨rfl, rfl⟩)
  go_ret
  exact ⟨ret_bool (by have := f_in ⟨a, ha⟩ ⟨k, hk⟩; rw [← this, ← HH.out]), rfl⟩

def cntTo (a k : Nat) : Nat := ((List.range k).filter a.testBit).length
theorem cntTo_succ (a k : Nat) : cntTo a (k + 1) = cntTo a k + (if a.testBit k then 1 else 0) := by
  unfold cntTo; rw [List.range_succ, List.filter_append]; cases h : a.testBit k <;> simp [h]
theorem cntTo_le (a k : Nat) : cntTo a k ≤ k := by
  unfold cntTo; exact Nat.le_trans (List.length_filter_le _ _) (by simp)
theorem cntTo_6 : ∀ a : Fin 256, cntTo a 6 = cntN a := by decide +kernel
set_option maxHeartbeats 400000 in
theorem rcnt_any (a : Nat) (ha : a < 256) (w : World) :
    Calls Try.prog 22 #[.int .u8 a] w fun e w' => e = .returned (.int .i64 (cntN a)) ∧ w = w' := by
  go_enter Try.func22, Try.ntmps22
  go_wp2
  go_loop [3, 4] (fun n i => ∃ k : Nat, k ≤ 6 ∧ i = .int .i64 k ∧ n = .int .i64 (cntTo a k)) (fun _ i => 6 - (intOf i).toNat)
  case atStart => exact ⟨0, by omega, rfl, rfl⟩
  case round =>
    obtain ⟨k, hk, rfl, rfl⟩ := hrel
    have hc := cntTo_le a k
    by_cases hlt : k < 6
    · have hs := Lib.hid (cntTo_succ a k)
      cases hb : a.testBit k
      all_goals
        go_wp2_with (go_at_call 43; refine (in_any a k ha hlt _).mono ?_; rintro e w' ⟨rfl, rfl⟩)
        go_round
        case rel => exact ⟨k + 1, by omega, by go_num, by rw [hs.out, hb]; go_num⟩
        case measure => simp [intOf]; omega
    · obtain rfl : k = 6 := by omega
      go_wp2
      go_ret
      exact ⟨ret_int (by rw [cntTo_6 ⟨a, ha⟩]), rfl⟩

theorem one_cnt : ∀ a : Fin 256, (mayB a && (((cntN a : Nat) : Int) == 1)) = oneB a := by decide +kernel
set_option maxHeartbeats 400000 in
theorem rone_any (a : Nat) (ha : a < 256) (w : World) :
    Calls Try.prog 20 #[.int .u8 a] w fun e w' => e = .returned (.bool (oneB a)) ∧ w = w' := by
  cases hm : mayB a
  all_goals
    go_enter Try.func20, Try.ntmps20
    go_wp2_with (first | (go_at_call 18; refine (rmay_any a ha _).mono ?_; rintro e w' ⟨rfl, rfl⟩) | (go_at_call 22; refine (rcnt_any a ha _).mono ?_; rintro e w' ⟨rfl, rfl⟩))
    go_ret
    exact ⟨ret_bool (by rw [← one_cnt ⟨a, ha⟩]; simp [hm]), rfl⟩

/-! Place: the first k below 6 with a = 2^k. -/
def placeTo (a k : Nat) : Option Nat := (List.range k).find? (fun j => a == bitN j)
theorem placeTo_succ (a k : Nat) (h : placeTo a k = Option.none) (hk : ¬ a = bitN k) : placeTo a (k + 1) = Option.none := by
  unfold placeTo at h ⊢
  rw [List.range_succ, List.find?_append, h]
  simp [hk]
def placeN (a : Nat) : Nat := if oneB a then Lib.trailingZeros8 a else 0
theorem place_some : ∀ (a : Fin 256) (k : Fin 6), (a : Nat) = bitN (k : Nat) → placeN a = k ∧ oneB a = true := by decide +kernel
theorem place_none : ∀ (a : Fin 256), placeTo a 6 = Option.none → placeN a = 0 ∧ oneB a = false := by decide +kernel
theorem int_beq_nat (a b : Nat) : (((a : Nat) : Int) == ((b : Nat) : Int)) = (a == b) := by rw [Bool.eq_iff_iff]; simp; omega
set_option maxHeartbeats 400000 in
theorem rplace_any (a : Nat) (ha : a < 256) (w : World) :
    Calls Try.prog 16 #[.int .u8 a] w fun e w' => e = .returned (.tuple #[.int .i64 (placeN a), .bool (oneB a)]) ∧ w = w' := by
  go_enter Try.func16, Try.ntmps16
  go_wp2
  go_loop [4] (fun i => ∃ k : Nat, k ≤ 6 ∧ i = .int .i64 k ∧ placeTo a k = Option.none) (fun i => 6 - (intOf i).toNat)
  case atStart => exact ⟨0, by omega, rfl, rfl⟩
  case round =>
    obtain ⟨k, hk, rfl, hp⟩ := hrel
    have Hp := Lib.hid hp
    clear hp
    by_cases hlt : k < 6
    · by_cases he : a = bitN k
      · have Hq := Lib.hid (place_some ⟨a, ha⟩ ⟨k, hlt⟩ he)
        have hb : (((a : Nat) : Int) == ((bitN k : Nat) : Int)) = true := by rw [int_beq_nat]; simpa using he
        clear he
        go_wp2_with (go_at_call 41; refine (bit_any _ k rfl hlt _).mono ?_; rintro e w' ⟨rfl, rfl⟩)
        go_ret2
        exact ⟨by have := Hq.out; rw [this.1, this.2]; rfl, rfl⟩
      · have hb : (((a : Nat) : Int) == ((bitN k : Nat) : Int)) = false := by rw [int_beq_nat]; simpa using he
        have Hs := Lib.hid (placeTo_succ a k Hp.out he)
        clear he
        go_wp2_with (go_at_call 41; refine (bit_any _ k rfl hlt _).mono ?_; rintro e w' ⟨rfl, rfl⟩)
        go_round
        case rel => exact ⟨k + 1, by omega, by go_num, Hs.out⟩
        case measure => simp [intOf]; omega
    · obtain rfl : k = 6 := by omega
      have Hq := Lib.hid (place_none ⟨a, ha⟩ Hp.out)
      go_wp2
      go_ret2
      exact ⟨by have := Hq.out; rw [this.1, this.2]; rfl, rfl⟩

/-! Less, Has -/
theorem tb_less (a b k : Nat) (hb : b < 256) (hk : k < 6) : (lessN a b).testBit k = (a.testBit k && !b.testBit k) := by
  unfold lessN
  have : (255 - b).testBit k = !b.testBit k := by
    have h := Nat.testBit_two_pow_sub_succ (n := 8) (x := b) (by simpa using hb) k
    have e : 2 ^ 8 - (b + 1) = 255 - b := by omega
    rw [e] at h
    rw [h]; simp; omega
  have e : (64 : Nat) = 2 ^ 6 := rfl
  rw [e, Nat.testBit_mod_two_pow, Nat.testBit_and, this]
  simp [hk]
def upto (n k : Nat) : Nat := n % 2 ^ k
theorem upto_succ (n k : Nat) : upto n (k + 1) = upto n k + (if n.testBit k then bitN k else 0) := by
  unfold upto bitN
  rw [Nat.pow_succ, Nat.mod_mul, Nat.testBit_eq_decide_div_mod_eq]
  have h : n / 2 ^ k % 2 = 0 ∨ n / 2 ^ k % 2 = 1 := by omega
  rcases h with h | h <;> simp [h]
theorem upto_lt (n k : Nat) (hk : k < 6) : upto n k < 32 ∧ bitN k ≤ 32 := by
  unfold upto bitN
  have h1 : n % 2 ^ k < 2 ^ k := Nat.mod_lt _ (Nat.two_pow_pos k)
  have h2 : 2 ^ k ≤ 2 ^ 5 := Nat.pow_le_pow_right (by omega) (by omega)
  omega
set_option maxHeartbeats 400000 in
theorem rless_any (a b : Nat) (ha : a < 256) (hb : b < 256) (w : World) :
    Calls Try.prog 30 #[.int .u8 a, .int .u8 b] w fun e w' => e = .returned (.int .u8 (lessN a b)) ∧ w = w' := by
  go_enter Try.func30, Try.ntmps30
  go_wp2
  go_loop [5, 6] (fun o i => ∃ k : Nat, k ≤ 6 ∧ i = .int .i64 k ∧ o = .int .u8 (upto (lessN a b) k)) (fun _ i => 6 - (intOf i).toNat)
  case atStart => exact ⟨0, by omega, rfl, by simp [upto, Nat.mod_one]⟩
  case round =>
    obtain ⟨k, hk, rfl, rfl⟩ := hrel
    by_cases hlt : k < 6
    · have Hs := Lib.hid (upto_succ (lessN a b) k)
      have Ht := Lib.hid (tb_less a b k hb hlt)
      have hu := upto_lt (lessN a b) k hlt
      cases hx : a.testBit k <;> cases hy : b.testBit k
      all_goals
        have Hx := Lib.hid hx
        have Hy := Lib.hid hy
        go_wp2_with (first | (go_at_call 43; refine (in_any _ k (by assumption) hlt _).mono ?_; rintro e w' ⟨rfl, rfl⟩) | (go_at_call 41; refine (bit_any _ k rfl hlt _).mono ?_; rintro e w' ⟨rfl, rfl⟩))
        go_round
        case rel => exact ⟨k + 1, by omega, by go_num, by rw [Hs.out, Ht.out, Hx.out, Hy.out]; simp⟩
        case measure => simp [intOf]; omega
    · obtain rfl : k = 6 := by omega
      go_wp2
      go_ret
      exact ⟨ret_int (by have := lessN_lt a b; unfold upto; rw [Nat.mod_eq_of_lt (by simpa using this)]), rfl⟩
end Go.Proofs.Ytadmdanmafegoaa
