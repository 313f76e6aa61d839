/- Contracts of able.Meet and able.Join, of the reference's Meet and Join, over any slice of bytes. -/
import Derived.Test.YtadmdanmafegoaaD
namespace Go.Proofs.Ytadmdanmafegoaa
open Go.RowKit

/-- v is a slice that reads as the bytes xs. -/
def IsU8 (w : World) (v : Value) (xs : List Nat) : Prop :=
  (∀ x ∈ xs, x < 256) ∧ xs.length ≤ 140737488355328 ∧
  ((xs = [] ∧ ∃ a cap, v = .slice a 0 cap ∧ (a = Option.none → cap = 0)) ∨ ∃ b o cap, v = .slice (some ⟨b, o, Option.none⟩) xs.length cap ∧ ∀ j, j < xs.length → w.cell? ⟨b, o + j, Option.none⟩ = some (.int .u8 (xs.getD j 0 : Nat)))
theorem cell_lt {w : World} {b o : Nat} {v : Value} (h : w.cell? ⟨b, o, Option.none⟩ = some v) : b < w.heap.size := by
  rcases Nat.lt_or_ge b w.heap.size with hb | hb
  · exact hb
  · simp [World.cell?, Array.getElem?_eq_none hb] at h
theorem IsU8.below {w w' : World} {v : Value} {xs : List Nat} (h : IsU8 w v xs) (hb : Below w.heap.size w w') : IsU8 w' v xs := by
  obtain ⟨h1, h2, h3⟩ := h
  refine ⟨h1, h2, h3.imp id ?_⟩
  rintro ⟨b, o, cap, hv, hc⟩
  exact ⟨b, o, cap, hv, fun j hj => (hb.cell (p := ⟨b, o + j, Option.none⟩) (cell_lt (hc j hj))).trans (hc j hj)⟩
theorem getD_lt {xs : List Nat} (h : ∀ x ∈ xs, x < 256) (j : Nat) : xs.getD j 0 < 256 := by
  rw [List.getD_eq_getElem?_getD]
  cases hj : xs[j]? with
  | none => simp
  | some x => exact h x (List.mem_of_getElem? hj)
def meetN (xs : List Nat) : Nat := xs.foldl (· &&& ·) 63
def joinN (xs : List Nat) : Nat := xs.foldl (fun o a => o ||| (a % 64)) 0
theorem take_succ_getD (xs : List Nat) (j : Nat) (h : j < xs.length) : xs.take (j + 1) = xs.take j ++ [xs.getD j 0] := by
  rw [List.take_add_one, List.getD_eq_getElem?_getD, List.getElem?_eq_getElem h]; rfl
theorem meetN_succ (xs : List Nat) (j : Nat) (h : j < xs.length) : meetN (xs.take (j + 1)) = meetN (xs.take j) &&& xs.getD j 0 := by
  unfold meetN; rw [take_succ_getD xs j h, List.foldl_append]; rfl
theorem joinN_succ (xs : List Nat) (j : Nat) (h : j < xs.length) : joinN (xs.take (j + 1)) = joinN (xs.take j) ||| (xs.getD j 0 % 64) := by
  unfold joinN; rw [take_succ_getD xs j h, List.foldl_append]; rfl
theorem meet_lt (xs : List Nat) : meetN xs < 64 := by
  have : ∀ (xs : List Nat) (a : Nat), a < 64 → xs.foldl (· &&& ·) a < 64 := by
    intro xs
    induction xs with
    | nil => exact fun a h => h
    | cons x xs ih => exact fun a h => ih _ (Nat.lt_of_le_of_lt Nat.and_le_left h)
  exact this xs 63 (by omega)
theorem join_lt (xs : List Nat) : joinN xs < 64 := by
  have : ∀ (xs : List Nat) (a : Nat), a < 64 → xs.foldl (fun o a => o ||| (a % 64)) a < 64 := by
    intro xs
    induction xs with
    | nil => exact fun a h => h
    | cons x xs ih => exact fun a h => ih _ (Nat.or_lt_two_pow (n := 6) h (Nat.mod_lt _ (by omega)))
  exact this xs 0 (by omega)

set_option maxHeartbeats 400000 in
theorem meet_any (v : Value) (xs : List Nat) (w : World) (h : IsU8 w v xs) :
    Calls Try.prog 24 #[v] w fun e w' => e = .returned (.int .u8 (meetN xs)) ∧ w = w' := by
  obtain ⟨h1, h2, h3⟩ := h
  rcases h3 with ⟨rfl, a, cap, rfl, _⟩ | ⟨b, o, cap, rfl, hc⟩
  · go_enter Try.func24, Try.ntmps24
    go_wp2
    go_loop [3, 5, 8] (fun m _ i => m = .int .u8 63 ∧ i = .int .i64 0) (fun _ _ _ => 0)
    case atStart => exact ⟨rfl, rfl⟩
    case round =>
      obtain ⟨rfl, rfl⟩ := hrel
      go_wp2
      go_ret
      exact ⟨rfl, rfl⟩
  · obtain ⟨n, hn⟩ : ∃ n, n = xs.length := ⟨_, rfl⟩
    have Hn := Lib.hid hn
    rw [← hn] at h2 hc ⊢
    clear hn
    go_enter Try.func24, Try.ntmps24
    go_wp2
    go_loop [3, 5, 8] (fun m _ i => ∃ k : Nat, k ≤ n ∧ i = .int .i64 k ∧ m = .int .u8 (meetN (xs.take k))) (fun _ _ i => n - (intOf i).toNat)
    case atStart => exact ⟨0, by omega, rfl, rfl⟩
    case round =>
      obtain ⟨k, hk, rfl, rfl⟩ := hrel
      by_cases hlt : k < n
      · have hcell := hc k hlt
        have hx := getD_lt h1 k
        have HS := Lib.hid (meetN_succ xs k (by rw [← Hn.out]; exact hlt))
        have hm := meet_lt (xs.take k)
        have HA := Lib.hid (u8_and_nat (meetN (xs.take k)) (xs.getD k 0) (by omega) hx)
        have H1 := Lib.hid h1
        have HC := Lib.hid hc
        clear h1 hc
        obtain ⟨y, hy⟩ : ∃ y, y = xs.getD k 0 := ⟨_, rfl⟩
        have HY := Lib.hid hy
        rw [← hy] at hcell hx
        clear hy
        go_wp2
        go_round
        case rel => exact ⟨k + 1, by omega, by go_num, by rw [HS.out, ← HA.out, ← HY.out]⟩
        case measure => simp [intOf]; omega
      · obtain rfl : k = n := by omega
        have HM : Hid (meetN (xs.take k) = meetN xs) := Lib.hid (by rw [Hn.out, List.take_length])
        go_wp2
        go_ret
        exact ⟨by rw [← HM.out]; rfl, rfl⟩

set_option maxHeartbeats 400000 in
theorem joinS_any (v : Value) (xs : List Nat) (w : World) (h : IsU8 w v xs) :
    Calls Try.prog 26 #[v] w fun e w' => e = .returned (.int .u8 (joinN xs)) ∧ w = w' := by
  obtain ⟨h1, h2, h3⟩ := h
  rcases h3 with ⟨rfl, a, cap, rfl, _⟩ | ⟨b, o, cap, rfl, hc⟩
  · go_enter Try.func26, Try.ntmps26
    go_wp2
    go_loop [3, 5, 8] (fun m _ i => m = .int .u8 0 ∧ i = .int .i64 0) (fun _ _ _ => 0)
    case atStart => exact ⟨rfl, rfl⟩
    case round =>
      obtain ⟨rfl, rfl⟩ := hrel
      go_wp2
      go_ret
      exact ⟨rfl, rfl⟩
  · obtain ⟨n, hn⟩ : ∃ n, n = xs.length := ⟨_, rfl⟩
    have Hn := Lib.hid hn
    rw [← hn] at h2 hc ⊢
    clear hn
    go_enter Try.func26, Try.ntmps26
    go_wp2
    go_loop [3, 5, 8] (fun m _ i => ∃ k : Nat, k ≤ n ∧ i = .int .i64 k ∧ m = .int .u8 (joinN (xs.take k))) (fun _ _ i => n - (intOf i).toNat)
    case atStart => exact ⟨0, by omega, rfl, rfl⟩
    case round =>
      obtain ⟨k, hk, rfl, rfl⟩ := hrel
      by_cases hlt : k < n
      · have hcell := hc k hlt
        have hx := getD_lt h1 k
        have HS := Lib.hid (joinN_succ xs k (by rw [← Hn.out]; exact hlt))
        have hm := join_lt (xs.take k)
        have HA := Lib.hid (u8_or_nat (joinN (xs.take k)) (xs.getD k 0 % 64) (by omega) (by omega))
        have H1 := Lib.hid h1
        have HC := Lib.hid hc
        clear h1 hc
        obtain ⟨y, hy⟩ : ∃ y, y = xs.getD k 0 := ⟨_, rfl⟩
        have HY := Lib.hid hy
        rw [← hy] at hcell hx
        clear hy
        go_wp2
        go_round
        case rel => exact ⟨k + 1, by omega, by go_num, by rw [HS.out, ← HA.out, ← HY.out]; simp⟩
        case measure => simp [intOf]; omega
      · obtain rfl : k = n := by omega
        have HM : Hid (joinN (xs.take k) = joinN xs) := Lib.hid (by rw [Hn.out, List.take_length])
        go_wp2
        go_ret
        exact ⟨by rw [← HM.out]; rfl, rfl⟩

/-! The reference's Meet and Join, bit by bit -/
theorem tb_fold_and (xs : List Nat) (a k : Nat) : (xs.foldl (· &&& ·) a).testBit k = (a.testBit k && xs.all (·.testBit k)) := by
  induction xs generalizing a with
  | nil => simp
  | cons x xs ih => rw [List.foldl_cons, ih, Nat.testBit_and, List.all_cons, Bool.and_assoc]
theorem tb_meet (xs : List Nat) (k : Nat) (hk : k < 6) : (meetN xs).testBit k = xs.all (·.testBit k) := by
  unfold meetN
  rw [tb_fold_and]
  have : ∀ k : Fin 6, (63 : Nat).testBit k = true := by decide
  rw [this ⟨k, hk⟩, Bool.true_and]
theorem tb_fold_or (xs : List Nat) (a k : Nat) (hk : k < 6) : (xs.foldl (fun o a => o ||| (a % 64)) a).testBit k = (a.testBit k || xs.any (·.testBit k)) := by
  induction xs generalizing a with
  | nil => simp
  | cons x xs ih =>
    rw [List.foldl_cons, ih, Nat.testBit_or, List.any_cons, ← Bool.or_assoc]
    have e : (64 : Nat) = 2 ^ 6 := rfl
    rw [e, Nat.testBit_mod_two_pow]
    simp [hk]
theorem tb_join (xs : List Nat) (k : Nat) (hk : k < 6) : (joinN xs).testBit k = xs.any (·.testBit k) := by
  unfold joinN
  rw [tb_fold_or xs 0 k hk]
  simp
def allTo (xs : List Nat) (k j : Nat) : Bool := (xs.take j).all (·.testBit k)
def anyTo (xs : List Nat) (k j : Nat) : Bool := (xs.take j).any (·.testBit k)
theorem allTo_succ (xs : List Nat) (k j : Nat) (h : j < xs.length) : allTo xs k (j + 1) = (allTo xs k j && (xs.getD j 0).testBit k) := by
  unfold allTo; rw [take_succ_getD xs j h, List.all_append]; simp
theorem anyTo_succ (xs : List Nat) (k j : Nat) (h : j < xs.length) : anyTo xs k (j + 1) = (anyTo xs k j || (xs.getD j 0).testBit k) := by
  unfold anyTo; rw [take_succ_getD xs j h, List.any_append]; simp
set_option maxHeartbeats 1000000 in
theorem rmeet_any (v : Value) (xs : List Nat) (w : World) (h : IsU8 w v xs) :
    Calls Try.prog 25 #[v] w fun e w' => e = .returned (.int .u8 (meetN xs)) ∧ w = w' := by
  obtain ⟨h1, h2, h3⟩ := h
  obtain ⟨n, hn⟩ : ∃ n, n = xs.length := ⟨_, rfl⟩
  have Hn := Lib.hid hn
  have H1 := Lib.hid h1
  obtain ⟨a, cap, rfl, hc⟩ : ∃ a cap, v = .slice a n cap ∧ ∀ j, j < n → ∃ b o, a = some ⟨b, o, Option.none⟩ ∧ w.cell? ⟨b, o + j, Option.none⟩ = some (.int .u8 (xs.getD j 0 : Nat)) := by
    rcases h3 with ⟨rfl, a, cap, rfl, _⟩ | ⟨b, o, cap, rfl, hc⟩
    · exact ⟨a, cap, by rw [hn]; rfl, fun j hj => absurd hj (by rw [hn]; simp)⟩
    · exact ⟨_, cap, by rw [hn], fun j hj => ⟨b, o, rfl, hc j (by omega)⟩⟩
  rw [← hn] at h2
  have HC := Lib.hid hc
  clear hn h1 h3 hc
  go_enter Try.func25, Try.ntmps25
  go_wp2
  go_loop [3, 4, 5, 6] (fun o i _ _ => ∃ k : Nat, k ≤ 6 ∧ i = .int .i64 k ∧ o = .int .u8 (upto (meetN xs) k)) (fun _ i _ _ => 6 - (intOf i).toNat)
  case atStart => exact ⟨0, by omega, rfl, by simp [upto, Nat.mod_one]⟩
  case round =>
    obtain ⟨k, hk, rfl, rfl⟩ := hrel
    by_cases hlt : k < 6
    · have Hs := Lib.hid (upto_succ (meetN xs) k)
      have Ht := Lib.hid (tb_meet xs k hlt)
      have hu := upto_lt (meetN xs) k hlt
      go_wp2
      go_loop [5, 6] (fun b i => ∃ j : Nat, j ≤ n ∧ i = .int .i64 j ∧ b = .bool (allTo xs k j)) (fun _ i => n - (intOf i).toNat)
      case atStart => exact ⟨0, by omega, rfl, rfl⟩
      case round =>
        obtain ⟨j, hj, rfl, rfl⟩ := hrel
        by_cases hjl : j < n
        · obtain ⟨b, o, rfl, hcell⟩ := HC.out j hjl
          have hx := getD_lt H1.out j
          have HSj := Lib.hid (allTo_succ xs k j (by rw [← Hn.out]; exact hjl))
          obtain ⟨y, hy⟩ : ∃ y, y = xs.getD j 0 := ⟨_, rfl⟩
          have HY := Lib.hid hy
          rw [← hy] at hcell hx
          clear hy
          cases hb : allTo xs k j
          all_goals
            have HB := Lib.hid hb
            go_wp2_with (go_at_call 43; refine (in_any _ k (by assumption) hlt _).mono ?_; rintro e w' ⟨rfl, rfl⟩)
            go_round
            case rel => exact ⟨j + 1, by omega, by go_num, by rw [HSj.out, HB.out, ← HY.out]; simp⟩
            case measure => simp [intOf]; omega
        · obtain rfl : j = n := by omega
          have HA : Hid (allTo xs k j = (meetN xs).testBit k) := Lib.hid (by rw [Ht.out]; unfold allTo; rw [Hn.out, List.take_length])
          cases hb : allTo xs k j
          all_goals
            have HB := Lib.hid hb
            go_wp2_with (go_at_call 41; refine (bit_any _ k rfl hlt _).mono ?_; rintro e w' ⟨rfl, rfl⟩)
            go_round
            case rel => exact ⟨k + 1, by omega, by go_num, by rw [Hs.out, ← HA.out, HB.out]; simp⟩
            case measure => simp [intOf]; omega
    · obtain rfl : k = 6 := by omega
      go_wp2
      go_ret
      exact ⟨ret_int (by have := meet_lt xs; unfold upto; rw [Nat.mod_eq_of_lt (by simpa using this)]), rfl⟩
set_option maxHeartbeats 1000000 in
theorem rjoin_any (v : Value) (xs : List Nat) (w : World) (h : IsU8 w v xs) :
    Calls Try.prog 27 #[v] w fun e w' => e = .returned (.int .u8 (joinN xs)) ∧ w = w' := by
  obtain ⟨h1, h2, h3⟩ := h
  obtain ⟨n, hn⟩ : ∃ n, n = xs.length := ⟨_, rfl⟩
  have Hn := Lib.hid hn
  have H1 := Lib.hid h1
  obtain ⟨a, cap, rfl, hc⟩ : ∃ a cap, v = .slice a n cap ∧ ∀ j, j < n → ∃ b o, a = some ⟨b, o, Option.none⟩ ∧ w.cell? ⟨b, o + j, Option.none⟩ = some (.int .u8 (xs.getD j 0 : Nat)) := by
    rcases h3 with ⟨rfl, a, cap, rfl, _⟩ | ⟨b, o, cap, rfl, hc⟩
    · exact ⟨a, cap, by rw [hn]; rfl, fun j hj => absurd hj (by rw [hn]; simp)⟩
    · exact ⟨_, cap, by rw [hn], fun j hj => ⟨b, o, rfl, hc j (by omega)⟩⟩
  rw [← hn] at h2
  have HC := Lib.hid hc
  clear hn h1 h3 hc
  go_enter Try.func27, Try.ntmps27
  go_wp2
  go_loop [3, 4, 5, 6] (fun o i _ _ => ∃ k : Nat, k ≤ 6 ∧ i = .int .i64 k ∧ o = .int .u8 (upto (joinN xs) k)) (fun _ i _ _ => 6 - (intOf i).toNat)
  case atStart => exact ⟨0, by omega, rfl, by simp [upto, Nat.mod_one]⟩
  case round =>
    obtain ⟨k, hk, rfl, rfl⟩ := hrel
    by_cases hlt : k < 6
    · have Hs := Lib.hid (upto_succ (joinN xs) k)
      have Ht := Lib.hid (tb_join xs k hlt)
      have hu := upto_lt (joinN xs) k hlt
      go_wp2
      go_loop [5, 6] (fun b i => ∃ j : Nat, j ≤ n ∧ i = .int .i64 j ∧ b = .bool (anyTo xs k j)) (fun _ i => n - (intOf i).toNat)
      case atStart => exact ⟨0, by omega, rfl, rfl⟩
      case round =>
        obtain ⟨j, hj, rfl, rfl⟩ := hrel
        by_cases hjl : j < n
        · obtain ⟨b, o, rfl, hcell⟩ := HC.out j hjl
          have hx := getD_lt H1.out j
          have HSj := Lib.hid (anyTo_succ xs k j (by rw [← Hn.out]; exact hjl))
          obtain ⟨y, hy⟩ : ∃ y, y = xs.getD j 0 := ⟨_, rfl⟩
          have HY := Lib.hid hy
          rw [← hy] at hcell hx
          clear hy
          cases hb : anyTo xs k j
          all_goals
            have HB := Lib.hid hb
            go_wp2_with (go_at_call 43; refine (in_any _ k (by assumption) hlt _).mono ?_; rintro e w' ⟨rfl, rfl⟩)
            go_round
            case rel => exact ⟨j + 1, by omega, by go_num, by rw [HSj.out, HB.out, ← HY.out]; simp⟩
            case measure => simp [intOf]; omega
        · obtain rfl : j = n := by omega
          have HA : Hid (anyTo xs k j = (joinN xs).testBit k) := Lib.hid (by rw [Ht.out]; unfold anyTo; rw [Hn.out, List.take_length])
          cases hb : anyTo xs k j
          all_goals
            have HB := Lib.hid hb
            go_wp2_with (go_at_call 41; refine (bit_any _ k rfl hlt _).mono ?_; rintro e w' ⟨rfl, rfl⟩)
            go_round
            case rel => exact ⟨k + 1, by omega, by go_num, by rw [Hs.out, ← HA.out, HB.out]; simp⟩
            case measure => simp [intOf]; omega
    · obtain rfl : k = 6 := by omega
      go_wp2
      go_ret
      exact ⟨ret_int (by have := join_lt xs; unfold upto; rw [Nat.mod_eq_of_lt (by simpa using this)]), rfl⟩

/-! The law's 'lives' -/
def sGet : ByteArray := ⟨#[103, 101, 116, 43, 116, 97, 107, 101]⟩
def sTake : ByteArray := ⟨#[116, 97, 107, 101, 43, 103, 101, 116]⟩
theorem live_facts : txtR 15 = [103, 101, 116, 43, 112, 117, 116, 43, 116, 97, 107, 101, 43, 103, 105, 118, 101] ∧ mayB 15 = true ∧ readA sGet = 5 ∧ readB sGet = true ∧ readB sTake = false ∧ meetN [] = 63 ∧ lessN 7 5 = 2 ∧ cntN 69 = 2 ∧ oneB 68 = false := by decide +kernel
theorem isU8_nil (w : World) : IsU8 w (.slice Option.none 0 0) [] := ⟨by simp, by simp, .inl ⟨rfl, _, _, rfl, fun _ => rfl⟩⟩
set_option maxHeartbeats 1000000 in
theorem lives_any (w : World) :
    Calls Try.prog 12 #[] w fun e w' => e = .returned (.bool true) ∧ Below w.heap.size w w' := by
  obtain ⟨l1, l2, l3, l4, l5, l6, l7, l8, l9⟩ := live_facts
  go_enter Try.func12, Try.ntmps12
  go_wp2_with fail
  refine (text_any 15 (by omega) _).mono ?_
  rintro e w1 ⟨rfl, hb1⟩
  rw [l1, l2]
  go_wp2_with fail
  refine (read_any sGet _).mono ?_
  rintro e w2 ⟨rfl, hb2⟩
  rw [l3, l4]
  go_wp2_with fail
  refine (read_any sTake _).mono ?_
  rintro e w3 ⟨rfl, hb3⟩
  rw [l5]
  go_wp2_with (first | (go_at_call 24; refine (meet_any _ [] _ (isU8_nil _)).mono ?_; rintro e w' ⟨rfl, rfl⟩; rw [l6]) | (go_at_call 29; refine (less_any 7 5 (by omega) (by omega) _).mono ?_; rintro e w' ⟨rfl, rfl⟩; rw [l7]) | (go_at_call 21; refine (cnt_any 69 (by omega) _).mono ?_; rintro e w' ⟨rfl, rfl⟩; rw [l8]) | (go_at_call 19; refine (one_any 68 (by omega) _).mono ?_; rintro e w' ⟨rfl, rfl⟩; rw [l9]))
  go_ret
  exact ⟨rfl, (hb1.trans (hb2.mono hb1.size)).trans (hb3.mono (Nat.le_trans hb1.size hb2.size))⟩

/-! The three first laws -/
set_option maxHeartbeats 400000 in
theorem names_law (w : World) : Calls Try.prog 4 #[] w fun e w' => e = .returned (.bool true) ∧ Below w.heap.size w w' := by
  go_enter Try.func4, Try.ntmps4
  go_wp2_with (go_at_call 12; refine (lives_any _).mono ?_; rintro e w' ⟨rfl, hb⟩)
  go_ret
  exact ⟨rfl, hb⟩
set_option maxHeartbeats 400000 in
theorem texts_law (s : ByteArray) (w : World) : Calls Try.prog 3 #[.string s] w fun e w' => e = .returned (.bool true) ∧ Below w.heap.size w w' := by
  cases hb : readB s
  all_goals
    have Hb := Lib.hid hb
    clear hb
    go_enter Try.func3, Try.ntmps3
    go_wp2_with fail
    refine (read_any s _).mono ?_
    rintro e w1 ⟨rfl, hb1⟩
    rw [Hb.out]
    go_wp2_with fail
    refine (rread_any s _).mono ?_
    rintro e w2 ⟨rfl, hb2⟩
    rw [Hb.out]
    have e0 : errN true 10 = 0 := rfl
    have e1 : errN false 10 = 10 := rfl
    go_wp2_with (go_at_call 12; refine (lives_any _).mono ?_; rintro e w' ⟨rfl, hb3⟩)
    go_ret
    exact ⟨rfl, (hb1.trans (hb2.mono hb1.size)).trans (hb3.mono (Nat.le_trans hb1.size hb2.size))⟩
end Go.Proofs.Ytadmdanmafegoaa
