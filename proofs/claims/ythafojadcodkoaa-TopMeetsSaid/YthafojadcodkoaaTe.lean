/- Package able at this translation: Meet, Join, May; what kinds can. -/
import Derived.Test.YthafojadcodkoaaTd
namespace Go.Proofs.Ythafojadcodkoaa
open Go.RowKit



def mayB (a : Nat) : Bool := decide (a < 64)
theorem f_may : ∀ a : Fin 256, (bits .andNot .u8 ((a : Nat) : Int) 63 == 0) = mayB a := by decide +kernel
set_option maxHeartbeats 400000 in
theorem may_any (a : Nat) (ha : a < 256) (w : World) :
    Calls Try.prog 39 #[.int .u8 a] w fun e w' => e = .returned (.bool (mayB a)) ∧ w = w' := by
  go_enter Try.func39, Try.ntmps39
  go_wp2
  go_ret
  exact ⟨by simp [f_may ⟨a, ha⟩], rfl⟩


/-- v is a slice that reads as the bytes xs. -/
def IsU8 (w : World) (v : Value) (xs : List Nat) : Prop :=
  (∀ x ∈ xs, x < 256) ∧ xs.length ≤ 140737488355328 ∧
  ((xs = [] ∧ ∃ a cap, v = .slice a 0 cap ∧ (a = Option.none → cap = 0)) ∨ ∃ b o cap, v = .slice (some ⟨b, o, Option.none⟩) xs.length cap ∧ ∀ j, j < xs.length → w.cell? ⟨b, o + j, Option.none⟩ = some (.int .u8 (xs.getD j 0 : Nat)))
theorem cell_lt {w : World} {b o : Nat} {v : Value} (h : w.cell? ⟨b, o, Option.none⟩ = some v) : b < w.heap.size := by
  rcases Nat.lt_or_ge b w.heap.size with hb | hb
  · exact hb
  · simp [World.cell?, Array.getElem?_eq_none hb] at h
theorem IsU8.below {w w' : World} {v : Value} {xs : List Nat} (h : IsU8 w v xs) (hb : Below w.heap.size w w') : IsU8 w' v xs := by
  obtain ⟨h1, h2, h3⟩ := h
  refine ⟨h1, h2, h3.imp id ?_⟩
  rintro ⟨b, o, cap, hv, hc⟩
  exact ⟨b, o, cap, hv, fun j hj => (hb.cell (p := ⟨b, o + j, Option.none⟩) (cell_lt (hc j hj))).trans (hc j hj)⟩
theorem getD_lt {xs : List Nat} (h : ∀ x ∈ xs, x < 256) (j : Nat) : xs.getD j 0 < 256 := by
  rw [List.getD_eq_getElem?_getD]
  cases hj : xs[j]? with
  | none => simp
  | some x => exact h x (List.mem_of_getElem? hj)
def meetN (xs : List Nat) : Nat := xs.foldl (· &&& ·) 63
def joinN (xs : List Nat) : Nat := xs.foldl (fun o a => o ||| (a % 64)) 0
theorem take_succ_getD (xs : List Nat) (j : Nat) (h : j < xs.length) : xs.take (j + 1) = xs.take j ++ [xs.getD j 0] := by
  rw [List.take_add_one, List.getD_eq_getElem?_getD, List.getElem?_eq_getElem h]; rfl
theorem meetN_succ (xs : List Nat) (j : Nat) (h : j < xs.length) : meetN (xs.take (j + 1)) = meetN (xs.take j) &&& xs.getD j 0 := by
  unfold meetN; rw [take_succ_getD xs j h, List.foldl_append]; rfl
theorem joinN_succ (xs : List Nat) (j : Nat) (h : j < xs.length) : joinN (xs.take (j + 1)) = joinN (xs.take j) ||| (xs.getD j 0 % 64) := by
  unfold joinN; rw [take_succ_getD xs j h, List.foldl_append]; rfl
theorem meet_lt (xs : List Nat) : meetN xs < 64 := by
  have : ∀ (xs : List Nat) (a : Nat), a < 64 → xs.foldl (· &&& ·) a < 64 := by
    intro xs
    induction xs with
    | nil => exact fun a h => h
    | cons x xs ih => exact fun a h => ih _ (Nat.lt_of_le_of_lt Nat.and_le_left h)
  exact this xs 63 (by omega)
theorem join_lt (xs : List Nat) : joinN xs < 64 := by
  have : ∀ (xs : List Nat) (a : Nat), a < 64 → xs.foldl (fun o a => o ||| (a % 64)) a < 64 := by
    intro xs
    induction xs with
    | nil => exact fun a h => h
    | cons x xs ih => exact fun a h => ih _ (Nat.or_lt_two_pow (n := 6) h (Nat.mod_lt _ (by omega)))
  exact this xs 0 (by omega)

set_option maxHeartbeats 400000 in
theorem meet_any (v : Value) (xs : List Nat) (w : World) (h : IsU8 w v xs) :
    Calls Try.prog 21 #[v] w fun e w' => e = .returned (.int .u8 (meetN xs)) ∧ w = w' := by
  obtain ⟨h1, h2, h3⟩ := h
  rcases h3 with ⟨rfl, a, cap, rfl, _⟩ | ⟨b, o, cap, rfl, hc⟩
  · go_enter Try.func21, Try.ntmps21
    go_wp2
    go_loop [3, 5, 8] (fun m _ i => m = .int .u8 63 ∧ i = .int .i64 0) (fun _ _ _ => 0)
    case atStart => exact ⟨rfl, rfl⟩
    case round =>
      obtain ⟨rfl, rfl⟩ := hrel
      go_wp2
      go_ret
      exact ⟨rfl, rfl⟩
  · obtain ⟨n, hn⟩ : ∃ n, n = xs.length := ⟨_, rfl⟩
    have Hn := Lib.hid hn
    rw [← hn] at h2 hc ⊢
    clear hn
    go_enter Try.func21, Try.ntmps21
    go_wp2
    go_loop [3, 5, 8] (fun m _ i => ∃ k : Nat, k ≤ n ∧ i = .int .i64 k ∧ m = .int .u8 (meetN (xs.take k))) (fun _ _ i => n - (intOf i).toNat)
    case atStart => exact ⟨0, by omega, rfl, rfl⟩
    case round =>
      obtain ⟨k, hk, rfl, rfl⟩ := hrel
      by_cases hlt : k < n
      · have hcell := hc k hlt
        have hx := getD_lt h1 k
        have HS := Lib.hid (meetN_succ xs k (by rw [← Hn.out]; exact hlt))
        have hm := meet_lt (xs.take k)
        have HA := Lib.hid (u8_and_nat (meetN (xs.take k)) (xs.getD k 0) (by omega) hx)
        have H1 := Lib.hid h1
        have HC := Lib.hid hc
        clear h1 hc
        obtain ⟨y, hy⟩ : ∃ y, y = xs.getD k 0 := ⟨_, rfl⟩
        have HY := Lib.hid hy
        rw [← hy] at hcell hx
        clear hy
        go_wp2
        go_round
        case rel => exact ⟨k + 1, by omega, by go_num, by rw [HS.out, ← HA.out, ← HY.out]⟩
        case measure => simp [intOf]; omega
      · obtain rfl : k = n := by omega
        have HM : Hid (meetN (xs.take k) = meetN xs) := Lib.hid (by rw [Hn.out, List.take_length])
        go_wp2
        go_ret
        exact ⟨by rw [← HM.out]; rfl, rfl⟩

set_option maxHeartbeats 400000 in
theorem joinS_any (v : Value) (xs : List Nat) (w : World) (h : IsU8 w v xs) :
    Calls Try.prog 47 #[v] w fun e w' => e = .returned (.int .u8 (joinN xs)) ∧ w = w' := by
  obtain ⟨h1, h2, h3⟩ := h
  rcases h3 with ⟨rfl, a, cap, rfl, _⟩ | ⟨b, o, cap, rfl, hc⟩
  · go_enter Try.func47, Try.ntmps47
    go_wp2
    go_loop [3, 5, 8] (fun m _ i => m = .int .u8 0 ∧ i = .int .i64 0) (fun _ _ _ => 0)
    case atStart => exact ⟨rfl, rfl⟩
    case round =>
      obtain ⟨rfl, rfl⟩ := hrel
      go_wp2
      go_ret
      exact ⟨rfl, rfl⟩
  · obtain ⟨n, hn⟩ : ∃ n, n = xs.length := ⟨_, rfl⟩
    have Hn := Lib.hid hn
    rw [← hn] at h2 hc ⊢
    clear hn
    go_enter Try.func47, Try.ntmps47
    go_wp2
    go_loop [3, 5, 8] (fun m _ i => ∃ k : Nat, k ≤ n ∧ i = .int .i64 k ∧ m = .int .u8 (joinN (xs.take k))) (fun _ _ i => n - (intOf i).toNat)
    case atStart => exact ⟨0, by omega, rfl, rfl⟩
    case round =>
      obtain ⟨k, hk, rfl, rfl⟩ := hrel
      by_cases hlt : k < n
      · have hcell := hc k hlt
        have hx := getD_lt h1 k
        have HS := Lib.hid (joinN_succ xs k (by rw [← Hn.out]; exact hlt))
        have hm := join_lt (xs.take k)
        have HA := Lib.hid (u8_or_nat (joinN (xs.take k)) (xs.getD k 0 % 64) (by omega) (by omega))
        have H1 := Lib.hid h1
        have HC := Lib.hid hc
        clear h1 hc
        obtain ⟨y, hy⟩ : ∃ y, y = xs.getD k 0 := ⟨_, rfl⟩
        have HY := Lib.hid hy
        rw [← hy] at hcell hx
        clear hy
        go_wp2
        go_round
        case rel => exact ⟨k + 1, by omega, by go_num, by rw [HS.out, ← HA.out, ← HY.out]; simp⟩
        case measure => simp [intOf]; omega
      · obtain rfl : k = n := by omega
        have HM : Hid (joinN (xs.take k) = joinN xs) := Lib.hid (by rw [Hn.out, List.take_length])
        go_wp2
        go_ret
        exact ⟨by rw [← HM.out]; rfl, rfl⟩

theorem wrapK_not {k : Int} (h : k ≠ 14) (h2 : k ≠ 15) (h3 : k ≠ 16) : wrapK k = false := by
  unfold wrapK
  simp [h, h2, h3]
set_option maxRecDepth 100000 in
theorem wraps_any (k : Int) (w : World) : Calls Try.prog 44 #[.int .u8 k] w fun e w' => e = .returned (.bool (wrapK k)) ∧ w = w' := by
  by_cases h14 : k = 14
  · subst h14
    go_enter Try.func44, Try.ntmps44
    go_wp2_with (fail)
    go_ret
    exact ⟨rfl, rfl⟩
  by_cases h15 : k = 15
  · subst h15
    go_enter Try.func44, Try.ntmps44
    go_wp2_with (fail)
    go_ret
    exact ⟨rfl, rfl⟩
  by_cases h16 : k = 16
  · subst h16
    go_enter Try.func44, Try.ntmps44
    go_wp2_with (fail)
    go_ret
    exact ⟨rfl, rfl⟩
  have e14 : ((k : Int) == 14) = false := by rw [beq_eq_false_iff_ne]; exact h14
  have e15 : ((k : Int) == 15) = false := by rw [beq_eq_false_iff_ne]; exact h15
  have e16 : ((k : Int) == 16) = false := by rw [beq_eq_false_iff_ne]; exact h16
  go_enter Try.func44, Try.ntmps44
  go_wp2_with (fail)
  go_ret
  exact ⟨by rw [wrapK_not h14 h15 h16]; rfl, rfl⟩
def asksK (k : Int) : Bool := k == 6 || (k == 7 || (k == 9 || (k == 11 || wrapK k)))
def asksB (k : Int) : Bool := k == 15 || k == 16
set_option maxRecDepth 100000 in
theorem asksOf_any (k : Int) (w : World) : Calls Try.prog 28 #[.int .u8 k] w fun e w' => e = .returned (.bool (asksK k)) ∧ w = w' := by
  have C44 := Lib.hid (wraps_any k w)
  obtain ⟨b, hb⟩ : ∃ b, b = wrapK k := ⟨_, rfl⟩
  rw [← hb] at C44
  by_cases h6 : k = 6
  · subst h6
    go_enter Try.func28, Try.ntmps28
    go_wp2_with (first | (go_at_call 44; refine C44.out.mono ?_; rintro e w' ⟨rfl, rfl⟩))
    go_ret
    exact ⟨rfl, rfl⟩
  by_cases h7 : k = 7
  · subst h7
    go_enter Try.func28, Try.ntmps28
    go_wp2_with (first | (go_at_call 44; refine C44.out.mono ?_; rintro e w' ⟨rfl, rfl⟩))
    go_ret
    exact ⟨rfl, rfl⟩
  by_cases h9 : k = 9
  · subst h9
    go_enter Try.func28, Try.ntmps28
    go_wp2_with (first | (go_at_call 44; refine C44.out.mono ?_; rintro e w' ⟨rfl, rfl⟩))
    go_ret
    exact ⟨rfl, rfl⟩
  by_cases h11 : k = 11
  · subst h11
    go_enter Try.func28, Try.ntmps28
    go_wp2_with (first | (go_at_call 44; refine C44.out.mono ?_; rintro e w' ⟨rfl, rfl⟩))
    go_ret
    exact ⟨rfl, rfl⟩
  have e6 : ((k : Int) == 6) = false := by rw [beq_eq_false_iff_ne]; exact h6
  have e7 : ((k : Int) == 7) = false := by rw [beq_eq_false_iff_ne]; exact h7
  have e9 : ((k : Int) == 9) = false := by rw [beq_eq_false_iff_ne]; exact h9
  have e11 : ((k : Int) == 11) = false := by rw [beq_eq_false_iff_ne]; exact h11
  go_enter Try.func28, Try.ntmps28
  go_wp2_with (first | (go_at_call 44; refine C44.out.mono ?_; rintro e w' ⟨rfl, rfl⟩))
  go_ret
  exact ⟨by unfold asksK; rw [e6, e7, e9, e11, ← hb]; cases b <;> rfl, rfl⟩
set_option maxRecDepth 100000 in
theorem asksBy_any (k : Int) (w : World) : Calls Try.prog 29 #[.int .u8 k] w fun e w' => e = .returned (.bool (asksB k)) ∧ w = w' := by
  by_cases h15 : k = 15
  · subst h15
    go_enter Try.func29, Try.ntmps29
    go_wp2_with (fail)
    go_ret
    exact ⟨rfl, rfl⟩
  by_cases h16 : k = 16
  · subst h16
    go_enter Try.func29, Try.ntmps29
    go_wp2_with (fail)
    go_ret
    exact ⟨rfl, rfl⟩
  have e15 : ((k : Int) == 15) = false := by rw [beq_eq_false_iff_ne]; exact h15
  have e16 : ((k : Int) == 16) = false := by rw [beq_eq_false_iff_ne]; exact h16
  go_enter Try.func29, Try.ntmps29
  go_wp2_with (fail)
  go_ret
  exact ⟨by unfold asksB; rw [e15, e16]; rfl, rfl⟩
theorem row_u8 {w : World} {b : Nat} {xs : List Nat} (hx : ∀ x ∈ xs, x < 256) (hl : xs.length ≤ 100) (_hne : xs ≠ []) (h : BlkN w b 35 (xs.map fun x : Nat => Value.int .u8 (x : Int)).toArray) (cap : Nat) : IsU8 w (.slice (some ⟨b, 0, Option.none⟩) xs.length cap) xs :=
  ⟨hx, by omega, .inr ⟨b, 0, cap, rfl, fun j hj => by
    have h1 := h.cell j (v := .int .u8 (xs.getD j 0)) (by simp [List.getD_eq_getElem?_getD, List.getElem?_eq_getElem hj])
    rw [Nat.zero_add]
    exact h1⟩⟩
end Go.Proofs.Ythafojadcodkoaa
