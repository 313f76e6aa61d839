/- The walk of the law AbleParts, for every two bytes. -/
import Derived.Test.YtadmdanmafegoaaK
namespace Go.Proofs.Ytadmdanmafegoaa
open Go.RowKit Go.Shelf
attribute [local go_sem] Oper.semAt_some

def lastI (pre : List (Fin 64)) : Int := match pre.getLast? with | some x => (x.val : Int) | Option.none => -1
theorem lastI_snoc (pre : List (Fin 64)) (x : Fin 64) : lastI (pre ++ [x]) = (x.val : Int) := by simp [lastI]
theorem lastI_bd (pre : List (Fin 64)) : -1 ≤ lastI pre ∧ lastI pre ≤ 63 := by
  unfold lastI; split
  · rename_i x _; have := x.isLt; omega
  · omega
theorem within_sorted (a : Nat) : (withinTo a 64).Pairwise (· < ·) := List.Pairwise.filter _ List.pairwise_lt_range
theorem within_next (a : Nat) (pre : List (Fin 64)) (x : Fin 64) (h : (pre ++ [x]).map Fin.val <+: withinTo a 64) : lastI pre < (x.val : Int) ∧ hasB a x = true := by
  rw [List.map_append] at h
  have hx : x.val ∈ withinTo a 64 := h.subset (by simp)
  refine ⟨?_, (List.mem_filter.1 hx).2⟩
  have hs := (within_sorted a).sublist h.sublist
  rw [List.pairwise_append] at hs
  unfold lastI
  split
  · rename_i y hy
    have := hs.2.2 y.val (List.mem_map.2 ⟨y, List.mem_of_getLast? hy, rfl⟩) x.val (by simp)
    omega
  · omega
theorem within_len : ∀ a : Fin 64, (withinTo a 64).length = 2 ^ cntN a := by decide +kernel
theorem within_mem (a b : Nat) (hb : b < 64) : (withinTo a 64).contains b = hasB a b := by
  rw [Bool.eq_iff_iff, List.contains_iff_mem]
  unfold withinTo
  rw [List.mem_filter]; simp [hb]
def joinP (pre : List (Fin 6)) : Nat := pre.foldl (fun (o : Nat) (k : Fin 6) => joinN [o, bitN k.val]) 0
def nextP (pre : List (Fin 6)) : Nat := match pre.getLast? with | some x => x.val + 1 | Option.none => 0
theorem joinP_snoc (pre : List (Fin 6)) (x : Fin 6) : joinP (pre ++ [x]) = joinN [joinP pre, bitN x] := by simp [joinP]
theorem nextP_snoc (pre : List (Fin 6)) (x : Fin 6) : nextP (pre ++ [x]) = x.val + 1 := by simp [nextP]
theorem joinP_lt (pre : List (Fin 6)) : joinP pre < 64 := by
  rcases List.eq_nil_or_concat pre with rfl | ⟨p, x, rfl⟩
  · decide
  · rw [List.concat_eq_append, joinP_snoc]; exact join_lt _
theorem nextP_le (pre : List (Fin 6)) : nextP pre ≤ 6 := by
  unfold nextP; split
  · rename_i x _; have := x.isLt; omega
  · omega
theorem each_facts : ∀ (a : Fin 64) (k : Fin 6), ∀ x, (eachTo a 6)[(k : Nat)]? = some x → nextP ((eachTo a 6).take k) ≤ x.val ∧ meetN [joinP ((eachTo a 6).take k), bitN x] = 0 := by decide +kernel
theorem each_next (a : Fin 64) (pre : List (Fin 6)) (x : Fin 6) (h : pre ++ [x] <+: eachTo a 6) : nextP pre ≤ x.val ∧ meetN [joinP pre, bitN x] = 0 := by
  have hl := h.length_le
  have h6 := eachTo_le a 6
  simp at hl
  obtain ⟨t, ht⟩ := h
  have e1 : (eachTo a 6).take pre.length = pre := by rw [← ht]; simp
  have e2 : (eachTo a 6)[pre.length]? = some x := by rw [← ht]; simp
  have := each_facts a ⟨pre.length, by omega⟩ x e2
  simp only at this
  rwa [e1] at this
theorem each_all : ∀ a : Fin 64, joinP (eachTo a 6) = a := by decide +kernel
theorem cnt_le : ∀ a : Fin 64, cntN a ≤ 6 := by decide +kernel

theorem within64_any (a : Nat) (ha : a < 64) (w : World) :
    Calls Try.prog 36 #[.int .u8 a] w fun e w' => e = .returned (.func (.func 45) #[] #[.pointer (some ⟨w.heap.size, 0, Option.none⟩)]) ∧ w' = w.alloc (.cells #[.int .u8 (a : Nat)] 22) := by
  have := within_any a (by omega) w
  rwa [Nat.mod_eq_of_lt ha] at this
theorem map_contains_snoc (pre : List (Fin 64)) (x : Fin 64) (B : Nat) : (List.map Fin.val (pre ++ [x])).contains B = ((pre.map Fin.val).contains B || (((x : Nat) : Int) == (B : Int))) := by
  have e : (B == (x : Nat)) = (((x : Nat) : Int) == (B : Int)) := by rw [Bool.eq_iff_iff, beq_iff_eq, beq_iff_eq]; omega
  simp only [List.map_append, List.contains_eq_any_beq, List.any_append, List.map_cons, List.map_nil, List.any_cons, List.any_nil, Bool.or_false, e]
/-- The boxes that stay through both loops. -/
def PW (n V A B : Nat) (w0 W : World) : Prop :=
  Boxed W n 22 (.int .u8 A) ∧ Boxed W (n + 1) 22 (.int .u8 B) ∧ Boxed W (n + 2) 4 (.bool false) ∧ Boxed W (V + 3) 22 (.int .u8 A) ∧ Boxed W (V + 4) 22 (.int .u8 A) ∧ Below n w0 W
theorem PW_own {β : Type} {D n V A B : Nat} {w0 : World} (hn : n ≤ w0.heap.size) (hB : n ≤ D) : OwnFrom D (fun (_ : β) W => PW n V A B w0 W) :=
  OwnFrom.and (Own.from (boxed_own _ _ (fun _ => _)) _) (OwnFrom.and (Own.from (boxed_own _ _ (fun _ => _)) _) (OwnFrom.and (Own.from (boxed_own _ _ (fun _ => _)) _) (OwnFrom.and (Own.from (boxed_own _ _ (fun _ => _)) _) (OwnFrom.and (Own.from (boxed_own _ _ (fun _ => _)) _) (ownFrom_below hn hB)))))
theorem PW.other {n V A B Bi : Nat} {w0 W : World} (h : PW n V A B w0 W) (h0 : n + 2 < V) (h1 : V ≤ Bi) (h2 : Bi ≠ V + 3) (h3 : Bi ≠ V + 4) (u : Value) : PW n V A B w0 (W.setCell ⟨Bi, 0, Option.none⟩ u) :=
  ⟨h.1.other (by omega) u, h.2.1.other (by omega) u, h.2.2.1.other (by omega) u, h.2.2.2.1.other (by omega) u, h.2.2.2.2.1.other (by omega) u, h.2.2.2.2.2.setCell (p := ⟨Bi, 0, Option.none⟩) (by simp; omega) u⟩
def PI (n V A B : Nat) (w0 : World) (pre : List (Fin 64)) (W : World) : Prop :=
  Boxed W V 3 (.int .i64 (pre.length : Nat)) ∧ Boxed W (V + 1) 4 (.bool ((pre.map Fin.val).contains B)) ∧ Boxed W (V + 2) 3 (.int .i64 (lastI pre)) ∧ PW n V A B w0 W
theorem PI_own {D n V A B : Nat} {w0 : World} (hn : n ≤ w0.heap.size) (hB : n ≤ D) : OwnFrom D (PI n V A B w0) :=
  OwnFrom.and (Own.from (boxed_own _ _ (fun pre : List (Fin 64) => .int .i64 (pre.length : Nat))) _) (OwnFrom.and (Own.from (boxed_own _ _ (fun pre : List (Fin 64) => .bool ((pre.map Fin.val).contains B))) _) (OwnFrom.and (Own.from (boxed_own _ _ (fun pre : List (Fin 64) => .int .i64 (lastI pre))) _) (PW_own hn hB)))
/-- The boxes of the second loop. -/
def PJ (n V m A B q : Nat) (h : Bool) (w0 : World) (D : Nat) (pre : List (Fin 6)) (W : World) : Prop :=
  Boxed W m 22 (.int .u8 (joinP pre : Nat)) ∧ Boxed W (m + 1) 3 (.int .i64 (nextP pre : Nat)) ∧ Boxed W V 3 (.int .i64 (q : Nat)) ∧ Boxed W (V + 1) 4 (.bool h) ∧ PW n V A B w0 W ∧ W.heap[D]? = some (.deferred (some []))
theorem PJ_own {E n V m A B q D : Nat} {h : Bool} {w0 : World} (hn : n ≤ w0.heap.size) (hB : n ≤ E) (hD : D < E) : OwnFrom E (PJ n V m A B q h w0 D) :=
  OwnFrom.and (Own.from (boxed_own _ _ (fun pre : List (Fin 6) => .int .u8 (joinP pre : Nat))) _) (OwnFrom.and (Own.from (boxed_own _ _ (fun pre : List (Fin 6) => .int .i64 (nextP pre : Nat))) _) (OwnFrom.and (Own.from (boxed_own _ _ (fun _ => _)) _) (OwnFrom.and (Own.from (boxed_own _ _ (fun _ => _)) _) (OwnFrom.and (PW_own hn hB) (ownFrom_heap hD)))))
theorem PW.alloc {n V A B : Nat} {w0 W : World} (h : PW n V A B w0 W) (hn : n ≤ W.heap.size) (o : Obj) : PW n V A B w0 (W.alloc o) :=
  ⟨h.1.alloc o, h.2.1.alloc o, h.2.2.1.alloc o, h.2.2.2.1.alloc o, h.2.2.2.2.1.alloc o, h.2.2.2.2.2.alloc hn o⟩
theorem isU8_pair (W : World) (m n : Nat) (hm : m < 256) (hn : n < 256) : IsU8 (W.alloc (.cells #[.int .u8 m, .int .u8 n] 22)) (.slice (some ⟨W.heap.size, 0, Option.none⟩) 2 2) [m, n] := by
  refine ⟨by intro x hx; simp at hx; omega, by simp, .inr ⟨_, _, _, rfl, fun j hj => ?_⟩⟩
  have : j = 0 ∨ j = 1 := by simp at hj; omega
  rcases this with rfl | rfl <;> simp
/-- The cells that the last region reads. -/
def RC (n V m A B q : Nat) (h : Bool) (W : World) : Prop :=
  W.cell? ⟨V, 0, Option.none⟩ = some (.int .i64 q) ∧ W.cell? ⟨V + 1, 0, Option.none⟩ = some (.bool h) ∧ W.cell? ⟨m, 0, Option.none⟩ = some (.int .u8 A) ∧ W.cell? ⟨n, 0, Option.none⟩ = some (.int .u8 A) ∧ W.cell? ⟨n + 1, 0, Option.none⟩ = some (.int .u8 B)
theorem two24 (W : World) (v : Nat) (hv : v = W.heap.size) (O b M : Nat) (hO : O < 256) (hb : b < 256) (hM : Hid (M = meetN [O, b])) :
    Calls Try.prog 24 #[.slice (some ⟨v, 0, Option.none⟩) 2 2] (W.alloc (.cells #[.int .u8 O, .int .u8 b] 22)) fun e w' => e = .returned (.int .u8 M) ∧ W.alloc (.cells #[.int .u8 O, .int .u8 b] 22) = w' := by
  subst hv; rw [hM.out]; exact meet_any _ [O, b] _ (isU8_pair W O b hO hb)
theorem two26 (W : World) (v : Nat) (hv : v = W.heap.size) (O b J : Nat) (hO : O < 256) (hb : b < 256) (hJ : Hid (J = joinN [O, b])) :
    Calls Try.prog 26 #[.slice (some ⟨v, 0, Option.none⟩) 2 2] (W.alloc (.cells #[.int .u8 O, .int .u8 b] 22)) fun e w' => e = .returned (.int .u8 J) ∧ W.alloc (.cells #[.int .u8 O, .int .u8 b] 22) = w' := by
  subst hv; rw [hJ.out]; exact joinS_any _ [O, b] _ (isU8_pair W O b hO hb)
theorem one_place (b x : Nat) (hb : b < 256) (h : Hid (placeN b = x ∧ oneB b = true)) (w : World) :
    Calls Try.prog 15 #[.int .u8 b] w fun e w' => e = .returned (.tuple #[.int .i64 x, .int .i64 0]) ∧ w = w' := by
  have := place_any b hb w
  rw [h.out.1, h.out.2] at this
  exact this
theorem one_one (b x : Nat) (hb : b < 256) (h : Hid (placeN b = x ∧ oneB b = true)) (w : World) :
    Calls Try.prog 19 #[.int .u8 b] w fun e w' => e = .returned (.bool true) ∧ w = w' := by
  have := one_any b hb w
  rw [h.out.2] at this
  exact this
set_option maxRecDepth 100000 in
set_option maxHeartbeats 8000000 in
theorem parts_law (a b : Nat) (ha : a < 256) (hb : b < 256) (w : World) :
    Calls Try.prog 9 #[.int .u8 a, .int .u8 b] w fun e w' => e = .returned (.bool true) ∧ Below w.heap.size w w' := by
  refine (callsIn_wide (n := 9)).1 ?_
  have hq := eql_nilFunc
  refine callsIn_of_wp_marks Try.func9 rfl trivial ?_ rfl
  simp only [Try.ntmps9, List.size_toArray, List.length_cons, List.length_nil, Nat.reduceAdd, Nat.reduceSub, Array.replicate_succ, Array.replicate_zero, List.push_toArray, List.append_toArray, List.nil_append, List.cons_append]
  have bA := ((Boxed.new w 22 (.int .u8 a)).alloc (.cells #[.int .u8 b] 22)).alloc (.cells #[.bool false] 4)
  have bB := (boxed_here (w.alloc (.cells #[.int .u8 a] 22)) 22 (.int .u8 b) (w.heap.size + 1) (by simp)).alloc (.cells #[.bool false] 4)
  have bR := boxed_here ((w.alloc (.cells #[.int .u8 a] 22)).alloc (.cells #[.int .u8 b] 22)) 4 (.bool false) (w.heap.size + 2) (by simp)
  have hB0 : Below w.heap.size w (((w.alloc (.cells #[.int .u8 a] 22)).alloc (.cells #[.int .u8 b] 22)).alloc (.cells #[.bool false] 4)) := (((Below.refl _ _).alloc (by simp) _).alloc (by simp) _).alloc (by simp <;> omega) _
  gi_wp2_with (refine ⟨trivial, ?_⟩; gi_at_call 12; refine (callsIn_wide.2 (lives_any _)).mono ?_; rintro e w1 ⟨rfl, hl⟩)
  have cA : Boxed w1 w.heap.size 22 (.int .u8 a) := (hl.block _ bA.lt).trans bA
  have cB : Boxed w1 (w.heap.size + 1) 22 (.int .u8 b) := (hl.block _ bB.lt).trans bB
  have cR : Boxed w1 (w.heap.size + 2) 4 (.bool false) := (hl.block _ bR.lt).trans bR
  have hB1 : Below w.heap.size w w1 := hB0.trans (hl.mono hB0.size)
  have hs1 : w.heap.size + 3 ≤ w1.heap.size := by have := hl.size; simp at this; omega
  clear bA bB bR hB0 hl
  have hcA := cA.cell
  have hcB := cB.cell
  have hfA := cA.frozen
  have hfB := cB.frozen
  refine wpIn_wide.2 ?_
  refine RegR.region_np (fun i W => match i with | 0 | 1 | 4 => W.cell? ⟨w.heap.size + 1, 0, Option.none⟩ = some (.int .u8 b) | _ => True) (by kernel_rfl) ?_
  have tA := Int.tmod_eq_emod_of_nonneg (a := (a : Int)) (b := 64) (by omega)
  have tB := Int.tmod_eq_emod_of_nonneg (a := (b : Int)) (b := 64) (by omega)
  refine RegR.take (fun W => W.cell? ⟨w.heap.size + 1, 0, Option.none⟩ = some (.int .u8 b)) [0, 1, 4] (i := 2) (v := .int .u8 b) rfl (by kernel_rfl) (by kernel_rfl) (by kernel_rfl) (by kernel_rfl) (by intro j hj w' h; simp at hj; rcases hj with rfl | rfl | rfl <;> exact h) (fun _ _ => trivial) (fun _ _ _ h => h) (Or.inl ⟨by rfl, ?y2⟩) hcB ?_
  case y2 => intro w' hS; go_simp
  refine RegR.takePure (i := 3) (v := .int .u8 ((b : Int) % 64)) rfl (by kernel_rfl) (by kernel_rfl) (by kernel_rfl) (fun _ => trivial) (fun _ _ _ h => h) (Or.inl ⟨by rfl, ?y3⟩) ?_
  case y3 => intro w' _; go_simp
  refine RegR.take (fun W => W.cell? ⟨w.heap.size, 0, Option.none⟩ = some (.int .u8 a) ∧ W.cell? ⟨w.heap.size + 1, 0, Option.none⟩ = some (.int .u8 b)) [] (i := 0) (v := .int .u8 a) rfl (by kernel_rfl) (by kernel_rfl) (by kernel_rfl) (by kernel_rfl) (by intro j hj; cases hj) (fun _ h => h.2) (fun _ _ _ h => h) (Or.inl ⟨by rfl, ?y0⟩) ⟨hcA, hcB⟩ ?_
  case y0 => intro w' hS; obtain ⟨hS1, hS2⟩ := hS; go_simp
  refine RegR.one (i := 1) (by kernel_rfl) rfl ?_
  go_wp2
  refine ⟨hcB, ?_⟩
  refine RegR.one (i := 4) (by kernel_rfl) rfl ?_
  go_wp2
  refine ⟨(World.cell?_of_block (grownBy_setCell' _ _ _ |>.block _ cB.lt (by simp))).trans hcB, ?_⟩
  refine RegR.rest [5] [_] _ _ (by kernel_rfl) (by simp) rfl (fun i hi w' => by simp at hi; subst hi; trivial) _ _ ?_
  go_wp2
  simp only [RegSeq.NP, Exit.then]
  obtain ⟨A, hA⟩ : ∃ A : Nat, A = a % 64 := ⟨_, rfl⟩
  obtain ⟨B, hBb⟩ : ∃ B : Nat, B = b % 64 := ⟨_, rfl⟩
  have xA : ((a : Int) % 64) = (A : Int) := by omega
  have xB : ((b : Int) % 64) = (B : Int) := by omega
  have lA : A < 64 := by omega
  have lB : B < 64 := by omega
  rw [xA, xB]
  have dA : Boxed ((w1.setCell ⟨w.heap.size, 0, Option.none⟩ (.int .u8 A)).setCell ⟨w.heap.size + 1, 0, Option.none⟩ (.int .u8 B)).drew w.heap.size 22 (.int .u8 A) := (cA.set _).other (by omega) _
  have dB : Boxed ((w1.setCell ⟨w.heap.size, 0, Option.none⟩ (.int .u8 A)).setCell ⟨w.heap.size + 1, 0, Option.none⟩ (.int .u8 B)).drew (w.heap.size + 1) 22 (.int .u8 B) := (cB.other (by omega) _).set _
  have dR : Boxed ((w1.setCell ⟨w.heap.size, 0, Option.none⟩ (.int .u8 A)).setCell ⟨w.heap.size + 1, 0, Option.none⟩ (.int .u8 B)).drew (w.heap.size + 2) 4 (.bool false) := (cR.other (by omega) _).other (by omega) _
  have hB2 : Below w.heap.size w ((w1.setCell ⟨w.heap.size, 0, Option.none⟩ (.int .u8 A)).setCell ⟨w.heap.size + 1, 0, Option.none⟩ (.int .u8 B)).drew := ((hB1.setCell (p := ⟨w.heap.size, 0, Option.none⟩) (by simp) _).setCell (p := ⟨w.heap.size + 1, 0, Option.none⟩) (by simp) _).drew
  clear cA cB cR hB1 hs1 hcA hcB hfA hfB tA tB hA hBb xA xB ha hb
  generalize ((w1.setCell ⟨w.heap.size, 0, Option.none⟩ (.int .u8 A)).setCell ⟨w.heap.size + 1, 0, Option.none⟩ (.int .u8 B)).drew = W1 at dA dB dR hB2 ⊢
  have hcA := dA.cell
  have hsA := dA.lt
  have hsR := dR.lt
  have hcnt := cnt_le ⟨A, lA⟩
  have hlenL := within_len ⟨A, lA⟩
  simp only at hcnt hlenL
  obtain ⟨c, hc⟩ : ∃ c, c = cntN A := ⟨_, rfl⟩
  rw [← hc] at hcnt hlenL
  have HCN := Lib.hid hc
  have HLL := Lib.hid hlenL
  clear hc hlenL
  gi_wp2
  gi_loop [5, 6] (fun n i => ∃ k : Nat, k ≤ c ∧ i = .int .i64 k ∧ n = .int .i64 ((2 ^ k : Nat) : Int)) (fun _ i => 6 - (intOf i).toNat)
  case atStart => exact ⟨0, by omega, rfl, rfl⟩
  case round =>
    obtain ⟨k, hk, rfl, rfl⟩ := hrel
    obtain ⟨q, hq⟩ : ∃ q, q = 2 ^ k := ⟨_, rfl⟩
    rw [← hq]
    by_cases hlt : k < c
    · have hp : 2 ^ k ≤ 2 ^ 5 := Nat.pow_le_pow_right (by omega) (by omega)
      have hq2 : q ≤ 32 := by rw [hq]; exact hp
      have HQ : Hid (2 ^ (k + 1) = 2 * q) := Lib.hid (by rw [hq, Nat.pow_succ]; omega)
      clear hp hq
      gi_wp2_with (refine And.intro trivial ?_; gi_at_call 21; refine (callsIn_wide.2 (cnt_any A (by omega) _)).mono ?_; rintro e w' ⟨rfl, rfl⟩; rw [← HCN.out])
      go_round
      case rel => exact ⟨k + 1, by omega, by go_num, by rw [HQ.out]; go_num⟩
      case measure => simp [intOf]; omega
    · obtain rfl : k = c := by omega
      have HQ := Lib.hid (hq.trans HLL.out.symm)
      clear hq
      have e3 := (((dA.alloc (.cells #[.int .i64 0] 3)).alloc (.cells #[.bool false] 4)).alloc (.cells #[.int .i64 (-1)] 3)).cell
      have e4 := ((((dA.alloc (.cells #[.int .i64 0] 3)).alloc (.cells #[.bool false] 4)).alloc (.cells #[.int .i64 (-1)] 3)).alloc (.cells #[.int .u8 A] 22)).cell
      gi_wp2_with (first | (refine And.intro trivial ?_; gi_at_call 21; refine (callsIn_wide.2 (cnt_any A (by omega) _)).mono ?_; rintro e w' ⟨rfl, rfl⟩; rw [← HCN.out]) | (refine And.intro trivial ?_; gi_at_call 36; refine (callsIn_wide.2 (within64_any A lA _)).mono ?_; rintro e w' ⟨rfl, rfl⟩) | (refine And.intro trivial ?_; gi_at_call 37; refine (callsIn_wide.2 (each_any A _)).mono ?_; rintro e w' ⟨rfl, rfl⟩))
      have hx0 : PI w.heap.size W1.heap.size A B w [] (((((W1.alloc (.cells #[.int .i64 0] 3)).alloc (.cells #[.bool false] 4)).alloc (.cells #[.int .i64 (-1)] 3)).alloc (.cells #[.int .u8 A] 22)).alloc (.cells #[.int .u8 A] 22)) ∧ (((((W1.alloc (.cells #[.int .i64 0] 3)).alloc (.cells #[.bool false] 4)).alloc (.cells #[.int .i64 (-1)] 3)).alloc (.cells #[.int .u8 A] 22)).alloc (.cells #[.int .u8 A] 22)).heap.size = W1.heap.size + 5 := by
        refine ⟨⟨((((boxed_here _ _ _ _ (by simp)).alloc _).alloc _).alloc _).alloc _, (((boxed_here _ _ _ _ (by simp)).alloc _).alloc _).alloc _, ((boxed_here _ _ _ _ (by simp)).alloc _).alloc _, ((((dA.alloc _).alloc _).alloc _).alloc _).alloc _, ((((dB.alloc _).alloc _).alloc _).alloc _).alloc _, ((((dR.alloc _).alloc _).alloc _).alloc _).alloc _, (boxed_here _ _ _ _ (by simp)).alloc _, boxed_here _ _ _ _ (by simp), ?_⟩, by simp⟩
        exact (((((hB2.alloc (by omega) _).alloc (by simp <;> omega) _).alloc (by simp <;> omega) _).alloc (by simp <;> omega) _).alloc (by simp <;> omega) _)
      refine wpIn_rangeFunc_ownG rfl (by omega) (gf := 45) (lb := #[.pointer (some ⟨W1.heap.size + 3, 0, Option.none⟩)]) rfl trivial (enters_of Try.func45 (by kernel_rfl) rfl) (encs := encG)
        (within_stopsF 8 (by omega) A (by omega) (W1.heap.size + 3) _ (by rw [hx0.2]; omega) (by rw [Nat.mod_eq_of_lt lA]; exact hx0.1.2.2.2.2.2.2.1.cell)) Kc_t (Kc_b (by rw [hx0.2]; omega)) (Below.refl _ _) (fun _ => rfl)
        (PI w.heap.size W1.heap.size A B w) (fun c pre _ => c = .ret ∧ ¬ pre.map Fin.val <+: withinTo A 64)
        (PI_own (Nat.le_refl _) (by rw [hx0.2]; omega)) (fun _ _ _ _ _ h _ _ => h) hx0.1
        (fun x => { tmps := #[.int .u8 a, .int .u8 b, .pointer (some ⟨w.heap.size, 0, Option.none⟩), .pointer (some ⟨w.heap.size + 1, 0, Option.none⟩), .pointer (some ⟨w.heap.size + 2, 0, Option.none⟩), .int .i64 q, .int .i64 k, .pointer (some ⟨W1.heap.size, 0, Option.none⟩), .pointer (some ⟨W1.heap.size + 1, 0, Option.none⟩), .pointer (some ⟨W1.heap.size + 2, 0, Option.none⟩), .func (.func 45) #[] #[.pointer (some ⟨W1.heap.size + 3, 0, Option.none⟩)], .func (.func 47) #[] #[.pointer (some ⟨W1.heap.size + 4, 0, Option.none⟩)], .int .u8 (x : Nat), undef, undef, undef, undef, undef, .bool true, .bool false, .int .u8 a, .int .u8 A, .int .u8 b, .int .u8 B, .int .i64 k, .int .u8 A, .int .i64 k, .bool false, .bool false, undef, undef, .bool false, u32, u33, u34, u35, .int .u8 A, .func (.func 45) #[] #[.pointer (some ⟨W1.heap.size + 3, 0, Option.none⟩)], .func (.func 45) #[] #[.pointer (some ⟨W1.heap.size + 3, 0, Option.none⟩)], .bool false, .int .u8 A, .func (.func 47) #[] #[.pointer (some ⟨W1.heap.size + 4, 0, Option.none⟩)], .func (.func 45) #[] #[.pointer (some ⟨W1.heap.size + 3, 0, Option.none⟩)], .bool false, .bool false, .func (.func 47) #[] #[.pointer (some ⟨W1.heap.size + 4, 0, Option.none⟩)], .bool false, .bool false, .func (.func 45) #[] #[.pointer (some ⟨W1.heap.size + 3, 0, Option.none⟩)], .int .u8 (x : Nat), undef, undef, undef, undef, undef, undef, undef, undef, undef, undef, undef, undef, undef, undef, undef, undef, undef, undef, undef, undef, undef, undef, undef, undef, undef, undef, undef, undef, undef, undef, undef, undef, undef, undef, undef, undef, undef, undef, undef, undef, undef, undef, undef, undef, undef, undef, undef, undef, undef, undef, undef, undef, undef, undef, undef, undef, undef, undef, undef, undef, undef, undef, undef, undef, undef, undef, undef, undef, undef, undef], defers := [] }) ?assign ?body ?done ?stop
      case assign =>
        intro l x W K hK
        simp only [encG]
        gi_wp2
        exact hK
      case body =>
        rintro l pre x W ⟨hk, hm, hl, hW⟩ hlt
        have hx := x.isLt
        obtain ⟨L, hL⟩ : ∃ L, L = lastI pre := ⟨_, rfl⟩
        have hLb := lastI_bd pre
        rw [← hL] at hLb hl
        obtain ⟨M, hM⟩ : ∃ M, M = (pre.map Fin.val).contains B := ⟨_, rfl⟩
        rw [← hM] at hm
        have HL := Lib.hid hL
        have HM := Lib.hid hM
        clear hL hM
        have hck := hk.cell
        have hcm := hm.cell
        have hcl := hl.cell
        have hfk := hk.frozen
        have hfm := hm.frozen
        have hfl := hl.frozen
        have hsz := hW.2.2.2.2.2.size
        have hcA := hW.1.cell
        have hcB := hW.2.1.cell
        have hcR := hW.2.2.1.cell
        have hfR := hW.2.2.1.frozen
        obtain ⟨H, hH⟩ : ∃ H, H = hasB A x := ⟨_, rfl⟩
        have HH := Lib.hid hH
        have hsR2 := hsR
        have HW := Lib.hid hW
        clear hW hH
        by_cases hle : (x.val : Int) ≤ L
        · gi_wp2_with (first | (refine And.intro trivial ?_; gi_at_call 31; refine (CallsIn.inRound l (callsIn_wide.2 (has_any A x (by omega) (by omega) _))).mono ?_; rintro e w' ⟨rfl, rfl⟩; rw [← HH.out]) | refine And.intro trivial ?_)
          exact ⟨(KeepsOthers.setCell _ _ _).from _, rfl, fun h => by have := (within_next A pre x h).1; rw [← HL.out] at this; omega⟩
        · cases H
          · gi_wp2_with (first | (refine And.intro trivial ?_; gi_at_call 31; refine (CallsIn.inRound l (callsIn_wide.2 (has_any A x (by omega) (by omega) _))).mono ?_; rintro e w' ⟨rfl, rfl⟩; rw [← HH.out]) | refine And.intro trivial ?_)
            exact ⟨(KeepsOthers.setCell _ _ _).from _, rfl, fun h => by have := (within_next A pre x h).2; rw [← HH.out] at this; cases this⟩
          · cases M
            · gi_wp2_with (first | (refine And.intro trivial ?_; gi_at_call 31; refine (CallsIn.inRound l (callsIn_wide.2 (has_any A x (by omega) (by omega) _))).mono ?_; rintro e w' ⟨rfl, rfl⟩; rw [← HH.out]) | refine And.intro trivial ?_)
              have hk2 := ((hk.other (B' := W1.heap.size + 2) (by omega) (.int .i64 (x : Nat))).other (B' := W1.heap.size + 1) (by omega) (.bool (((x : Nat) : Int) == (B : Nat)))).set (.int .i64 ((pre.length : Nat) + 1 : Int))
              have hm2 := ((hm.other (B' := W1.heap.size + 2) (by omega) (.int .i64 (x : Nat))).set (.bool (((x : Nat) : Int) == (B : Nat)))).other (B' := W1.heap.size) (by omega) (.int .i64 ((pre.length : Nat) + 1 : Int))
              have hl2 := ((hl.set (.int .i64 (x : Nat))).other (B' := W1.heap.size + 1) (by omega) (.bool (((x : Nat) : Int) == (B : Nat)))).other (B' := W1.heap.size) (by omega) (.int .i64 ((pre.length : Nat) + 1 : Int))
              refine ⟨(KeepsOthers.setCell _ _ _).from _ |>.trans ((KeepsOthers.setCell _ _ _).from _) |>.trans ((KeepsOthers.setCell _ _ _).from _), ?_, ?_, ?_, ?_, ?_⟩
              · exact (((HW.out.2.2.2.1.other (B' := W1.heap.size + 2) (by omega) _).other (B' := W1.heap.size + 1) (by omega) _).other (B' := W1.heap.size) (by omega) _).cell.trans HW.out.2.2.2.1.cell.symm
              · simpa using hk2
              · rw [show (List.map Fin.val (pre ++ [x])).contains B = (((x : Nat) : Int) == (B : Nat)) by rw [map_contains_snoc, ← HM.out]; rfl]; exact hm2
              · rw [lastI_snoc]; exact hl2
              · exact ((HW.out.other (Bi := W1.heap.size + 2) (by omega) (by omega) (by omega) (by omega) _).other (Bi := W1.heap.size + 1) (by omega) (by omega) (by omega) (by omega) _).other (Bi := W1.heap.size) (by omega) (by omega) (by omega) (by omega) _
            · gi_wp2_with (first | (refine And.intro trivial ?_; gi_at_call 31; refine (CallsIn.inRound l (callsIn_wide.2 (has_any A x (by omega) (by omega) _))).mono ?_; rintro e w' ⟨rfl, rfl⟩; rw [← HH.out]) | refine And.intro trivial ?_)
              have hk2 := ((hk.other (B' := W1.heap.size + 2) (by omega) (.int .i64 (x : Nat))).other (B' := W1.heap.size + 1) (by omega) (.bool true)).set (.int .i64 ((pre.length : Nat) + 1 : Int))
              have hm2 := ((hm.other (B' := W1.heap.size + 2) (by omega) (.int .i64 (x : Nat))).set (.bool true)).other (B' := W1.heap.size) (by omega) (.int .i64 ((pre.length : Nat) + 1 : Int))
              have hl2 := ((hl.set (.int .i64 (x : Nat))).other (B' := W1.heap.size + 1) (by omega) (.bool true)).other (B' := W1.heap.size) (by omega) (.int .i64 ((pre.length : Nat) + 1 : Int))
              refine ⟨(KeepsOthers.setCell _ _ _).from _ |>.trans ((KeepsOthers.setCell _ _ _).from _) |>.trans ((KeepsOthers.setCell _ _ _).from _), ?_, ?_, ?_, ?_, ?_⟩
              · exact (((HW.out.2.2.2.1.other (B' := W1.heap.size + 2) (by omega) _).other (B' := W1.heap.size + 1) (by omega) _).other (B' := W1.heap.size) (by omega) _).cell.trans HW.out.2.2.2.1.cell.symm
              · simpa using hk2
              · rw [show (List.map Fin.val (pre ++ [x])).contains B = true by rw [map_contains_snoc, ← HM.out]; rfl]; exact hm2
              · rw [lastI_snoc]; exact hl2
              · exact ((HW.out.other (Bi := W1.heap.size + 2) (by omega) (by omega) (by omega) (by omega) _).other (Bi := W1.heap.size + 1) (by omega) (by omega) (by omega) (by omega) _).other (Bi := W1.heap.size) (by omega) (by omega) (by omega) (by omega) _
      case done =>
        rintro D xs W hD hS ⟨hk, hm, hl, hW⟩ hK
        have hD2 : W1.heap.size + 5 ≤ D := by rw [← hx0.2]; exact hD
        have hlx : xs.length = q := by rw [HQ.out, ← hS, List.length_map]
        obtain ⟨h, hh⟩ : ∃ h, h = hasB A B := ⟨_, rfl⟩
        have HH := Lib.hid hh
        rw [hlx] at hk
        rw [hS, within_mem A B lB, ← hh] at hm
        clear hh hS hlx hl hD xs
        have hsz := hW.2.2.2.2.2.size
        have hDl := (Array.getElem?_eq_some_iff.1 hK).1
        gi_wp2
        have hy0 : PJ w.heap.size W1.heap.size W.heap.size A B q h w D [] ((W.alloc (.cells #[.int .u8 0] 22)).alloc (.cells #[.int .i64 0] 3)) ∧ ((W.alloc (.cells #[.int .u8 0] 22)).alloc (.cells #[.int .i64 0] 3)).heap.size = W.heap.size + 2 :=
          ⟨⟨(boxed_here _ _ _ _ rfl).alloc _, boxed_here _ _ _ _ (by simp), (hk.alloc _).alloc _, (hm.alloc _).alloc _, (hW.alloc (by omega) _).alloc (by simp; omega) _, (Below.heap_alloc _ _ _ (by simp; omega)).trans ((Below.heap_alloc _ _ _ hDl).trans hK)⟩, by simp⟩
        refine wpIn_rangeFunc_ownG rfl (by omega) (gf := 47) (lb := #[.pointer (some ⟨W1.heap.size + 4, 0, Option.none⟩)]) rfl trivial (enters_of Try.func47 (by kernel_rfl) rfl) (encs := encF)
          (each_stops 8 A (by omega) (W1.heap.size + 4) _ (by rw [hy0.2]; omega) hy0.1.2.2.2.2.1.2.2.2.2.1.cell) Kc_t (Kc_b (by rw [hy0.2]; omega)) (Below.refl _ _) (fun _ => rfl)
          (PJ w.heap.size W1.heap.size W.heap.size A B q h w D) (fun c pre _ => c = .ret ∧ ¬ pre <+: eachTo A 6)
          (PJ_own (Nat.le_refl _) (by rw [hy0.2]; omega) (by rw [hy0.2]; omega)) (fun _ _ _ _ _ h _ _ => h) hy0.1
          (fun x => { tmps := #[.int .u8 a, .int .u8 b, .pointer (some ⟨w.heap.size, 0, Option.none⟩), .pointer (some ⟨w.heap.size + 1, 0, Option.none⟩), .pointer (some ⟨w.heap.size + 2, 0, Option.none⟩), .int .i64 q, .int .i64 k, .pointer (some ⟨W1.heap.size, 0, Option.none⟩), .pointer (some ⟨W1.heap.size + 1, 0, Option.none⟩), .pointer (some ⟨W1.heap.size + 2, 0, Option.none⟩), .func (.func 45) #[] #[.pointer (some ⟨W1.heap.size + 3, 0, Option.none⟩)], .func (.func 47) #[] #[.pointer (some ⟨W1.heap.size + 4, 0, Option.none⟩)], undef, .pointer (some ⟨W.heap.size, 0, Option.none⟩), .pointer (some ⟨W.heap.size + 1, 0, Option.none⟩), .int .u8 (bitN x : Nat), undef, undef, .bool true, .bool false, .int .u8 a, .int .u8 A, .int .u8 b, .int .u8 B, .int .i64 k, .int .u8 A, .int .i64 k, .bool false, .bool false, undef, undef, .bool false, u32, u33, u34, u35, .int .u8 A, .func (.func 45) #[] #[.pointer (some ⟨W1.heap.size + 3, 0, Option.none⟩)], .func (.func 45) #[] #[.pointer (some ⟨W1.heap.size + 3, 0, Option.none⟩)], .bool false, .int .u8 A, .func (.func 47) #[] #[.pointer (some ⟨W1.heap.size + 4, 0, Option.none⟩)], .func (.func 45) #[] #[.pointer (some ⟨W1.heap.size + 3, 0, Option.none⟩)], .bool false, .bool false, .func (.func 47) #[] #[.pointer (some ⟨W1.heap.size + 4, 0, Option.none⟩)], .bool false, .bool false, .func (.func 45) #[] #[.pointer (some ⟨W1.heap.size + 3, 0, Option.none⟩)], undef, undef, undef, undef, undef, undef, undef, undef, undef, undef, undef, undef, undef, undef, undef, undef, undef, undef, undef, undef, undef, .func (.func 47) #[] #[.pointer (some ⟨W1.heap.size + 4, 0, Option.none⟩)], .int .u8 (bitN x : Nat), undef, undef, undef, undef, undef, undef, undef, undef, undef, undef, undef, undef, undef, undef, undef, undef, undef, undef, undef, undef, undef, undef, undef, undef, undef, undef, undef, undef, undef, undef, undef, undef, undef, undef, undef, undef, undef, undef, undef, undef, undef, undef, undef, undef, undef, undef, undef, undef], defers := [] }) ?assign1 ?body1 ?done1 ?stop1
        case assign1 =>
          intro l x W K hK
          simp only [encF]
          gi_wp2
          exact hK
        case body1 =>
          rintro l pre x W2 ⟨ha, hi, hk2, hm2, hW2, hK2⟩ hlt
          have hsl := hy0.2
          have hx := x.isLt
          obtain ⟨O, hO⟩ : ∃ O, O = joinP pre := ⟨_, rfl⟩
          obtain ⟨N, hN⟩ : ∃ N, N = nextP pre := ⟨_, rfl⟩
          obtain ⟨b, hb⟩ : ∃ b, b = bitN x := ⟨_, rfl⟩
          obtain ⟨M, hM⟩ : ∃ M, M = meetN [O, b] := ⟨_, rfl⟩
          obtain ⟨J, hJ⟩ : ∃ J, J = joinN [O, b] := ⟨_, rfl⟩
          have hOl := joinP_lt pre
          have hNl := nextP_le pre
          have hbl := (pow6 x).2
          have HB := Lib.hid (place_bit x)
          have HE := Lib.hid (each_next ⟨A, lA⟩ pre x)
          have HS := Lib.hid (joinP_snoc pre x)
          rw [← hO, ← hN, ← hb] at HE
          rw [← hM] at HE
          rw [← hb] at HB hbl
          rw [← hO, ← hb, ← hJ] at HS
          rw [← hO] at ha hOl
          rw [← hN] at hi hNl
          have HM := Lib.hid hM
          have HJ := Lib.hid hJ
          rw [← hb]
          clear hM hJ hO hN hb
          have hla := ha.lt
          have hli := hi.lt
          have hca := ha.cell
          have hci := hi.cell
          have hfa := ha.frozen
          have hfi := hi.frozen
          have hcR := hW2.2.2.1.cell
          have hfR := hW2.2.2.1.frozen
          have hsz2 := hW2.2.2.2.2.2.size
          have hlR := hW2.2.2.1.lt
          have HW := Lib.hid hW2
          clear hW2
          by_cases hlt2 : (x.val : Int) < N
          · gi_wp2_with (first | (refine And.intro trivial ?_; gi_at_call 15; refine (CallsIn.inRound l (callsIn_wide.2 (one_place b x (by omega) HB _))).mono ?_; rintro e w' ⟨rfl, rfl⟩) | (refine And.intro trivial ?_; gi_at_call 19; refine (CallsIn.inRound l (callsIn_wide.2 (one_one b x (by omega) HB _))).mono ?_; rintro e w' ⟨rfl, rfl⟩) | (refine And.intro trivial ?_; gi_at_call 24; refine (CallsIn.inRound l (callsIn_wide.2 (two24 _ _ (by simp) O b M (by omega) (by omega) HM))).mono ?_; rintro e w' ⟨rfl, rfl⟩) | (refine And.intro trivial ?_; gi_at_call 26; refine (CallsIn.inRound l (callsIn_wide.2 (two26 _ _ (by simp) O b J (by omega) (by omega) HJ))).mono ?_; rintro e w' ⟨rfl, rfl⟩) | refine And.intro trivial ?_)
            exact ⟨(KeepsOthers.setCell _ _ _).from _, rfl, fun h => by have := (HE.out h).1; omega⟩
          · cases hz : (((M : Nat) : Int) != 0)
            · gi_wp2_with (first | (refine And.intro trivial ?_; gi_at_call 15; refine (CallsIn.inRound l (callsIn_wide.2 (one_place b x (by omega) HB _))).mono ?_; rintro e w' ⟨rfl, rfl⟩) | (refine And.intro trivial ?_; gi_at_call 19; refine (CallsIn.inRound l (callsIn_wide.2 (one_one b x (by omega) HB _))).mono ?_; rintro e w' ⟨rfl, rfl⟩) | (refine And.intro trivial ?_; gi_at_call 24; refine (CallsIn.inRound l (callsIn_wide.2 (two24 _ _ (by simp) O b M (by omega) (by omega) HM))).mono ?_; rintro e w' ⟨rfl, rfl⟩) | (refine And.intro trivial ?_; gi_at_call 26; refine (CallsIn.inRound l (callsIn_wide.2 (two26 _ _ (by simp) O b J (by omega) (by omega) HJ))).mono ?_; rintro e w' ⟨rfl, rfl⟩) | refine And.intro trivial ?_)
              have ha2 := (((ha.set (.int .u8 J)).other (B' := W.heap.size + 1) (by omega) (.int .i64 ((x : Nat) + 1 : Int))).alloc (.cells #[.int .u8 O, .int .u8 b] 22)).alloc (.cells #[.int .u8 O, .int .u8 b] 22)
              have hi2 := (((hi.other (B' := W.heap.size) (by omega) (.int .u8 J)).set (.int .i64 ((x : Nat) + 1 : Int))).alloc (.cells #[.int .u8 O, .int .u8 b] 22)).alloc (.cells #[.int .u8 O, .int .u8 b] 22)
              have hW3 := (((HW.out.other (Bi := W.heap.size) (by omega) (by omega) (by omega) (by omega) (.int .u8 J)).other (Bi := W.heap.size + 1) (by omega) (by omega) (by omega) (by omega) (.int .i64 ((x : Nat) + 1 : Int))).alloc (by simp; omega) (.cells #[.int .u8 O, .int .u8 b] 22)).alloc (by simp; omega) (.cells #[.int .u8 O, .int .u8 b] 22)
              have hk3 := (((hk2.other (B' := W.heap.size) (by omega) (.int .u8 J)).other (B' := W.heap.size + 1) (by omega) (.int .i64 ((x : Nat) + 1 : Int))).alloc (.cells #[.int .u8 O, .int .u8 b] 22)).alloc (.cells #[.int .u8 O, .int .u8 b] 22)
              have hm3 := (((hm2.other (B' := W.heap.size) (by omega) (.int .u8 J)).other (B' := W.heap.size + 1) (by omega) (.int .i64 ((x : Nat) + 1 : Int))).alloc (.cells #[.int .u8 O, .int .u8 b] 22)).alloc (.cells #[.int .u8 O, .int .u8 b] 22)
              have hK3 := (KeepsOthers.setCell (W2.setCell ⟨W.heap.size, 0, Option.none⟩ (.int .u8 J)) ⟨W.heap.size + 1, 0, Option.none⟩ (.int .i64 ((x : Nat) + 1 : Int))).same D _ ((KeepsOthers.setCell W2 ⟨W.heap.size, 0, Option.none⟩ (.int .u8 J)).same D _ hK2 rfl) rfl
              have hlD := (Array.getElem?_eq_some_iff.1 hK3).1
              refine ⟨(KeepsOthers.setCell _ _ _).from _ |>.trans ((KeepsOthers.setCell _ _ _).from _) |>.trans ((KeepsOthers.alloc _ _).from _) |>.trans ((KeepsOthers.alloc _ _).from _), ?_, ?_, ?_, hk3, hm3, hW3, ?_⟩
              · exact hW3.2.2.2.2.1.cell.trans HW.out.2.2.2.2.1.cell.symm
              · rw [HS.out]; exact ha2
              · rw [nextP_snoc]; simpa using hi2
              · exact (Below.heap_alloc _ _ _ (by simp at hlD ⊢; omega)).trans ((Below.heap_alloc _ _ _ (by simp at hlD ⊢; omega)).trans hK3)
            · gi_wp2_with (first | (refine And.intro trivial ?_; gi_at_call 15; refine (CallsIn.inRound l (callsIn_wide.2 (one_place b x (by omega) HB _))).mono ?_; rintro e w' ⟨rfl, rfl⟩) | (refine And.intro trivial ?_; gi_at_call 19; refine (CallsIn.inRound l (callsIn_wide.2 (one_one b x (by omega) HB _))).mono ?_; rintro e w' ⟨rfl, rfl⟩) | (refine And.intro trivial ?_; gi_at_call 24; refine (CallsIn.inRound l (callsIn_wide.2 (two24 _ _ (by simp) O b M (by omega) (by omega) HM))).mono ?_; rintro e w' ⟨rfl, rfl⟩) | (refine And.intro trivial ?_; gi_at_call 26; refine (CallsIn.inRound l (callsIn_wide.2 (two26 _ _ (by simp) O b J (by omega) (by omega) HJ))).mono ?_; rintro e w' ⟨rfl, rfl⟩) | refine And.intro trivial ?_)
              have hM0 : M ≠ 0 := fun e => by rw [e] at hz; cases hz
              exact ⟨(KeepsOthers.setCell _ _ _).from _ |>.trans ((KeepsOthers.alloc _ _).from _), rfl, fun h => hM0 (HE.out h).2⟩
        case done1 =>
          rintro D2 ys W3 hDD rfl ⟨ha, hi, hk2, hm2, hW3, hKx⟩ hKy
          have hea := each_all ⟨A, lA⟩
          simp only at hea
          rw [hea] at ha
          have hsl := hy0.2
          have hDne : D2 ≠ D := by omega
          have hlD2 := (Array.getElem?_eq_some_iff.1 hKy).1
          gi_wp2_with (fail)
          refine wpIn_wide.2 ?_
          refine RegR.region_np (fun _ Wx => RC w.heap.size W1.heap.size W.heap.size A B q h Wx) (by kernel_rfl) ?_
          have ha4 : Boxed W3.drew W.heap.size 22 (.int .u8 A) := ha
          have hk4 : Boxed W3.drew W1.heap.size 3 (.int .i64 q) := hk2
          have hm4 : Boxed W3.drew (W1.heap.size + 1) 4 (.bool h) := hm2
          have hW4 : PW w.heap.size W1.heap.size A B w W3.drew := ⟨hW3.1, hW3.2.1, hW3.2.2.1, hW3.2.2.2.1, hW3.2.2.2.2.1, hW3.2.2.2.2.2.drew⟩
          have hKx4 : W3.drew.heap[D]? = some (.deferred (some [])) := hKx
          have hKy4 : W3.drew.heap[D2]? = some (.deferred (some [])) := hKy
          have hlD4 : D2 < W3.drew.heap.size := hlD2
          clear hi hea hlD2 hKx hKy hW3 hm2 hk2 ha
          generalize W3.drew = W4 at ha4 hk4 hm4 hW4 hKx4 hKy4 hlD4 ⊢
          have hca := ha4.cell
          have hck := hk4.cell
          have hcm := hm4.cell
          have hcA4 := hW4.1.cell
          have hcB4 := hW4.2.1.cell
          have hRC : RC w.heap.size W1.heap.size W.heap.size A B q h W4 := ⟨hck, hcm, hca, hcA4, hcB4⟩
          refine RegR.take (RC w.heap.size W1.heap.size W.heap.size A B q h) (List.range 19) (i := 1) (v := .int .i64 q) rfl (by kernel_rfl) (by kernel_rfl) (by kernel_rfl) (by kernel_rfl) (fun _ _ _ h => h) (fun _ h => h) (fun _ _ _ h => h) (Or.inl ⟨by rfl, ?t1⟩) hRC ?_
          case t1 => intro w' hS; obtain ⟨s1, s2, s3, s4, s5⟩ := hS; go_simp
          refine RegR.one (i := 0) (by kernel_rfl) rfl ?_
          go_wp2
          refine ⟨hRC, ?_⟩
          refine RegR.one (i := 2) (by kernel_rfl) rfl ?_
          go_wp2
          refine ⟨hRC, ?_⟩
          refine RegR.one (i := 3) (by kernel_rfl) rfl ?_
          go_wp2
          refine ⟨hRC, ?_⟩
          refine RegR.take (RC w.heap.size W1.heap.size W.heap.size A B q h) (List.range 19) (i := 5) (v := .int .u8 A) rfl (by kernel_rfl) (by kernel_rfl) (by kernel_rfl) (by kernel_rfl) (fun _ _ _ h => h) (fun _ h => h) (fun _ _ _ h => h) (Or.inl ⟨by rfl, ?t5⟩) hRC ?_
          case t5 => intro w' hS; obtain ⟨s1, s2, s3, s4, s5⟩ := hS; go_simp
          refine RegR.take (RC w.heap.size W1.heap.size W.heap.size A B q h) (List.range 19) (i := 6) (v := .int .u8 B) rfl (by kernel_rfl) (by kernel_rfl) (by kernel_rfl) (by kernel_rfl) (fun _ _ _ h => h) (fun _ h => h) (fun _ _ _ h => h) (Or.inl ⟨by rfl, ?t6⟩) hRC ?_
          case t6 => intro w' hS; obtain ⟨s1, s2, s3, s4, s5⟩ := hS; go_simp
          refine RegR.take (RC w.heap.size W1.heap.size W.heap.size A B q h) (List.range 19) (i := 4) (v := .bool h) rfl (by kernel_rfl) (by kernel_rfl) (by kernel_rfl) (by kernel_rfl) (fun _ _ _ h => h) (fun _ h => h) (fun _ _ _ h => h) (Or.inl ⟨by rfl, ?t4⟩) hRC ?_
          case t4 => intro w' hS; obtain ⟨s1, s2, s3, s4, s5⟩ := hS; go_simp
          refine RegR.one (i := 7) (by kernel_rfl) rfl ?_
          go_wp2_with (go_at_call 31; refine (has_any A B (by omega) (by omega) _).mono ?_; rintro e w' ⟨rfl, rfl⟩; rw [← HH.out])
          refine ⟨hRC, ?_⟩
          refine RegR.one (i := 8) (by kernel_rfl) rfl ?_
          go_wp2
          refine ⟨hRC, ?_⟩
          refine RegR.one (i := 9) (by kernel_rfl) rfl ?_
          go_wp2
          refine ⟨hRC, ?_⟩
          refine RegR.one (i := 10) (by kernel_rfl) rfl ?_
          go_wp2
          refine ⟨hRC, ?_⟩
          refine RegR.take (RC w.heap.size W1.heap.size W.heap.size A B q h) (List.range 19) (i := 11) (v := .int .u8 A) rfl (by kernel_rfl) (by kernel_rfl) (by kernel_rfl) (by kernel_rfl) (fun _ _ _ h => h) (fun _ h => h) (fun _ _ _ h => h) (Or.inl ⟨by rfl, ?t11⟩) hRC ?_
          case t11 => intro w' hS; obtain ⟨s1, s2, s3, s4, s5⟩ := hS; go_simp
          refine RegR.one (i := 12) (by kernel_rfl) rfl ?_
          go_wp2
          refine ⟨hRC, ?_⟩
          refine RegR.one (i := 13) (by kernel_rfl) rfl ?_
          go_wp2
          refine ⟨hRC, ?_⟩
          refine RegR.one (i := 14) (by kernel_rfl) rfl ?_
          go_wp2
          refine ⟨hRC, ?_⟩
          refine RegR.one (i := 15) (by kernel_rfl) rfl ?_
          go_wp2
          refine ⟨hRC, ?_⟩
          refine RegR.one (i := 16) (by kernel_rfl) rfl ?_
          go_wp2_with (go_at_call 12; refine (lives_any _).mono ?_; rintro e w5 ⟨rfl, hl5⟩)
          have hR5 : Boxed w5 (w.heap.size + 2) 4 (.bool false) := (hl5.block _ hW4.2.2.1.lt).trans hW4.2.2.1
          have hKx5 : w5.heap[D]? = some (.deferred (some [])) := (hl5.block _ (by omega)).trans hKx4
          have hKy5 : w5.heap[D2]? = some (.deferred (some [])) := (hl5.block _ hlD4).trans hKy4
          have hB4 := hW4.2.2.2.2.2
          have hB5 : Below w.heap.size w w5 := hB4.trans (hl5.mono hB4.size)
          have hcR5 := hR5.cell
          have hfR5 := hR5.frozen
          have hlR5 := hR5.lt
          have hk5 := (hl5.block _ hk4.lt).trans hk4
          have hm5 := (hl5.block _ hm4.lt).trans hm4
          have ha5 := (hl5.block _ ha4.lt).trans ha4
          have hA5 := (hl5.block _ hW4.1.lt).trans hW4.1
          have hB6 := (hl5.block _ hW4.2.1.lt).trans hW4.2.1
          have hRC5 : RC w.heap.size W1.heap.size W.heap.size A B q h w5 := ⟨Boxed.cell hk5, Boxed.cell hm5, Boxed.cell ha5, Boxed.cell hA5, Boxed.cell hB6⟩
          refine ⟨hRC5, ?_⟩
          refine RegR.one (i := 17) (by kernel_rfl) rfl ?_
          go_wp2
          refine ⟨hRC5, ?_⟩
          refine RegR.one (i := 18) (by kernel_rfl) rfl ?_
          go_wp2
          refine ⟨⟨(Boxed.other hk5 (B' := w.heap.size + 2) (by omega) _).cell, (Boxed.other hm5 (B' := w.heap.size + 2) (by omega) _).cell, (Boxed.other ha5 (B' := w.heap.size + 2) (by omega) _).cell, (Boxed.other hA5 (B' := w.heap.size + 2) (by omega) _).cell, (Boxed.other hB6 (B' := w.heap.size + 2) (by omega) _).cell⟩, ?_⟩
          refine RegR.rest [] [] _ _ (by kernel_rfl) (by simp) rfl (fun i hi w' => by simp at hi) _ _ ?_
          go_wp2
          simp only [RegSeq.NP, Exit.then]
          have hb3' := hR5.set (.bool true)
          have hKy2 := (KeepsOthers.setCell w5 ⟨w.heap.size + 2, 0, Option.none⟩ (.bool true)).same D2 _ hKy5 rfl
          have hKx2 := (KeepsOthers.setCell w5 ⟨w.heap.size + 2, 0, Option.none⟩ (.bool true)).same D _ hKx5 rfl
          have hKx3 := (World.putObj_heap_other (o := .deferred Option.none) (fun e => hDne e.symm)).trans hKx2
          have hBs := hB5.setCell (p := ⟨w.heap.size + 2, 0, Option.none⟩) (by simp) (.bool true)
          gi_wp2_with (fail)
          obtain ⟨W6, hW6⟩ : ∃ W6, W6 = w5.setCell ⟨w.heap.size + 2, 0, Option.none⟩ (.bool true) := ⟨_, rfl⟩
          rw [← hW6] at hb3' hKy2 hKx2 hKx3 hBs
          have hnD : w.heap.size + 2 ≠ D := by omega
          have hnD2 : w.heap.size + 2 ≠ D2 := by omega
          have hbz : ((W6.putObj D2 (.deferred Option.none)).putObj D (.deferred Option.none)).cell? ⟨w.heap.size + 2, 0, Option.none⟩ = some (.bool true) := by
            refine Boxed.cell (t := 4) ?_
            exact (World.putObj_heap_other hnD).trans ((World.putObj_heap_other hnD2).trans hb3')
          have hBz : Below w.heap.size w ((W6.putObj D2 (.deferred Option.none)).putObj D (.deferred Option.none)) :=
            (hBs.trans (belowK_b (w := w) (Nat.le_refl _) _ D2 _ _ (by omega) hKy2 rfl rfl)).trans (belowK_b (w := w) (Nat.le_refl _) _ D _ _ (by omega) hKx3 rfl rfl)
          subst hW6
          exact ⟨by simp, .inl ⟨_, _, rfl, run_takeDeferred hKy2, ⟨by simp, .inl ⟨_, _, rfl, run_takeDeferred hKx3, ⟨_, by simp only [results, Try.results9]; simp [go_sem, hbz], rfl, hBz⟩⟩⟩⟩⟩
        case stop1 =>
          rintro D c pre W _ hSp ⟨_, hn⟩ _
          exact absurd hSp hn
      case stop =>
        rintro D c pre W _ hSp ⟨_, hn⟩ _
        exact absurd hSp hn
end Go.Proofs.Ytadmdanmafegoaa
