/- The walk of the law AbleLattice: for every three bytes it returns true. -/
import Derived.Test.YtadmdanmafegoaaF
namespace Go.Proofs.Ytadmdanmafegoaa
open Go.RowKit

theorem ext6 {x y : Nat} (hx : x < 64) (hy : y < 64) (h : ∀ k, k < 6 → x.testBit k = y.testBit k) : x = y := by
  apply Nat.eq_of_testBit_eq
  intro k
  by_cases hk : k < 6
  · exact h k hk
  · have e : ∀ z, z < 64 → z.testBit k = false := fun z hz => Nat.testBit_lt_two_pow (Nat.lt_of_lt_of_le hz (Nat.pow_le_pow_right (n := 2) (by omega) (show 6 ≤ k by omega)))
    rw [e x hx, e y hy]
theorem tb63 (k : Nat) (hk : k < 6) : (63 : Nat).testBit k = true := by
  have : ∀ k : Fin 6, (63 : Nat).testBit k = true := by decide
  exact this ⟨k, hk⟩
theorem isU8_two (W : World) (m n : Nat) (hm : m < 256) (hn : n < 256) : IsU8 (W.alloc (.cells #[.int .u8 m, .int .u8 n] 22)) (.slice (some ⟨W.heap.size, 0, Option.none⟩) 2 2) [m, n] := by
  refine ⟨by intro x hx; simp at hx; omega, by simp, .inr ⟨_, _, _, rfl, by simp, fun j hj => ?_⟩⟩
  have : j = 0 ∨ j = 1 := by simp at hj; omega
  rcases this with rfl | rfl <;> simp
theorem isU8_three (W : World) (m n l : Nat) (hm : m < 256) (hn : n < 256) (hl : l < 256) : IsU8 (W.alloc (.cells #[.int .u8 m, .int .u8 n, .int .u8 l] 22)) (.slice (some ⟨W.heap.size, 0, Option.none⟩) 3 3) [m, n, l] := by
  refine ⟨by intro x hx; simp at hx; omega, by simp, .inr ⟨_, _, _, rfl, by simp, fun j hj => ?_⟩⟩
  have : j = 0 ∨ j = 1 ∨ j = 2 := by simp at hj; omega
  rcases this with rfl | rfl | rfl <;> simp
/-- where the walk stands: B below the heap's end, nothing below B turned. -/
def Stands (B : Nat) (w0 W : World) : Prop := Below B w0 W ∧ B ≤ W.heap.size
theorem Stands.alloc {B : Nat} {w0 W : World} (h : Stands B w0 W) (o : Obj) : Stands B w0 (W.alloc o) := ⟨h.1.alloc h.2 o, by simp; have := h.2; omega⟩
theorem Stands.next {B : Nat} {w0 W W' : World} (h : Stands B w0 W) (k : Below W.heap.size W W') : Stands B w0 W' := ⟨h.1.trans (k.mono h.2), Nat.le_trans h.2 k.size⟩
theorem Stands.refl (w : World) : Stands w.heap.size w w := ⟨Below.refl _ _, Nat.le_refl _⟩
theorem meet2 {w0 : World} {B : Nat} (W : World) (b : Nat) (x y : Int) (m n : Nat) (hx : x = m) (hy : y = n) (hm : m < 256) (hn : n < 256) (hb : b = W.heap.size) (hB : Stands B w0 W) :
    Calls Try.prog 24 #[.slice (some ⟨b, 0, Option.none⟩) 2 2] (W.alloc (.cells #[.int .u8 x, .int .u8 y] 22)) fun e w' => e = .returned (.int .u8 (meetN [m, n])) ∧ Stands B w0 w' := by
  subst hx hy hb
  exact (meet_any _ _ _ (isU8_two W m n hm hn)).mono fun e w' ⟨h1, h2⟩ => ⟨h1, h2 ▸ hB.alloc _⟩
theorem join2 {w0 : World} {B : Nat} (W : World) (b : Nat) (x y : Int) (m n : Nat) (hx : x = m) (hy : y = n) (hm : m < 256) (hn : n < 256) (hb : b = W.heap.size) (hB : Stands B w0 W) :
    Calls Try.prog 26 #[.slice (some ⟨b, 0, Option.none⟩) 2 2] (W.alloc (.cells #[.int .u8 x, .int .u8 y] 22)) fun e w' => e = .returned (.int .u8 (joinN [m, n])) ∧ Stands B w0 w' := by
  subst hx hy hb
  exact (joinS_any _ _ _ (isU8_two W m n hm hn)).mono fun e w' ⟨h1, h2⟩ => ⟨h1, h2 ▸ hB.alloc _⟩
theorem meet3 {w0 : World} {B : Nat} (W : World) (b : Nat) (x y z : Int) (m n l : Nat) (hx : x = m) (hy : y = n) (hz : z = l) (hm : m < 256) (hn : n < 256) (hl : l < 256) (hb : b = W.heap.size) (hB : Stands B w0 W) :
    Calls Try.prog 24 #[.slice (some ⟨b, 0, Option.none⟩) 3 3] (W.alloc (.cells #[.int .u8 x, .int .u8 y, .int .u8 z] 22)) fun e w' => e = .returned (.int .u8 (meetN [m, n, l])) ∧ Stands B w0 w' := by
  subst hx hy hz hb
  exact (meet_any _ _ _ (isU8_three W m n l hm hn hl)).mono fun e w' ⟨h1, h2⟩ => ⟨h1, h2 ▸ hB.alloc _⟩
theorem join3 {w0 : World} {B : Nat} (W : World) (b : Nat) (x y z : Int) (m n l : Nat) (hx : x = m) (hy : y = n) (hz : z = l) (hm : m < 256) (hn : n < 256) (hl : l < 256) (hb : b = W.heap.size) (hB : Stands B w0 W) :
    Calls Try.prog 26 #[.slice (some ⟨b, 0, Option.none⟩) 3 3] (W.alloc (.cells #[.int .u8 x, .int .u8 y, .int .u8 z] 22)) fun e w' => e = .returned (.int .u8 (joinN [m, n, l])) ∧ Stands B w0 w' := by
  subst hx hy hz hb
  exact (joinS_any _ _ _ (isU8_three W m n l hm hn hl)).mono fun e w' ⟨h1, h2⟩ => ⟨h1, h2 ▸ hB.alloc _⟩
theorem lessS {w0 : World} {B : Nat} (W : World) (x y : Int) (m n : Nat) (hx : x = m) (hy : y = n) (hm : m < 256) (hn : n < 256) (hB : Stands B w0 W) :
    Calls Try.prog 29 #[.int .u8 x, .int .u8 y] W fun e w' => e = .returned (.int .u8 (lessN m n)) ∧ Stands B w0 w' := by
  subst hx hy
  exact (less_any _ _ hm hn W).mono fun _ _ ⟨h1, h2⟩ => ⟨h1, h2 ▸ hB⟩
theorem hasS {w0 : World} {B : Nat} (W : World) (x y : Int) (m n : Nat) (hx : x = m) (hy : y = n) (hm : m < 256) (hn : n < 256) (hB : Stands B w0 W) :
    Calls Try.prog 31 #[.int .u8 x, .int .u8 y] W fun e w' => e = .returned (.bool (hasB m n)) ∧ Stands B w0 w' := by
  subst hx hy
  exact (has_any _ _ hm hn W).mono fun _ _ ⟨h1, h2⟩ => ⟨h1, h2 ▸ hB⟩
theorem meet0 {w0 : World} {B : Nat} (W : World) (hB : Stands B w0 W) :
    Calls Try.prog 24 #[.slice Option.none 0 0] W fun e w' => e = .returned (.int .u8 ((63 : Nat) : Int)) ∧ Stands B w0 w' :=
  (meet_any _ [] _ (isU8_nil _)).mono fun _ _ ⟨h1, h2⟩ => ⟨h1, h2 ▸ hB⟩
theorem join0 {w0 : World} {B : Nat} (W : World) (hB : Stands B w0 W) :
    Calls Try.prog 26 #[.slice Option.none 0 0] W fun e w' => e = .returned (.int .u8 ((0 : Nat) : Int)) ∧ Stands B w0 w' :=
  (joinS_any _ [] _ (isU8_nil _)).mono fun _ _ ⟨h1, h2⟩ => ⟨h1, h2 ▸ hB⟩
theorem livesS {w0 : World} {B : Nat} (W : World) (hB : Stands B w0 W) :
    Calls Try.prog 12 #[] W fun e w' => e = .returned (.bool true) ∧ Stands B w0 w' :=
  (lives_any _).mono fun _ _ ⟨h1, h2⟩ => ⟨h1, hB.next h2⟩

theorem tb_less63 (x k : Nat) (hx : x < 256) (hk : k < 6) : (lessN 63 x).testBit k = !x.testBit k := by rw [tb_less 63 x k hx hk, tb63 k hk, Bool.true_and]
theorem tb0 (k : Nat) : (0 : Nat).testBit k = false := Nat.zero_testBit k
set_option linter.unusedVariables false in
set_option linter.unusedSimpArgs false in
theorem lat0 (a b c : Nat) (ha : a < 64) (hb : b < 64) (hc : c < 64) : meetN [b, a] = (meetN [a, b]) := by
  refine ext6 (by first | exact meet_lt _ | exact join_lt _ | exact lessN_lt _ _ | omega) (by first | exact meet_lt _ | exact join_lt _ | exact lessN_lt _ _ | omega) fun k hk => ?_
  have hm := fun xs => meet_lt xs
  have hl := fun x y => lessN_lt x y
  simp only [tb_meet _ k hk, tb_join _ k hk, List.all_cons, List.all_nil, List.any_cons, List.any_nil, Bool.and_true, Bool.or_false, tb63 k hk, tb0,
    tb_less63 a k (by omega) hk, tb_less63 b k (by omega) hk, tb_less63 (meetN [a, b]) k (by have := meet_lt [a, b]; omega) hk, tb_less63 (lessN 63 a) k (by have := lessN_lt 63 a; omega) hk]
  cases a.testBit k <;> cases b.testBit k <;> cases c.testBit k <;> rfl
set_option linter.unusedVariables false in
set_option linter.unusedSimpArgs false in
theorem lat1 (a b c : Nat) (ha : a < 64) (hb : b < 64) (hc : c < 64) : joinN [b, a] = (joinN [a, b]) := by
  refine ext6 (by first | exact meet_lt _ | exact join_lt _ | exact lessN_lt _ _ | omega) (by first | exact meet_lt _ | exact join_lt _ | exact lessN_lt _ _ | omega) fun k hk => ?_
  have hm := fun xs => meet_lt xs
  have hl := fun x y => lessN_lt x y
  simp only [tb_meet _ k hk, tb_join _ k hk, List.all_cons, List.all_nil, List.any_cons, List.any_nil, Bool.and_true, Bool.or_false, tb63 k hk, tb0,
    tb_less63 a k (by omega) hk, tb_less63 b k (by omega) hk, tb_less63 (meetN [a, b]) k (by have := meet_lt [a, b]; omega) hk, tb_less63 (lessN 63 a) k (by have := lessN_lt 63 a; omega) hk]
  cases a.testBit k <;> cases b.testBit k <;> cases c.testBit k <;> rfl
set_option linter.unusedVariables false in
set_option linter.unusedSimpArgs false in
theorem lat2 (a b c : Nat) (ha : a < 64) (hb : b < 64) (hc : c < 64) : meetN [a, b, c] = (meetN [(meetN [a, b]), c]) := by
  refine ext6 (by first | exact meet_lt _ | exact join_lt _ | exact lessN_lt _ _ | omega) (by first | exact meet_lt _ | exact join_lt _ | exact lessN_lt _ _ | omega) fun k hk => ?_
  have hm := fun xs => meet_lt xs
  have hl := fun x y => lessN_lt x y
  simp only [tb_meet _ k hk, tb_join _ k hk, List.all_cons, List.all_nil, List.any_cons, List.any_nil, Bool.and_true, Bool.or_false, tb63 k hk, tb0,
    tb_less63 a k (by omega) hk, tb_less63 b k (by omega) hk, tb_less63 (meetN [a, b]) k (by have := meet_lt [a, b]; omega) hk, tb_less63 (lessN 63 a) k (by have := lessN_lt 63 a; omega) hk]
  cases a.testBit k <;> cases b.testBit k <;> cases c.testBit k <;> rfl
set_option linter.unusedVariables false in
set_option linter.unusedSimpArgs false in
theorem lat3 (a b c : Nat) (ha : a < 64) (hb : b < 64) (hc : c < 64) : meetN [a, (meetN [b, c])] = (meetN [(meetN [a, b]), c]) := by
  refine ext6 (by first | exact meet_lt _ | exact join_lt _ | exact lessN_lt _ _ | omega) (by first | exact meet_lt _ | exact join_lt _ | exact lessN_lt _ _ | omega) fun k hk => ?_
  have hm := fun xs => meet_lt xs
  have hl := fun x y => lessN_lt x y
  simp only [tb_meet _ k hk, tb_join _ k hk, List.all_cons, List.all_nil, List.any_cons, List.any_nil, Bool.and_true, Bool.or_false, tb63 k hk, tb0,
    tb_less63 a k (by omega) hk, tb_less63 b k (by omega) hk, tb_less63 (meetN [a, b]) k (by have := meet_lt [a, b]; omega) hk, tb_less63 (lessN 63 a) k (by have := lessN_lt 63 a; omega) hk]
  cases a.testBit k <;> cases b.testBit k <;> cases c.testBit k <;> rfl
set_option linter.unusedVariables false in
set_option linter.unusedSimpArgs false in
theorem lat4 (a b c : Nat) (ha : a < 64) (hb : b < 64) (hc : c < 64) : joinN [a, b, c] = (joinN [(joinN [a, b]), c]) := by
  refine ext6 (by first | exact meet_lt _ | exact join_lt _ | exact lessN_lt _ _ | omega) (by first | exact meet_lt _ | exact join_lt _ | exact lessN_lt _ _ | omega) fun k hk => ?_
  have hm := fun xs => meet_lt xs
  have hl := fun x y => lessN_lt x y
  simp only [tb_meet _ k hk, tb_join _ k hk, List.all_cons, List.all_nil, List.any_cons, List.any_nil, Bool.and_true, Bool.or_false, tb63 k hk, tb0,
    tb_less63 a k (by omega) hk, tb_less63 b k (by omega) hk, tb_less63 (meetN [a, b]) k (by have := meet_lt [a, b]; omega) hk, tb_less63 (lessN 63 a) k (by have := lessN_lt 63 a; omega) hk]
  cases a.testBit k <;> cases b.testBit k <;> cases c.testBit k <;> rfl
set_option linter.unusedVariables false in
set_option linter.unusedSimpArgs false in
theorem lat5 (a b c : Nat) (ha : a < 64) (hb : b < 64) (hc : c < 64) : joinN [a, (joinN [b, c])] = (joinN [(joinN [a, b]), c]) := by
  refine ext6 (by first | exact meet_lt _ | exact join_lt _ | exact lessN_lt _ _ | omega) (by first | exact meet_lt _ | exact join_lt _ | exact lessN_lt _ _ | omega) fun k hk => ?_
  have hm := fun xs => meet_lt xs
  have hl := fun x y => lessN_lt x y
  simp only [tb_meet _ k hk, tb_join _ k hk, List.all_cons, List.all_nil, List.any_cons, List.any_nil, Bool.and_true, Bool.or_false, tb63 k hk, tb0,
    tb_less63 a k (by omega) hk, tb_less63 b k (by omega) hk, tb_less63 (meetN [a, b]) k (by have := meet_lt [a, b]; omega) hk, tb_less63 (lessN 63 a) k (by have := lessN_lt 63 a; omega) hk]
  cases a.testBit k <;> cases b.testBit k <;> cases c.testBit k <;> rfl
set_option linter.unusedVariables false in
set_option linter.unusedSimpArgs false in
theorem lat6 (a b c : Nat) (ha : a < 64) (hb : b < 64) (hc : c < 64) : meetN [a, a] = a := by
  refine ext6 (by first | exact meet_lt _ | exact join_lt _ | exact lessN_lt _ _ | omega) (by first | exact meet_lt _ | exact join_lt _ | exact lessN_lt _ _ | omega) fun k hk => ?_
  have hm := fun xs => meet_lt xs
  have hl := fun x y => lessN_lt x y
  simp only [tb_meet _ k hk, tb_join _ k hk, List.all_cons, List.all_nil, List.any_cons, List.any_nil, Bool.and_true, Bool.or_false, tb63 k hk, tb0,
    tb_less63 a k (by omega) hk, tb_less63 b k (by omega) hk, tb_less63 (meetN [a, b]) k (by have := meet_lt [a, b]; omega) hk, tb_less63 (lessN 63 a) k (by have := lessN_lt 63 a; omega) hk]
  cases a.testBit k <;> cases b.testBit k <;> cases c.testBit k <;> rfl
set_option linter.unusedVariables false in
set_option linter.unusedSimpArgs false in
theorem lat7 (a b c : Nat) (ha : a < 64) (hb : b < 64) (hc : c < 64) : joinN [a, a] = a := by
  refine ext6 (by first | exact meet_lt _ | exact join_lt _ | exact lessN_lt _ _ | omega) (by first | exact meet_lt _ | exact join_lt _ | exact lessN_lt _ _ | omega) fun k hk => ?_
  have hm := fun xs => meet_lt xs
  have hl := fun x y => lessN_lt x y
  simp only [tb_meet _ k hk, tb_join _ k hk, List.all_cons, List.all_nil, List.any_cons, List.any_nil, Bool.and_true, Bool.or_false, tb63 k hk, tb0,
    tb_less63 a k (by omega) hk, tb_less63 b k (by omega) hk, tb_less63 (meetN [a, b]) k (by have := meet_lt [a, b]; omega) hk, tb_less63 (lessN 63 a) k (by have := lessN_lt 63 a; omega) hk]
  cases a.testBit k <;> cases b.testBit k <;> cases c.testBit k <;> rfl
set_option linter.unusedVariables false in
set_option linter.unusedSimpArgs false in
theorem lat8 (a b c : Nat) (ha : a < 64) (hb : b < 64) (hc : c < 64) : meetN [a, (joinN [a, b])] = a := by
  refine ext6 (by first | exact meet_lt _ | exact join_lt _ | exact lessN_lt _ _ | omega) (by first | exact meet_lt _ | exact join_lt _ | exact lessN_lt _ _ | omega) fun k hk => ?_
  have hm := fun xs => meet_lt xs
  have hl := fun x y => lessN_lt x y
  simp only [tb_meet _ k hk, tb_join _ k hk, List.all_cons, List.all_nil, List.any_cons, List.any_nil, Bool.and_true, Bool.or_false, tb63 k hk, tb0,
    tb_less63 a k (by omega) hk, tb_less63 b k (by omega) hk, tb_less63 (meetN [a, b]) k (by have := meet_lt [a, b]; omega) hk, tb_less63 (lessN 63 a) k (by have := lessN_lt 63 a; omega) hk]
  cases a.testBit k <;> cases b.testBit k <;> cases c.testBit k <;> rfl
set_option linter.unusedVariables false in
set_option linter.unusedSimpArgs false in
theorem lat9 (a b c : Nat) (ha : a < 64) (hb : b < 64) (hc : c < 64) : joinN [a, (meetN [a, b])] = a := by
  refine ext6 (by first | exact meet_lt _ | exact join_lt _ | exact lessN_lt _ _ | omega) (by first | exact meet_lt _ | exact join_lt _ | exact lessN_lt _ _ | omega) fun k hk => ?_
  have hm := fun xs => meet_lt xs
  have hl := fun x y => lessN_lt x y
  simp only [tb_meet _ k hk, tb_join _ k hk, List.all_cons, List.all_nil, List.any_cons, List.any_nil, Bool.and_true, Bool.or_false, tb63 k hk, tb0,
    tb_less63 a k (by omega) hk, tb_less63 b k (by omega) hk, tb_less63 (meetN [a, b]) k (by have := meet_lt [a, b]; omega) hk, tb_less63 (lessN 63 a) k (by have := lessN_lt 63 a; omega) hk]
  cases a.testBit k <;> cases b.testBit k <;> cases c.testBit k <;> rfl
set_option linter.unusedVariables false in
set_option linter.unusedSimpArgs false in
theorem lat10 (a b c : Nat) (ha : a < 64) (hb : b < 64) (hc : c < 64) : joinN [(meetN [a, b]), (meetN [a, c])] = (meetN [a, (joinN [b, c])]) := by
  refine ext6 (by first | exact meet_lt _ | exact join_lt _ | exact lessN_lt _ _ | omega) (by first | exact meet_lt _ | exact join_lt _ | exact lessN_lt _ _ | omega) fun k hk => ?_
  have hm := fun xs => meet_lt xs
  have hl := fun x y => lessN_lt x y
  simp only [tb_meet _ k hk, tb_join _ k hk, List.all_cons, List.all_nil, List.any_cons, List.any_nil, Bool.and_true, Bool.or_false, tb63 k hk, tb0,
    tb_less63 a k (by omega) hk, tb_less63 b k (by omega) hk, tb_less63 (meetN [a, b]) k (by have := meet_lt [a, b]; omega) hk, tb_less63 (lessN 63 a) k (by have := lessN_lt 63 a; omega) hk]
  cases a.testBit k <;> cases b.testBit k <;> cases c.testBit k <;> rfl
set_option linter.unusedVariables false in
set_option linter.unusedSimpArgs false in
theorem lat11 (a b c : Nat) (ha : a < 64) (hb : b < 64) (hc : c < 64) : meetN [(joinN [a, b]), (joinN [a, c])] = (joinN [a, (meetN [b, c])]) := by
  refine ext6 (by first | exact meet_lt _ | exact join_lt _ | exact lessN_lt _ _ | omega) (by first | exact meet_lt _ | exact join_lt _ | exact lessN_lt _ _ | omega) fun k hk => ?_
  have hm := fun xs => meet_lt xs
  have hl := fun x y => lessN_lt x y
  simp only [tb_meet _ k hk, tb_join _ k hk, List.all_cons, List.all_nil, List.any_cons, List.any_nil, Bool.and_true, Bool.or_false, tb63 k hk, tb0,
    tb_less63 a k (by omega) hk, tb_less63 b k (by omega) hk, tb_less63 (meetN [a, b]) k (by have := meet_lt [a, b]; omega) hk, tb_less63 (lessN 63 a) k (by have := lessN_lt 63 a; omega) hk]
  cases a.testBit k <;> cases b.testBit k <;> cases c.testBit k <;> rfl
set_option linter.unusedVariables false in
set_option linter.unusedSimpArgs false in
theorem lat12 (a b c : Nat) (ha : a < 64) (hb : b < 64) (hc : c < 64) : meetN [a, (lessN 63 a)] = 0 := by
  refine ext6 (by first | exact meet_lt _ | exact join_lt _ | exact lessN_lt _ _ | omega) (by first | exact meet_lt _ | exact join_lt _ | exact lessN_lt _ _ | omega) fun k hk => ?_
  have hm := fun xs => meet_lt xs
  have hl := fun x y => lessN_lt x y
  simp only [tb_meet _ k hk, tb_join _ k hk, List.all_cons, List.all_nil, List.any_cons, List.any_nil, Bool.and_true, Bool.or_false, tb63 k hk, tb0,
    tb_less63 a k (by omega) hk, tb_less63 b k (by omega) hk, tb_less63 (meetN [a, b]) k (by have := meet_lt [a, b]; omega) hk, tb_less63 (lessN 63 a) k (by have := lessN_lt 63 a; omega) hk]
  cases a.testBit k <;> cases b.testBit k <;> cases c.testBit k <;> rfl
set_option linter.unusedVariables false in
set_option linter.unusedSimpArgs false in
theorem lat13 (a b c : Nat) (ha : a < 64) (hb : b < 64) (hc : c < 64) : joinN [a, (lessN 63 a)] = 63 := by
  refine ext6 (by first | exact meet_lt _ | exact join_lt _ | exact lessN_lt _ _ | omega) (by first | exact meet_lt _ | exact join_lt _ | exact lessN_lt _ _ | omega) fun k hk => ?_
  have hm := fun xs => meet_lt xs
  have hl := fun x y => lessN_lt x y
  simp only [tb_meet _ k hk, tb_join _ k hk, List.all_cons, List.all_nil, List.any_cons, List.any_nil, Bool.and_true, Bool.or_false, tb63 k hk, tb0,
    tb_less63 a k (by omega) hk, tb_less63 b k (by omega) hk, tb_less63 (meetN [a, b]) k (by have := meet_lt [a, b]; omega) hk, tb_less63 (lessN 63 a) k (by have := lessN_lt 63 a; omega) hk]
  cases a.testBit k <;> cases b.testBit k <;> cases c.testBit k <;> rfl
set_option linter.unusedVariables false in
set_option linter.unusedSimpArgs false in
theorem lat14 (a b c : Nat) (ha : a < 64) (hb : b < 64) (hc : c < 64) : joinN [(lessN 63 a), (lessN 63 b)] = (lessN 63 (meetN [a, b])) := by
  refine ext6 (by first | exact meet_lt _ | exact join_lt _ | exact lessN_lt _ _ | omega) (by first | exact meet_lt _ | exact join_lt _ | exact lessN_lt _ _ | omega) fun k hk => ?_
  have hm := fun xs => meet_lt xs
  have hl := fun x y => lessN_lt x y
  simp only [tb_meet _ k hk, tb_join _ k hk, List.all_cons, List.all_nil, List.any_cons, List.any_nil, Bool.and_true, Bool.or_false, tb63 k hk, tb0,
    tb_less63 a k (by omega) hk, tb_less63 b k (by omega) hk, tb_less63 (meetN [a, b]) k (by have := meet_lt [a, b]; omega) hk, tb_less63 (lessN 63 a) k (by have := lessN_lt 63 a; omega) hk]
  cases a.testBit k <;> cases b.testBit k <;> cases c.testBit k <;> rfl
set_option linter.unusedVariables false in
set_option linter.unusedSimpArgs false in
theorem lat15 (a b c : Nat) (ha : a < 64) (hb : b < 64) (hc : c < 64) : lessN 63 (lessN 63 a) = a := by
  refine ext6 (by first | exact meet_lt _ | exact join_lt _ | exact lessN_lt _ _ | omega) (by first | exact meet_lt _ | exact join_lt _ | exact lessN_lt _ _ | omega) fun k hk => ?_
  have hm := fun xs => meet_lt xs
  have hl := fun x y => lessN_lt x y
  simp only [tb_meet _ k hk, tb_join _ k hk, List.all_cons, List.all_nil, List.any_cons, List.any_nil, Bool.and_true, Bool.or_false, tb63 k hk, tb0,
    tb_less63 a k (by omega) hk, tb_less63 b k (by omega) hk, tb_less63 (meetN [a, b]) k (by have := meet_lt [a, b]; omega) hk, tb_less63 (lessN 63 a) k (by have := lessN_lt 63 a; omega) hk]
  cases a.testBit k <;> cases b.testBit k <;> cases c.testBit k <;> rfl
theorem has_yes (a b : Nat) (ha : a < 64) (hb : b < 64) : hasB a b = (meetN [a, b] == b) ∧ hasB a b = (joinN [a, b] == a) ∧ hasB a b = (lessN b a == 0) := by
  have hd : ∀ k, k < 6 → (lessN b a).testBit k = (b.testBit k && !a.testBit k) := fun k hk => tb_less b a k (by omega) hk
  refine ⟨?_, ?_, rfl⟩
  · unfold hasB
    rw [Bool.eq_iff_iff, beq_iff_eq, beq_iff_eq]
    constructor
    · intro h
      refine ext6 (meet_lt _) hb fun k hk => ?_
      have := hd k hk
      rw [h, tb0] at this
      simp only [tb_meet _ k hk, List.all_cons, List.all_nil, Bool.and_true]
      revert this
      cases a.testBit k <;> cases b.testBit k <;> simp
    · intro h
      refine ext6 (lessN_lt _ _) (by omega) fun k hk => ?_
      rw [hd k hk, tb0]
      have := congrArg (·.testBit k) h
      simp only [tb_meet _ k hk, List.all_cons, List.all_nil, Bool.and_true] at this
      revert this
      cases a.testBit k <;> cases b.testBit k <;> simp
  · unfold hasB
    rw [Bool.eq_iff_iff, beq_iff_eq, beq_iff_eq]
    constructor
    · intro h
      refine ext6 (join_lt _) ha fun k hk => ?_
      have := hd k hk
      rw [h, tb0] at this
      simp only [tb_join _ k hk, List.any_cons, List.any_nil, Bool.or_false]
      revert this
      cases a.testBit k <;> cases b.testBit k <;> simp
    · intro h
      refine ext6 (lessN_lt _ _) (by omega) fun k hk => ?_
      rw [hd k hk, tb0]
      have := congrArg (·.testBit k) h
      simp only [tb_join _ k hk, List.any_cons, List.any_nil, Bool.or_false] at this
      revert this
      cases a.testBit k <;> cases b.testBit k <;> simp
set_option maxRecDepth 100000 in
set_option maxHeartbeats 4000000 in
theorem lattice_law (a0 b0 c0 : Nat) (ha0 : a0 < 256) (hb0 : b0 < 256) (hc0 : c0 < 256) (w : World) : Calls Try.prog 8 #[.int .u8 a0, .int .u8 b0, .int .u8 c0] w fun e w' => e = .returned (.bool true) ∧ Below w.heap.size w w' := by
  obtain ⟨a, hea⟩ : ∃ a : Nat, a0 % 64 = a := ⟨_, rfl⟩
  obtain ⟨b, heb⟩ : ∃ b : Nat, b0 % 64 = b := ⟨_, rfl⟩
  obtain ⟨c, hec⟩ : ∃ c : Nat, c0 % 64 = c := ⟨_, rfl⟩
  have ha : a < 64 := by omega
  have hb : b < 64 := by omega
  have hc : c < 64 := by omega
  have xa : ((a0 : Int) % 64) = (a : Int) := by omega
  have xb : ((b0 : Int) % 64) = (b : Int) := by omega
  have xc : ((c0 : Int) % 64) = (c : Int) := by omega
  clear hea heb hec
  obtain ⟨y1, y2, y3⟩ := has_yes a b ha hb
  have f0 := lat0 a b c ha hb hc
  have f1 := lat1 a b c ha hb hc
  have f2 := lat2 a b c ha hb hc
  have f3 := lat3 a b c ha hb hc
  have f4 := lat4 a b c ha hb hc
  have f5 := lat5 a b c ha hb hc
  have f6 := lat6 a b c ha hb hc
  have f7 := lat7 a b c ha hb hc
  have f8 := lat8 a b c ha hb hc
  have f9 := lat9 a b c ha hb hc
  have f10 := lat10 a b c ha hb hc
  have f11 := lat11 a b c ha hb hc
  have f12 := lat12 a b c ha hb hc
  have f13 := lat13 a b c ha hb hc
  have f14 := lat14 a b c ha hb hc
  have f15 := lat15 a b c ha hb hc
  obtain ⟨m, e_m⟩ : ∃ m : Nat, meetN [a, b] = m := ⟨_, rfl⟩
  have l_m : m < 64 := by rw [← e_m]; first | exact meet_lt _ | exact join_lt _ | exact lessN_lt _ _
  obtain ⟨j, e_j⟩ : ∃ j : Nat, joinN [a, b] = j := ⟨_, rfl⟩
  have l_j : j < 64 := by rw [← e_j]; first | exact meet_lt _ | exact join_lt _ | exact lessN_lt _ _
  obtain ⟨p, e_p⟩ : ∃ p : Nat, meetN [m, c] = p := ⟨_, rfl⟩
  have l_p : p < 64 := by rw [← e_p]; first | exact meet_lt _ | exact join_lt _ | exact lessN_lt _ _
  obtain ⟨q, e_q⟩ : ∃ q : Nat, meetN [b, c] = q := ⟨_, rfl⟩
  have l_q : q < 64 := by rw [← e_q]; first | exact meet_lt _ | exact join_lt _ | exact lessN_lt _ _
  obtain ⟨r, e_r⟩ : ∃ r : Nat, joinN [j, c] = r := ⟨_, rfl⟩
  have l_r : r < 64 := by rw [← e_r]; first | exact meet_lt _ | exact join_lt _ | exact lessN_lt _ _
  obtain ⟨s, e_s⟩ : ∃ s : Nat, joinN [b, c] = s := ⟨_, rfl⟩
  have l_s : s < 64 := by rw [← e_s]; first | exact meet_lt _ | exact join_lt _ | exact lessN_lt _ _
  obtain ⟨t, e_t⟩ : ∃ t : Nat, meetN [a, s] = t := ⟨_, rfl⟩
  have l_t : t < 64 := by rw [← e_t]; first | exact meet_lt _ | exact join_lt _ | exact lessN_lt _ _
  obtain ⟨u, e_u⟩ : ∃ u : Nat, meetN [a, c] = u := ⟨_, rfl⟩
  have l_u : u < 64 := by rw [← e_u]; first | exact meet_lt _ | exact join_lt _ | exact lessN_lt _ _
  obtain ⟨v, e_v⟩ : ∃ v : Nat, joinN [a, q] = v := ⟨_, rfl⟩
  have l_v : v < 64 := by rw [← e_v]; first | exact meet_lt _ | exact join_lt _ | exact lessN_lt _ _
  obtain ⟨x, e_x⟩ : ∃ x : Nat, joinN [a, c] = x := ⟨_, rfl⟩
  have l_x : x < 64 := by rw [← e_x]; first | exact meet_lt _ | exact join_lt _ | exact lessN_lt _ _
  obtain ⟨n, e_n⟩ : ∃ n : Nat, lessN 63 a = n := ⟨_, rfl⟩
  have l_n : n < 64 := by rw [← e_n]; first | exact meet_lt _ | exact join_lt _ | exact lessN_lt _ _
  obtain ⟨y, e_y⟩ : ∃ y : Nat, lessN 63 m = y := ⟨_, rfl⟩
  have l_y : y < 64 := by rw [← e_y]; first | exact meet_lt _ | exact join_lt _ | exact lessN_lt _ _
  obtain ⟨z, e_z⟩ : ∃ z : Nat, lessN 63 b = z := ⟨_, rfl⟩
  have l_z : z < 64 := by rw [← e_z]; first | exact meet_lt _ | exact join_lt _ | exact lessN_lt _ _
  obtain ⟨l, e_l⟩ : ∃ l : Nat, lessN b a = l := ⟨_, rfl⟩
  have l_l : l < 64 := by rw [← e_l]; first | exact meet_lt _ | exact join_lt _ | exact lessN_lt _ _
  simp only [e_m, e_j, e_p, e_q, e_r, e_s, e_t, e_u, e_v, e_x, e_n, e_y, e_z, e_l] at f0 f1 f2 f3 f4 f5 f6 f7 f8 f9 f10 f11 f12 f13 f14 f15 y1 y2 y3
  have F0 := Lib.hid f0
  have F1 := Lib.hid f1
  have F2 := Lib.hid f2
  have F3 := Lib.hid f3
  have F4 := Lib.hid f4
  have F5 := Lib.hid f5
  have F6 := Lib.hid f6
  have F7 := Lib.hid f7
  have F8 := Lib.hid f8
  have F9 := Lib.hid f9
  have F10 := Lib.hid f10
  have F11 := Lib.hid f11
  have F12 := Lib.hid f12
  have F13 := Lib.hid f13
  have F14 := Lib.hid f14
  have F15 := Lib.hid f15
  have Em := Lib.hid e_m
  have Ej := Lib.hid e_j
  have Ep := Lib.hid e_p
  have Eq := Lib.hid e_q
  have Er := Lib.hid e_r
  have Es := Lib.hid e_s
  have Et := Lib.hid e_t
  have Eu := Lib.hid e_u
  have Ev := Lib.hid e_v
  have Ex := Lib.hid e_x
  have En := Lib.hid e_n
  have Ey := Lib.hid e_y
  have Ez := Lib.hid e_z
  have El := Lib.hid e_l
  clear f0 f1 f2 f3 f4 f5 f6 f7 f8 f9 f10 f11 f12 f13 f14 f15 e_m e_j e_p e_q e_r e_s e_t e_u e_v e_x e_n e_y e_z e_l
  rw [← int_beq_nat] at y1 y2
  rw [← nat_beq0] at y3
  have hS := Stands.refl w
  have Y1 := Lib.hid y1
  have Y2 := Lib.hid y2
  have Y3 := Lib.hid y3
  clear y1 y2 y3
  cases hh : hasB a b
  all_goals
    have z1 := Y1.out.symm.trans hh
    have z2 := Y2.out.symm.trans hh
    have z3 := Y3.out.symm.trans hh
    go_enter Try.func8, Try.ntmps8
    go_wp2_with fail
    refine (meet2 _ _ _ _ a b rfl rfl (by omega) (by omega) (by first | rfl | simp) hS).mono ?_
    clear hS
    rintro e W ⟨rfl, hS⟩
    rw [Em.out]
    go_wp2_with fail
    refine (join2 _ _ _ _ a b rfl rfl (by omega) (by omega) (by first | rfl | simp) hS).mono ?_
    clear hS
    rintro e W ⟨rfl, hS⟩
    rw [Ej.out]
    go_wp2_with fail
    refine (meet2 _ _ _ _ b a rfl rfl (by omega) (by omega) (by first | rfl | simp) hS).mono ?_
    clear hS
    rintro e W ⟨rfl, hS⟩
    rw [F0.out]
    go_wp2_with fail
    refine (join2 _ _ _ _ b a rfl rfl (by omega) (by omega) (by first | rfl | simp) hS).mono ?_
    clear hS
    rintro e W ⟨rfl, hS⟩
    rw [F1.out]
    go_wp2_with fail
    refine (meet2 _ _ _ _ m c rfl rfl (by omega) (by omega) (by first | rfl | simp) hS).mono ?_
    clear hS
    rintro e W ⟨rfl, hS⟩
    rw [Ep.out]
    go_wp2_with fail
    refine (meet3 _ _ _ _ _ a b c rfl rfl rfl (by omega) (by omega) (by omega) (by first | rfl | simp) hS).mono ?_
    clear hS
    rintro e W ⟨rfl, hS⟩
    rw [F2.out]
    go_wp2_with fail
    refine (meet2 _ _ _ _ b c rfl rfl (by omega) (by omega) (by first | rfl | simp) hS).mono ?_
    clear hS
    rintro e W ⟨rfl, hS⟩
    rw [Eq.out]
    go_wp2_with fail
    refine (meet2 _ _ _ _ a q rfl rfl (by omega) (by omega) (by first | rfl | simp) hS).mono ?_
    clear hS
    rintro e W ⟨rfl, hS⟩
    rw [F3.out]
    go_wp2_with fail
    refine (meet2 _ _ _ _ m c rfl rfl (by omega) (by omega) (by first | rfl | simp) hS).mono ?_
    clear hS
    rintro e W ⟨rfl, hS⟩
    rw [Ep.out]
    go_wp2_with fail
    refine (join2 _ _ _ _ j c rfl rfl (by omega) (by omega) (by first | rfl | simp) hS).mono ?_
    clear hS
    rintro e W ⟨rfl, hS⟩
    rw [Er.out]
    go_wp2_with fail
    refine (join3 _ _ _ _ _ a b c rfl rfl rfl (by omega) (by omega) (by omega) (by first | rfl | simp) hS).mono ?_
    clear hS
    rintro e W ⟨rfl, hS⟩
    rw [F4.out]
    go_wp2_with fail
    refine (join2 _ _ _ _ b c rfl rfl (by omega) (by omega) (by first | rfl | simp) hS).mono ?_
    clear hS
    rintro e W ⟨rfl, hS⟩
    rw [Es.out]
    go_wp2_with fail
    refine (join2 _ _ _ _ a s rfl rfl (by omega) (by omega) (by first | rfl | simp) hS).mono ?_
    clear hS
    rintro e W ⟨rfl, hS⟩
    rw [F5.out]
    go_wp2_with fail
    refine (join2 _ _ _ _ j c rfl rfl (by omega) (by omega) (by first | rfl | simp) hS).mono ?_
    clear hS
    rintro e W ⟨rfl, hS⟩
    rw [Er.out]
    go_wp2_with fail
    refine (meet2 _ _ _ _ a a rfl rfl (by omega) (by omega) (by first | rfl | simp) hS).mono ?_
    clear hS
    rintro e W ⟨rfl, hS⟩
    rw [F6.out]
    go_wp2_with fail
    refine (join2 _ _ _ _ a a rfl rfl (by omega) (by omega) (by first | rfl | simp) hS).mono ?_
    clear hS
    rintro e W ⟨rfl, hS⟩
    rw [F7.out]
    go_wp2_with fail
    refine (meet2 _ _ _ _ a j rfl rfl (by omega) (by omega) (by first | rfl | simp) hS).mono ?_
    clear hS
    rintro e W ⟨rfl, hS⟩
    rw [F8.out]
    go_wp2_with fail
    refine (join2 _ _ _ _ a m rfl rfl (by omega) (by omega) (by first | rfl | simp) hS).mono ?_
    clear hS
    rintro e W ⟨rfl, hS⟩
    rw [F9.out]
    go_wp2_with fail
    refine (join2 _ _ _ _ b c rfl rfl (by omega) (by omega) (by first | rfl | simp) hS).mono ?_
    clear hS
    rintro e W ⟨rfl, hS⟩
    rw [Es.out]
    go_wp2_with fail
    refine (meet2 _ _ _ _ a s rfl rfl (by omega) (by omega) (by first | rfl | simp) hS).mono ?_
    clear hS
    rintro e W ⟨rfl, hS⟩
    rw [Et.out]
    go_wp2_with fail
    refine (meet2 _ _ _ _ a c rfl rfl (by omega) (by omega) (by first | rfl | simp) hS).mono ?_
    clear hS
    rintro e W ⟨rfl, hS⟩
    rw [Eu.out]
    go_wp2_with fail
    refine (join2 _ _ _ _ m u rfl rfl (by omega) (by omega) (by first | rfl | simp) hS).mono ?_
    clear hS
    rintro e W ⟨rfl, hS⟩
    rw [F10.out]
    go_wp2_with fail
    refine (meet2 _ _ _ _ b c rfl rfl (by omega) (by omega) (by first | rfl | simp) hS).mono ?_
    clear hS
    rintro e W ⟨rfl, hS⟩
    rw [Eq.out]
    go_wp2_with fail
    refine (join2 _ _ _ _ a q rfl rfl (by omega) (by omega) (by first | rfl | simp) hS).mono ?_
    clear hS
    rintro e W ⟨rfl, hS⟩
    rw [Ev.out]
    go_wp2_with fail
    refine (join2 _ _ _ _ a c rfl rfl (by omega) (by omega) (by first | rfl | simp) hS).mono ?_
    clear hS
    rintro e W ⟨rfl, hS⟩
    rw [Ex.out]
    go_wp2_with fail
    refine (meet2 _ _ _ _ j x rfl rfl (by omega) (by omega) (by first | rfl | simp) hS).mono ?_
    clear hS
    rintro e W ⟨rfl, hS⟩
    rw [F11.out]
    go_wp2_with fail
    refine (lessS _ _ _ 63 a rfl rfl (by omega) (by omega) hS).mono ?_
    clear hS
    rintro e W ⟨rfl, hS⟩
    rw [En.out]
    go_wp2_with fail
    refine (meet2 _ _ _ _ a n rfl rfl (by omega) (by omega) (by first | rfl | simp) hS).mono ?_
    clear hS
    rintro e W ⟨rfl, hS⟩
    rw [F12.out]
    go_wp2_with fail
    refine (join2 _ _ _ _ a n rfl rfl (by omega) (by omega) (by first | rfl | simp) hS).mono ?_
    clear hS
    rintro e W ⟨rfl, hS⟩
    rw [F13.out]
    go_wp2_with fail
    refine (lessS _ _ _ 63 m rfl rfl (by omega) (by omega) hS).mono ?_
    clear hS
    rintro e W ⟨rfl, hS⟩
    rw [Ey.out]
    go_wp2_with fail
    refine (lessS _ _ _ 63 b rfl rfl (by omega) (by omega) hS).mono ?_
    clear hS
    rintro e W ⟨rfl, hS⟩
    rw [Ez.out]
    go_wp2_with fail
    refine (join2 _ _ _ _ n z rfl rfl (by omega) (by omega) (by first | rfl | simp) hS).mono ?_
    clear hS
    rintro e W ⟨rfl, hS⟩
    rw [F14.out]
    go_wp2_with fail
    refine (lessS _ _ _ 63 n rfl rfl (by omega) (by omega) hS).mono ?_
    clear hS
    rintro e W ⟨rfl, hS⟩
    rw [F15.out]
    go_wp2_with fail
    refine (hasS _ _ _ a b rfl rfl (by omega) (by omega) hS).mono ?_
    clear hS
    rintro e W ⟨rfl, hS⟩
    rw [hh]
    go_wp2_with fail
    refine (lessS _ _ _ b a rfl rfl (by omega) (by omega) hS).mono ?_
    clear hS
    rintro e W ⟨rfl, hS⟩
    rw [El.out]
    go_wp2_with fail
    refine (join0 _ hS).mono ?_
    clear hS
    rintro e W ⟨rfl, hS⟩
    go_wp2_with fail
    refine (meet0 _ hS).mono ?_
    clear hS
    rintro e W ⟨rfl, hS⟩
    go_wp2_with fail
    refine (livesS _ hS).mono ?_
    clear hS
    rintro e W ⟨rfl, hS⟩
    go_wp2
    go_ret
    exact ⟨rfl, hS.1⟩
end Go.Proofs.Ytadmdanmafegoaa
