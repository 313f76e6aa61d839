/- General laws on a region that draws its order: held loads are taken first, the rest is walked in the order of the text; and the same inside a round of a range over a function. -/
import Derived.OrdersHeld
import Derived.OrdersIn
import Derived.TacticsIn
import Derived.Tactics2
import Derived.RangeFuncCalls
import Derived.WalkKit
namespace Go.RegSeq
open Go
variable {P : Program} {ops : Array Oper} {Q : Exit → Act → World → Prop} {md : Region.Mode} {S : World → Prop} {T : Nat → Bool}

/-- Whatever order is picked from here on; behind each operation of T, S is shown anew. -/
def wpAnyT (P : Program) (md : Region.Mode) (ops : Array Oper) (Q : Exit → Act → World → Prop) (T : Nat → Bool) (S : World → Prop) : Nat → Array Bool → Act → World → Prop
  | 0, listed, a, w => Region.ready md ops listed = [] ∧ Q .normal a w
  | fuel + 1, listed, a, w =>
    (Region.ready md ops listed = [] → Q .normal a w) ∧
    ∀ i ∈ Region.ready md ops listed, wpOp P ops Q i (fun a' w' => (T i = true → S w') ∧ wpAnyT P md ops Q T S fuel (listed.setIfInBounds i true) a' w') a w

theorem wpAny_of_T : ∀ (fuel : Nat) (listed : Array Bool) (a : Act) (w : World), wpAnyT P md ops Q T S fuel listed a w → wpAny P md ops Q fuel listed a w
  | 0, _, _, _, h => h
  | fuel + 1, _, _, _, h => ⟨h.1, fun i hi => wpOp_mono (fun a' w' h' => wpAny_of_T fuel _ a' w' h'.2) (h.2 i hi)⟩

/-- Every operation that has not come up, other than i, either waits for i directly or is of T. -/
def tFree (md : Region.Mode) (ops : Array Oper) (listed : Array Bool) (T : Nat → Bool) (i : Nat) : Bool :=
  (List.range ops.size).all fun j => j == i || listed.getD j true || T j || ((ops[j]?).map (·.after.any fun e => Region.binds md e && e.on == i)).getD false

theorem tFree_spec {listed : Array Bool} {i : Nat} (h : tFree md ops listed T i = true) (j : Nat) (oj : Oper) (hj : ops[j]? = some oj) (hji : j ≠ i) (hun : listed.getD j true = false)
    (hno : ∀ e ∈ oj.after, Region.binds md e = true → e.on ≠ i) : T j = true := by
  have hlt : j < ops.size := (Array.getElem?_eq_some_iff.1 hj).1
  have := List.all_eq_true.1 h j (List.mem_range.2 hlt)
  rw [hj] at this
  simp only [Option.map_some, Option.getD_some, hun, Bool.or_false, Bool.or_eq_true, beq_iff_eq] at this
  rcases this with (h1 | h1) | h1
  · exact absurd h1 hji
  · exact h1
  · obtain ⟨k, hk, hb⟩ := Array.any_eq_true.1 h1
    simp only [Bool.and_eq_true, beq_iff_eq] at hb
    exact absurd hb.2 (hno _ (Array.getElem_mem hk) hb.1)

theorem wpAnyT_first (b : Bool) {i : Nat} {oi : Oper} {v : Value} (hb : b = true → T i = false) (hi : ops[i]? = some oi) (hsel : ∀ (j : Nat) (o : Oper) cs b, ops[j]? = some o → o.op ≠ .select cs b)
    (hQ : ∀ c a w, Q (.panic c) (a.put oi.dst v) w → Q (.panic c) a w) :
    ∀ (fuel : Nat) (listed : Array Bool) (a : Act) (w : World),
      (∀ j oj, ops[j]? = some oj → j ≠ i → listed.getD j true = false → (∀ e ∈ oj.after, Region.binds md e = true → e.on ≠ i) → oi.apart ops oj = true ∧ (b = true ∨ T j = true)) →
      i ∈ Region.ready md ops listed → YieldsIf P ops (fun w => b = true ∨ S w) oi v a → (b = true ∨ S w) →
      wpAnyT P md ops Q T S fuel (listed.setIfInBounds i true) (a.put oi.dst v) w → wpAnyT P md ops Q T S (fuel + 1) listed a w := by
  have hT : ∀ w, (b = true ∨ S w) → T i = true → S w := fun w h e => h.elim (fun h' => (by rw [hb h'] at e; cases e)) id
  intro fuel
  induction fuel with
  | zero =>
    intro listed a w _ hr hy hS H
    refine ⟨fun h => (by rw [h] at hr; cases hr), fun j hj => ?_⟩
    by_cases hji : j = i
    · subst hji; exact hy.wpOp hi hS ⟨hT w hS, H⟩
    · have := ready_mono hj hji
      rw [H.1] at this
      cases this
  | succ fuel ih =>
    intro listed a w hfree hr hy hS H
    refine ⟨fun h => (by rw [h] at hr; cases hr), fun j hj => ?_⟩
    by_cases hji : j = i
    · subst hji; exact hy.wpOp hi hS ⟨hT w hS, H⟩
    · have h1 := H.2 j (ready_mono hj hji)
      obtain ⟨hjun, oj, hoj, hall⟩ := mem_ready.1 hj
      have hnot : ∀ e ∈ oj.after, Region.binds md e = true → e.on ≠ i := fun e he hb heq => by
        have h1 := hall e he hb
        have h0 := (mem_ready.1 hr).1
        rw [heq] at h1
        rcases Nat.lt_or_ge i listed.size with h' | h'
        · simp [h'] at h0 h1; rw [h0] at h1; cases h1
        · simp [Array.getElem?_eq_none h'] at h1
      have hTj : b = true ∨ T j = true := (hfree j oj hoj hji hjun hnot).2
      have h2 := wpOp_putIf hoj (hfree j oj hoj hji hjun hnot).1 (fun cs b => hsel i oi cs b hi) (fun cs b => hsel j oj cs b hoj) hQ hy h1
      have hfree' : ∀ k ok, ops[k]? = some ok → k ≠ i → (listed.setIfInBounds j true).getD k true = false →
          (∀ e ∈ ok.after, Region.binds md e = true → e.on ≠ i) → oi.apart ops ok = true ∧ (b = true ∨ T k = true) := fun k ok hk hki hun hno => by
        refine hfree k ok hk hki ?_ hno
        by_cases hjk : j = k
        · subst hjk; exact hjun
        · rw [getD_set_ne true hjk] at hun; exact hun
      refine wpOp_mono (fun a' w' h3 => ⟨h3.2.1, ih (listed.setIfInBounds j true) a' w' hfree' (ready_mono hr (Ne.symm hji)) h3.1 (hTj.imp id h3.2.1) ?_⟩) h2
      rw [Array.setIfInBounds_comm _ _ hji]
      exact h3.2.2

/-- Take number 'i' first: it reads what S holds. -/
theorem take {i : Nat} {oi : Oper} {v : Value} {fuel : Nat} {listed : Array Bool} {a : Act} {w : World} (hi : ops[i]? = some oi)
    (hs : Region.noSelect ops = true) (hf : Region.free md ops listed i = true) (hT : tFree md ops listed T i = true) (hr : (Region.ready md ops listed).contains i = true)
    (hQ : ∀ c a w, Q (.panic c) (a.put oi.dst v) w → Q (.panic c) a w) (hy : YieldsIf P ops S oi v a) (hS : S w)
    (h : wpAnyT P md ops Q T S fuel (listed.setIfInBounds i true) (a.put oi.dst v) w) : wpAnyT P md ops Q T S (fuel + 1) listed a w :=
  wpAnyT_first false (by simp) hi (Region.noSelect_spec hs) hQ fuel listed a w (fun j oj hj hji hun hno => ⟨Region.free_spec hi hf j oj hj hji hun hno, .inr (tFree_spec hT j oj hj hji hun hno)⟩) (by simpa using hr)
    (hy.imp (fun h => ⟨h.1, fun w hw => h.2 w (hw.resolve_left (by simp))⟩) id) (.inr hS) h

/-- Take number 'i' first: it yields its value in whatever world. -/
theorem takePure {i : Nat} {oi : Oper} {v : Value} {fuel : Nat} {listed : Array Bool} {a : Act} {w : World} (hi : ops[i]? = some oi) (hTi : T i = false)
    (hs : Region.noSelect ops = true) (hf : Region.free md ops listed i = true) (hr : (Region.ready md ops listed).contains i = true)
    (hQ : ∀ c a w, Q (.panic c) (a.put oi.dst v) w → Q (.panic c) a w) (hy : YieldsIf P ops (fun _ => True) oi v a)
    (h : wpAnyT P md ops Q T S fuel (listed.setIfInBounds i true) (a.put oi.dst v) w) : wpAnyT P md ops Q T S (fuel + 1) listed a w :=
  wpAnyT_first true (fun _ => hTi) hi (Region.noSelect_spec hs) hQ fuel listed a w (fun j oj hj hji hun hno => ⟨Region.free_spec hi hf j oj hj hji hun hno, .inl rfl⟩) (by simpa using hr)
    (hy.imp (fun h => ⟨h.1, fun w _ => h.2 w trivial⟩) id) (.inl rfl) h

/-! ### The rest in the order of the text -/
def lin (md : Region.Mode) (ops : Array Oper) : List Nat → Array Bool → Bool
  | [], listed => (Region.ready md ops listed).isEmpty
  | i :: rest, listed => (Region.ready md ops listed == [i]) && lin md ops rest (listed.setIfInBounds i true)

def seqT (P : Program) (ops : Array Oper) (Q : Exit → Act → World → Prop) (T : Nat → Bool) (S : World → Prop) : List Nat → Act → World → Prop
  | [], a, w => Q .normal a w
  | i :: rest, a, w => wpOp P ops Q i (fun a' w' => (T i = true → S w') ∧ seqT P ops Q T S rest a' w') a w

theorem of_lin : ∀ (rest : List Nat) (fuel : Nat) (listed : Array Bool) (a : Act) (w : World), lin md ops rest listed = true → rest.length ≤ fuel →
    seqT P ops Q T S rest a w → wpAnyT P md ops Q T S fuel listed a w
  | [], 0, _, _, _, hl, _, h => ⟨by simpa [lin] using hl, h⟩
  | [], _ + 1, listed, _, _, hl, _, h => ⟨fun _ => h, fun i hi => by
      have hl' : Region.ready md ops listed = [] := by simpa [lin] using hl
      rw [hl'] at hi; cases hi⟩
  | i :: rest, 0, _, _, _, _, hf, _ => by simp at hf
  | i :: rest, fuel + 1, listed, a, w, hl, hf, h => by
    simp only [lin, Bool.and_eq_true, beq_iff_eq] at hl
    refine ⟨fun h0 => (by rw [hl.1] at h0; cases h0), fun j hj => ?_⟩
    rw [hl.1, List.mem_singleton] at hj
    subst hj
    exact wpOp_mono (fun a' w' h' => ⟨h'.1, of_lin rest fuel _ a' w' hl.2 (by simpa using hf) h'.2⟩) h

/-- One operation alone may come up: it is walked; behind it the order is open again. -/
theorem one {i : Nat} {o : Oper} {fuel : Nat} {listed : Array Bool} {a : Act} {w : World} (hr : (Region.ready md ops listed == [i]) = true) (hi : ops[i]? = some o)
    (h : wpList P ops (Exit.then (fun a w => (T i = true → S w) ∧ wpAnyT P md ops Q T S fuel (listed.setIfInBounds i true) a w) Q) [o] a w) : wpAnyT P md ops Q T S (fuel + 1) listed a w := by
  have hr := eq_of_beq hr
  refine ⟨fun h0 => (by rw [hr] at h0; cases h0), fun j hj => ?_⟩
  rw [hr, List.mem_singleton] at hj
  subst hj
  unfold wpOp
  simp only [hi]
  unfold wpList at h
  split
  · rename_i hw
    rw [if_pos hw] at h
    rcases h with h | h
    · refine .inl ?_
      unfold Oper.wp at *
      generalize (execOp a.eval o).run P w = r at *
      cases r with
      | ok x w' => cases x <;> simp only [Oper.upon, wpList, Exit.then] at h ⊢ <;> first
        | exact h
        | (refine Calls.mono h fun e w'' he => ?_
           cases e <;> exact he)
        | exact Rows.mono h fun u w'' he => he
      | halt x w' => cases x <;> simp only [Oper.upon, Exit.then] at h ⊢ <;> exact h
    · exact .inr h
  · rename_i hw
    rw [if_neg hw] at h
    exact h

theorem seqT_plain {i : Nat} {o : Oper} {rest : List Nat} {a : Act} {w : World} (hi : ops[i]? = some o) (hT : T i = false)
    (h : wpList P ops (Exit.then (fun a w => seqT P ops Q T S rest a w) Q) [o] a w) : seqT P ops Q T S (i :: rest) a w := by
  show wpOp P ops Q i _ a w
  unfold wpOp
  simp only [hi]
  unfold wpList at h
  split
  · rename_i hw
    rw [if_pos hw] at h
    rcases h with h | h
    · refine .inl ?_
      unfold Oper.wp at *
      generalize (execOp a.eval o).run P w = r at *
      cases r with
      | ok x w' => cases x <;> simp only [Oper.upon, wpList, Exit.then] at h ⊢ <;> first
        | exact ⟨fun e => (by rw [hT] at e; cases e), h⟩
        | (refine Calls.mono h fun e w'' he => ?_
           cases e with
           | returned u => exact ⟨fun e => (by rw [hT] at e; cases e), he⟩
           | panicked c => exact he
           | outgrown => exact he)
        | exact Rows.mono h fun u w'' he => ⟨fun e => (by rw [hT] at e; cases e), he⟩
        | exact h
      | halt x w' => cases x <;> simp only [Oper.upon, Exit.then] at h ⊢ <;> exact h
    · exact .inr h
  · rename_i hw
    rw [if_neg hw] at h
    exact ⟨fun e => (by rw [hT] at e; cases e), h⟩

theorem seqT_held {i : Nat} {o : Oper} {rest : List Nat} {a : Act} {w : World} (hi : ops[i]? = some o)
    (h : wpList P ops (Exit.then (fun a w => S w ∧ seqT P ops Q T S rest a w) Q) [o] a w) : seqT P ops Q T S (i :: rest) a w := by
  show wpOp P ops Q i _ a w
  unfold wpOp
  simp only [hi]
  unfold wpList at h
  split
  · rename_i hw
    rw [if_pos hw] at h
    rcases h with h | h
    · refine .inl ?_
      unfold Oper.wp at *
      generalize (execOp a.eval o).run P w = r at *
      cases r with
      | ok x w' => cases x <;> simp only [Oper.upon, wpList, Exit.then] at h ⊢ <;> first
        | exact ⟨fun _ => h.1, h.2⟩
        | (refine Calls.mono h fun e w'' he => ?_
           cases e with
           | returned u => exact ⟨fun _ => he.1, he.2⟩
           | panicked c => exact he
           | outgrown => exact he)
        | exact Rows.mono h fun u w'' he => ⟨fun _ => he.1, he.2⟩
        | exact h
      | halt x w' => cases x <;> simp only [Oper.upon, Exit.then] at h ⊢ <;> exact h
    · exact .inr h
  · rename_i hw
    rw [if_neg hw] at h
    exact ⟨fun _ => h.1, h.2⟩

theorem seqT_tail : ∀ (rest : List Nat) (os : List Oper), rest.map (ops[·]?) = os.map some → (rest.all fun i => !T i) = true → ∀ (a : Act) (w : World),
    wpList P ops Q os a w → seqT P ops Q T S rest a w
  | [], [], _, _, _, _, h => h
  | [], _ :: _, h, _, _, _, _ => by simp at h
  | _ :: _, [], h, _, _, _, _ => by simp at h
  | i :: rest, o :: os, he, ht, a, w, h => by
    simp only [List.map_cons, List.cons.injEq] at he
    simp only [List.all_cons, Bool.and_eq_true, Bool.not_eq_true'] at ht
    have hm : wpOp P ops Q i (wpList P ops Q os) a w := by
      unfold wpOp
      simp only [he.1]
      exact h
    exact wpOp_mono (fun a' w' h' => ⟨fun e => (by rw [ht.1] at e; cases e), seqT_tail rest os he.2 ht.2 a' w' h'⟩) hm

/-! ### Inside a round -/
theorem rowsIn_round {n l : Nat} {row : String} {args : Array Value} {w : World} {R : Value → World → Prop} (h : Rows P row args w R) : RowsIn (Fence.wide.inRound l) n P row args w R :=
  fun c cs _ => let ⟨v, w', r, s⟩ := h c cs; ⟨v, w', r, (stepsIn_wide (P := P)).2 s⟩

theorem wpOpIn_of {n l : Nat} (hd : ∀ (j : Nat) (o : Oper), ops[j]? = some o → ∀ c, o.op ≠ .defer c) (hQ : ¬ LetsOut Q) {i : Nat} {K : Act → World → Prop} {a : Act} {w : World}
    (h : wpOp P ops Q i K a w) : wpOpIn (Fence.wide.inRound l) n P ops Q i K a w := by
  unfold wpOp at h
  unfold wpOpIn
  cases hi : ops[i]? with
  | none => rw [hi] at h; exact h
  | some o =>
    rw [hi] at h
    simp only at h ⊢
    split
    · rename_i hw
      rw [if_pos hw] at h
      have h := h.resolve_right fun h => hQ h.2
      refine ⟨fun _ _ => trivial, ?_⟩
      rw [show (Fence.wide.inRound l).round = some l from rfl, Oper.semAt_some l _ _ (hd i o hi)]
      unfold Oper.wp at h
      generalize (execOp a.eval o).run P w = r at *
      cases r with
      | ok x w' =>
        cases x <;> simp only [Oper.upon, Oper.uponIn] at h ⊢
        case value u => exact h
        case skip => exact h
        case defer d => exact h
        case enter f args =>
          exact ⟨fun e => (by cases e), CallsIn.inRound l (callsIn_wide.2 h)⟩
        case row row args => exact ⟨fun e => (by cases e), rowsIn_round h⟩
      | halt x w' => cases x <;> simp only [Oper.upon, Oper.uponIn] at h ⊢ <;> exact h
    · rename_i hw
      rw [if_neg hw] at h
      exact ⟨fun _ _ => trivial, h⟩

theorem wpAnyIn_of {n l : Nat} (hd : ∀ (j : Nat) (o : Oper), ops[j]? = some o → ∀ c, o.op ≠ .defer c) (hQ : ¬ LetsOut Q) :
    ∀ (fuel : Nat) (listed : Array Bool) (a : Act) (w : World), wpAny P md ops Q fuel listed a w → wpAnyIn (Fence.wide.inRound l) n P md ops Q fuel listed a w
  | 0, _, _, _, h => h
  | fuel + 1, _, _, _, h => ⟨h.1, fun i hi => wpOpIn_mono (fun a' w' h' => wpAnyIn_of hd hQ fuel _ a' w' h') (wpOpIn_of hd hQ (h.2 i hi))⟩

def noDefer (ops : Array Oper) : Bool := ops.all fun o => match o.op with | .defer _ => false | _ => true
theorem noDefer_spec (h : noDefer ops = true) (j : Nat) (o : Oper) (hj : ops[j]? = some o) (c : Call) : o.op ≠ .defer c := by
  intro e
  obtain ⟨hlt, he⟩ := Array.getElem?_eq_some_iff.1 hj
  have h2 := Array.all_eq_true.1 h j hlt
  rw [he, e] at h2
  cases h2

/-- THE BEGINNING, at large. -/
theorem region {id : Nat} {a : Act} {w : World} (T : Nat → Bool) (S : World → Prop) (hm : P.follows .mixedOrders = true)
    (h : wpAnyT P .any ops Q T S ops.size (Array.replicate ops.size false) a w.drew) : (Code.region id ops true).wp P Q a w :=
  wp_region_any hm (wpAny_of_T _ _ _ _ h)

/-- No way out by a panic. -/
def NP (Q : Exit → Act → World → Prop) : Exit → Act → World → Prop
  | .panic _, _, _ => False
  | e, a, w => Q e a w
/-- THE BEGINNING, where nothing panics. -/
theorem region_np {id : Nat} {a : Act} {w : World} (T : Nat → Bool) (S : World → Prop) (hm : P.follows .mixedOrders = true)
    (h : wpAnyT P .any ops (NP Q) T S ops.size (Array.replicate ops.size false) a w.drew) : (Code.region id ops true).wp P Q a w :=
  Code.wp_mono (fun e a w q => by cases e <;> first | exact q | exact q.elim) (region (Q := NP Q) T S hm h)

/-- THE BEGINNING, in a round. -/
theorem region_round {id n l : Nat} {a : Act} {w : World} (T : Nat → Bool) (S : World → Prop) (hm : P.follows .mixedOrders = true) (hd : noDefer ops = true) (hQ : ¬ LetsOut Q)
    (h : wpAnyT P .any ops Q T S ops.size (Array.replicate ops.size false) a w.drew) : (Code.region id ops true).wpIn (Fence.wide.inRound l) n P Q a w :=
  wpIn_region_any hm (wpAnyIn_of (noDefer_spec hd) hQ _ _ _ _ (wpAny_of_T _ _ _ _ h))

theorem grownBy_drew {w w1 : World} {r : Option Nat} (h : w.drew.grownBy w1 r) : w.grownBy w1 r := ⟨h.os, h.tape, h.output, h.size, h.block⟩
end Go.RegSeq

/-! ## The general form: behind each operation a condition of its own -/
namespace Go.RegR
open Go
variable {P : Program} {ops : Array Oper} {Q : Exit → Act → World → Prop} {md : Region.Mode} {R : Nat → World → Prop}

def wpAnyR (P : Program) (md : Region.Mode) (ops : Array Oper) (Q : Exit → Act → World → Prop) (R : Nat → World → Prop) : Nat → Array Bool → Act → World → Prop
  | 0, listed, a, w => Region.ready md ops listed = [] ∧ Q .normal a w
  | fuel + 1, listed, a, w =>
    (Region.ready md ops listed = [] → Q .normal a w) ∧
    ∀ i ∈ Region.ready md ops listed, wpOp P ops Q i (fun a' w' => R i w' ∧ wpAnyR P md ops Q R fuel (listed.setIfInBounds i true) a' w') a w

theorem wpAny_of_R : ∀ (fuel : Nat) (listed : Array Bool) (a : Act) (w : World), wpAnyR P md ops Q R fuel listed a w → wpAny P md ops Q fuel listed a w
  | 0, _, _, _, h => h
  | fuel + 1, _, _, _, h => ⟨h.1, fun i hi => wpOp_mono (fun a' w' h' => wpAny_of_R fuel _ a' w' h'.2) (h.2 i hi)⟩

theorem wpAnyR_first {S : World → Prop} {i : Nat} {oi : Oper} {v : Value} (hSi : ∀ w, S w → R i w) (hi : ops[i]? = some oi) (hsel : ∀ (j : Nat) (o : Oper) cs b, ops[j]? = some o → o.op ≠ .select cs b)
    (hQ : ∀ c a w, Q (.panic c) (a.put oi.dst v) w → Q (.panic c) a w) :
    ∀ (fuel : Nat) (listed : Array Bool) (a : Act) (w : World),
      (∀ j oj, ops[j]? = some oj → j ≠ i → listed.getD j true = false → (∀ e ∈ oj.after, Region.binds md e = true → e.on ≠ i) → oi.apart ops oj = true ∧ ∀ w, R j w → S w) →
      i ∈ Region.ready md ops listed → YieldsIf P ops S oi v a → S w →
      wpAnyR P md ops Q R fuel (listed.setIfInBounds i true) (a.put oi.dst v) w → wpAnyR P md ops Q R (fuel + 1) listed a w := by
  intro fuel
  induction fuel with
  | zero =>
    intro listed a w _ hr hy hS H
    refine ⟨fun h => (by rw [h] at hr; cases hr), fun j hj => ?_⟩
    by_cases hji : j = i
    · subst hji; exact hy.wpOp hi hS ⟨hSi w hS, H⟩
    · have := ready_mono hj hji
      rw [H.1] at this
      cases this
  | succ fuel ih =>
    intro listed a w hfree hr hy hS H
    refine ⟨fun h => (by rw [h] at hr; cases hr), fun j hj => ?_⟩
    by_cases hji : j = i
    · subst hji; exact hy.wpOp hi hS ⟨hSi w hS, H⟩
    · have h1 := H.2 j (ready_mono hj hji)
      obtain ⟨hjun, oj, hoj, hall⟩ := mem_ready.1 hj
      have hnot : ∀ e ∈ oj.after, Region.binds md e = true → e.on ≠ i := fun e he hb heq => by
        have h1 := hall e he hb
        have h0 := (mem_ready.1 hr).1
        rw [heq] at h1
        rcases Nat.lt_or_ge i listed.size with h' | h'
        · simp [h'] at h0 h1; rw [h0] at h1; cases h1
        · simp [Array.getElem?_eq_none h'] at h1
      have hTj := (hfree j oj hoj hji hjun hnot).2
      have h2 := wpOp_putIf hoj (hfree j oj hoj hji hjun hnot).1 (fun cs b => hsel i oi cs b hi) (fun cs b => hsel j oj cs b hoj) hQ hy h1
      have hfree' : ∀ k ok, ops[k]? = some ok → k ≠ i → (listed.setIfInBounds j true).getD k true = false →
          (∀ e ∈ ok.after, Region.binds md e = true → e.on ≠ i) → oi.apart ops ok = true ∧ ∀ w, R k w → S w := fun k ok hk hki hun hno => by
        refine hfree k ok hk hki ?_ hno
        by_cases hjk : j = k
        · subst hjk; exact hjun
        · rw [getD_set_ne true hjk] at hun; exact hun
      refine wpOp_mono (fun a' w' h3 => ⟨h3.2.1, ih (listed.setIfInBounds j true) a' w' hfree' (ready_mono hr (Ne.symm hji)) h3.1 (hTj w' h3.2.1) ?_⟩) h2
      rw [Array.setIfInBounds_comm _ _ hji]
      exact h3.2.2

/-- Take number 'i' first: it reads what S holds; U: those that may come before it. -/
theorem take (S : World → Prop) (U : List Nat) {i : Nat} {oi : Oper} {v : Value} {fuel : Nat} {listed : Array Bool} {a : Act} {w : World} (hi : ops[i]? = some oi)
    (hs : Region.noSelect ops = true) (hf : Region.free md ops listed i = true) (hT : RegSeq.tFree md ops listed (U.contains ·) i = true) (hr : (Region.ready md ops listed).contains i = true)
    (hU : ∀ j ∈ U, ∀ w, R j w → S w) (hSi : ∀ w, S w → R i w)
    (hQ : ∀ c a w, Q (.panic c) (a.put oi.dst v) w → Q (.panic c) a w) (hy : YieldsIf P ops S oi v a) (hS : S w)
    (h : wpAnyR P md ops Q R fuel (listed.setIfInBounds i true) (a.put oi.dst v) w) : wpAnyR P md ops Q R (fuel + 1) listed a w :=
  wpAnyR_first hSi hi (Region.noSelect_spec hs) hQ fuel listed a w (fun j oj hj hji hun hno => ⟨Region.free_spec hi hf j oj hj hji hun hno, hU j (by simpa using RegSeq.tFree_spec hT j oj hj hji hun hno)⟩) (by simpa using hr) hy hS h

/-- Take number 'i' first: it yields its value in whatever world, and nothing is asked behind it. -/
theorem takePure {i : Nat} {oi : Oper} {v : Value} {fuel : Nat} {listed : Array Bool} {a : Act} {w : World} (hi : ops[i]? = some oi)
    (hs : Region.noSelect ops = true) (hf : Region.free md ops listed i = true) (hr : (Region.ready md ops listed).contains i = true) (hRi : ∀ w, R i w)
    (hQ : ∀ c a w, Q (.panic c) (a.put oi.dst v) w → Q (.panic c) a w) (hy : YieldsIf P ops (fun _ => True) oi v a)
    (h : wpAnyR P md ops Q R fuel (listed.setIfInBounds i true) (a.put oi.dst v) w) : wpAnyR P md ops Q R (fuel + 1) listed a w :=
  wpAnyR_first (S := fun _ => True) (fun w _ => hRi w) hi (Region.noSelect_spec hs) hQ fuel listed a w (fun j oj hj hji hun hno => ⟨Region.free_spec hi hf j oj hj hji hun hno, fun _ _ => trivial⟩) (by simpa using hr) hy trivial h

/-- One operation alone may come up: it is walked; behind it the order is open again. -/
theorem one {i : Nat} {o : Oper} {fuel : Nat} {listed : Array Bool} {a : Act} {w : World} (hr : (Region.ready md ops listed == [i]) = true) (hi : ops[i]? = some o)
    (h : wpList P ops (Exit.then (fun a w => R i w ∧ wpAnyR P md ops Q R fuel (listed.setIfInBounds i true) a w) Q) [o] a w) : wpAnyR P md ops Q R (fuel + 1) listed a w := by
  have hr := eq_of_beq hr
  refine ⟨fun h0 => (by rw [hr] at h0; cases h0), fun j hj => ?_⟩
  rw [hr, List.mem_singleton] at hj
  subst hj
  unfold wpOp
  simp only [hi]
  unfold wpList at h
  split
  · rename_i hw
    rw [if_pos hw] at h
    rcases h with h | h
    · refine .inl ?_
      unfold Oper.wp at *
      generalize (execOp a.eval o).run P w = r at *
      cases r with
      | ok x w' => cases x <;> simp only [Oper.upon, wpList, Exit.then] at h ⊢ <;> first
        | exact h
        | (refine Calls.mono h fun e w'' he => ?_
           cases e <;> exact he)
        | exact Rows.mono h fun u w'' he => he
      | halt x w' => cases x <;> simp only [Oper.upon, Exit.then] at h ⊢ <;> exact h
    · exact .inr h
  · rename_i hw
    rw [if_neg hw] at h
    exact h

/-- All that is left comes up in the order of the text, and nothing is asked of it. -/
theorem rest : ∀ (l : List Nat) (os : List Oper) (fuel : Nat) (listed : Array Bool), RegSeq.lin md ops l listed = true → l.length ≤ fuel → l.map (ops[·]?) = os.map some → (∀ i ∈ l, ∀ w, R i w) → ∀ (a : Act) (w : World),
    wpList P ops Q os a w → wpAnyR P md ops Q R fuel listed a w
  | [], [], 0, _, hl, _, _, _, _, _, h => ⟨by simpa [RegSeq.lin] using hl, h⟩
  | [], [], _ + 1, listed, hl, _, _, _, _, _, h => ⟨fun _ => h, fun i hi => by
      have hl' : Region.ready md ops listed = [] := by simpa [RegSeq.lin] using hl
      rw [hl'] at hi; cases hi⟩
  | [], _ :: _, _, _, _, _, he, _, _, _, _ => by simp at he
  | _ :: _, [], _, _, _, _, he, _, _, _, _ => by simp at he
  | _ :: _, _ :: _, 0, _, _, hf, _, _, _, _, _ => by simp at hf
  | i :: l, o :: os, fuel + 1, listed, hl, hf, he, hR, a, w, h => by
    simp only [RegSeq.lin, Bool.and_eq_true, beq_iff_eq] at hl
    simp only [List.map_cons, List.cons.injEq] at he
    refine ⟨fun h0 => (by rw [hl.1] at h0; cases h0), fun j hj => ?_⟩
    rw [hl.1, List.mem_singleton] at hj
    subst hj
    have hm : wpOp P ops Q j (wpList P ops Q os) a w := by
      unfold wpOp
      simp only [he.1]
      exact h
    exact wpOp_mono (fun a' w' h' => ⟨hR j (by simp) w', rest l os fuel _ hl.2 (by simpa using hf) he.2 (fun i hi => hR i (by simp [hi])) a' w' h'⟩) hm

/-- THE BEGINNING, where nothing panics. -/
theorem region_np {id : Nat} {a : Act} {w : World} (R : Nat → World → Prop) (hm : P.follows .mixedOrders = true)
    (h : wpAnyR P .any ops (RegSeq.NP Q) R ops.size (Array.replicate ops.size false) a w.drew) : (Code.region id ops true).wp P Q a w :=
  Code.wp_mono (fun e a w q => by cases e <;> first | exact q | exact q.elim) (wp_region_any (Q := RegSeq.NP Q) hm (wpAny_of_R _ _ _ _ h))
/-- THE BEGINNING, in a round. -/
theorem region_round {id n l : Nat} {a : Act} {w : World} (R : Nat → World → Prop) (hm : P.follows .mixedOrders = true) (hd : RegSeq.noDefer ops = true) (hQ : ¬ LetsOut Q)
    (h : wpAnyR P .any ops Q R ops.size (Array.replicate ops.size false) a w.drew) : (Code.region id ops true).wpIn (Fence.wide.inRound l) n P Q a w :=
  wpIn_region_any hm (RegSeq.wpAnyIn_of (RegSeq.noDefer_spec hd) hQ _ _ _ _ (wpAny_of_R _ _ _ _ h))
end Go.RegR
