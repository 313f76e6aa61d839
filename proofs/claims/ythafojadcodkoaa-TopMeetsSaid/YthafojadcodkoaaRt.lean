/- (Carried over.) General laws on a region that draws its order: quiet operations are taken first, whatever may come before them; the rest is walked in the order of the text. -/
import Derived.OrdersHeld
import Derived.OrdersIn
import Derived.TacticsIn
import Derived.Tactics2
import Derived.WalkKit
namespace Go.RegT
open Go
variable {P : Program} {ops : Array Oper} {Q : Exit → Act → World → Prop} {md : Region.Mode} {S : World → Prop} {T : Nat → Bool}

/-- Whatever order is picked from here on; behind each operation of T, S is shown anew. -/
def wpAnyT (P : Program) (md : Region.Mode) (ops : Array Oper) (Q : Exit → Act → World → Prop) (T : Nat → Bool) (S : World → Prop) : Nat → Array Bool → Act → World → Prop
  | 0, listed, a, w => Region.ready md ops listed = [] ∧ Q .normal a w
  | fuel + 1, listed, a, w =>
    (Region.ready md ops listed = [] → Q .normal a w) ∧
    ∀ i ∈ Region.ready md ops listed, wpOp P ops Q i (fun a' w' => (T i = true → S w') ∧ wpAnyT P md ops Q T S fuel (listed.setIfInBounds i true) a' w') a w

theorem wpAny_of_T : ∀ (fuel : Nat) (listed : Array Bool) (a : Act) (w : World), wpAnyT P md ops Q T S fuel listed a w → wpAny P md ops Q fuel listed a w
  | 0, _, _, _, h => h
  | fuel + 1, _, _, _, h => ⟨h.1, fun i hi => wpOp_mono (fun a' w' h' => wpAny_of_T fuel _ a' w' h'.2) (h.2 i hi)⟩


theorem wpAnyT_first {i : Nat} {oi : Oper} {v : Value} {D : Nat → Bool} (hDi : D i = true) (hi : ops[i]? = some oi) (hsel : ∀ (j : Nat) (o : Oper) cs b, ops[j]? = some o → o.op ≠ .select cs b)
    (hcl : ∀ (j : Nat) (oj : Oper), ops[j]? = some oj → D j = true → j ≠ i → ∃ e ∈ oj.after, Region.binds md e = true ∧ D e.on = true)
    (hQ : ∀ c a w, Q (.panic c) (a.put oi.dst v) w → Q (.panic c) a w) :
    ∀ (fuel : Nat) (listed : Array Bool) (a : Act) (w : World),
      (∀ j, D j = true → listed.getD j true = false) →
      (∀ j oj, ops[j]? = some oj → D j = false → listed.getD j true = false → oi.apart ops oj = true ∧ T j = true) →
      i ∈ Region.ready md ops listed → YieldsIf P ops S oi v a → S w →
      wpAnyT P md ops Q T S fuel (listed.setIfInBounds i true) (a.put oi.dst v) w → wpAnyT P md ops Q T S (fuel + 1) listed a w := by
  intro fuel
  induction fuel with
  | zero =>
    intro listed a w _ _ hr hy hS H
    refine ⟨fun h => (by rw [h] at hr; cases hr), fun j hj => ?_⟩
    by_cases hji : j = i
    · subst hji; exact hy.wpOp hi hS ⟨fun _ => hS, H⟩
    · have := ready_mono hj hji
      rw [H.1] at this
      cases this
  | succ fuel ih =>
    intro listed a w hun hfree hr hy hS H
    refine ⟨fun h => (by rw [h] at hr; cases hr), fun j hj => ?_⟩
    by_cases hji : j = i
    · subst hji; exact hy.wpOp hi hS ⟨fun _ => hS, H⟩
    · have h1 := H.2 j (ready_mono hj hji)
      obtain ⟨hjun, oj, hoj, hall⟩ := mem_ready.1 hj
      have hDj : D j = false := by
        cases hD : D j with
        | false => rfl
        | true =>
          obtain ⟨e, he, hb, hDe⟩ := hcl j oj hoj hD hji
          have h1 := hall e he hb
          have h0 := hun _ hDe
          rcases Nat.lt_or_ge e.on listed.size with h' | h'
          · simp [h'] at h0 h1; rw [h0] at h1; cases h1
          · simp [Array.getElem?_eq_none h'] at h1
      obtain ⟨hap, hT⟩ := hfree j oj hoj hDj hjun
      have h2 := wpOp_putIf hoj hap (fun cs b => hsel i oi cs b hi) (fun cs b => hsel j oj cs b hoj) hQ hy h1
      refine wpOp_mono (fun a' w' h3 => ⟨h3.2.1, ih (listed.setIfInBounds j true) a' w' (fun k hk => ?_) (fun k ok hk hDk hunk => ?_) (ready_mono hr (Ne.symm hji)) h3.1 (h3.2.1 hT) ?_⟩) h2
      · have hne : j ≠ k := by rintro rfl; rw [hDj] at hk; cases hk
        rw [getD_set_ne true hne]
        exact hun k hk
      · refine hfree k ok hk hDk ?_
        by_cases hjk : j = k
        · subst hjk; exact hjun
        · rw [getD_set_ne true hjk] at hunk; exact hunk
      · rw [Array.setIfInBounds_comm _ _ hji]
        exact h3.2.2

/-- What waits for i, directly or through others. -/
def depsAux (md : Region.Mode) (ops : Array Oper) (listed : Array Bool) (i : Nat) : Nat → Array Bool
  | 0 => #[]
  | j + 1 =>
    let D := depsAux md ops listed i j
    D.push (j == i || (!listed.getD j true && ((ops[j]?).map (·.after.any fun e => Region.binds md e && D.getD e.on false)).getD false))
def deps (md : Region.Mode) (ops : Array Oper) (listed : Array Bool) (i : Nat) : Array Bool := depsAux md ops listed i ops.size
/-- Operation i may be taken now. -/
def takeB (md : Region.Mode) (ops : Array Oper) (T : Nat → Bool) (listed : Array Bool) (i : Nat) : Bool :=
  let D := deps md ops listed i
  (Region.ready md ops listed).contains i && D.getD i false &&
  (List.range ops.size).all fun j =>
    (if D.getD j false then !listed.getD j true && (j == i || ((ops[j]?).map (·.after.any fun e => Region.binds md e && D.getD e.on false)).getD false)
     else listed.getD j true || (T j && match ops[i]?, ops[j]? with | some oi, some oj => oi.apart ops oj | _, _ => false))
theorem getD_out {D : Array Bool} {j n : Nat} (h : D.getD j false = true) (hs : D.size ≤ n) : j < n := by
  rcases Nat.lt_or_ge j D.size with h' | h'
  · omega
  · simp [Array.getElem?_eq_none h'] at h
theorem size_depsAux (listed : Array Bool) (i : Nat) : ∀ n, (depsAux md ops listed i n).size = n
  | 0 => rfl
  | n + 1 => by simp [depsAux, size_depsAux listed i n]

theorem take {i : Nat} {oi : Oper} {v : Value} {fuel : Nat} {listed : Array Bool} {a : Act} {w : World} (hi : ops[i]? = some oi) (hs : Region.noSelect ops = true) (hB : takeB md ops T listed i = true)
    (hQ : ∀ c a w, Q (.panic c) (a.put oi.dst v) w → Q (.panic c) a w) (hy : YieldsIf P ops S oi v a) (hS : S w)
    (h : wpAnyT P md ops Q T S fuel (listed.setIfInBounds i true) (a.put oi.dst v) w) : wpAnyT P md ops Q T S (fuel + 1) listed a w := by
  simp only [takeB, Bool.and_eq_true, List.all_eq_true, List.mem_range] at hB
  obtain ⟨⟨h1, h2⟩, h3⟩ := hB
  have hlt : ∀ j, (deps md ops listed i).getD j false = true → j < ops.size := fun j hj => getD_out hj (by rw [deps, size_depsAux]; exact Nat.le_refl _)
  refine wpAnyT_first (D := fun j => (deps md ops listed i).getD j false) h2 hi (Region.noSelect_spec hs) (fun j oj hj hD hne => ?_) hQ fuel listed a w (fun j hD => ?_) (fun j oj hj hD hun => ?_) (by simpa using h1) hy hS h
  · have := h3 j (hlt j hD)
    rw [if_pos hD] at this
    simp only [Bool.and_eq_true, Bool.or_eq_true, beq_iff_eq, hne, false_or, hj, Option.map_some, Option.getD_some] at this
    obtain ⟨e, he, hb⟩ := Array.any_eq_true'.1 this.2
    simp only [Bool.and_eq_true] at hb
    exact ⟨e, he, hb.1, hb.2⟩
  · have := h3 j (hlt j hD)
    rw [if_pos hD] at this
    simp only [Bool.and_eq_true, Bool.not_eq_true'] at this
    exact this.1
  · have := h3 j (Array.getElem?_eq_some_iff.1 hj).1
    rw [if_neg (by rw [hD]; exact Bool.false_ne_true)] at this
    simp only [hun, Bool.false_or, hi, hj, Bool.and_eq_true] at this
    exact ⟨this.2, this.1⟩

/-! ### The rest in the order of the text -/
def lin (md : Region.Mode) (ops : Array Oper) : List Nat → Array Bool → Bool
  | [], listed => (Region.ready md ops listed).isEmpty
  | i :: rest, listed => (Region.ready md ops listed == [i]) && lin md ops rest (listed.setIfInBounds i true)

def seqT (P : Program) (ops : Array Oper) (Q : Exit → Act → World → Prop) (T : Nat → Bool) (S : World → Prop) : List Nat → Act → World → Prop
  | [], a, w => Q .normal a w
  | i :: rest, a, w => wpOp P ops Q i (fun a' w' => (T i = true → S w') ∧ seqT P ops Q T S rest a' w') a w

theorem of_lin : ∀ (rest : List Nat) (fuel : Nat) (listed : Array Bool) (a : Act) (w : World), lin md ops rest listed = true → rest.length ≤ fuel →
    seqT P ops Q T S rest a w → wpAnyT P md ops Q T S fuel listed a w
  | [], 0, _, _, _, hl, _, h => ⟨by simpa [lin] using hl, h⟩
  | [], _ + 1, listed, _, _, hl, _, h => ⟨fun _ => h, fun i hi => by
      have hl' : Region.ready md ops listed = [] := by simpa [lin] using hl
      rw [hl'] at hi; cases hi⟩
  | i :: rest, 0, _, _, _, _, hf, _ => by simp at hf
  | i :: rest, fuel + 1, listed, a, w, hl, hf, h => by
    simp only [lin, Bool.and_eq_true, beq_iff_eq] at hl
    refine ⟨fun h0 => (by rw [hl.1] at h0; cases h0), fun j hj => ?_⟩
    rw [hl.1, List.mem_singleton] at hj
    subst hj
    exact wpOp_mono (fun a' w' h' => ⟨h'.1, of_lin rest fuel _ a' w' hl.2 (by simpa using hf) h'.2⟩) h

theorem seqT_plain {i : Nat} {o : Oper} {rest : List Nat} {a : Act} {w : World} (hi : ops[i]? = some o) (hT : T i = false)
    (h : wpList P ops (Exit.then (fun a w => seqT P ops Q T S rest a w) Q) [o] a w) : seqT P ops Q T S (i :: rest) a w := by
  show wpOp P ops Q i _ a w
  unfold wpOp
  simp only [hi]
  unfold wpList at h
  split
  · rename_i hw
    rw [if_pos hw] at h
    rcases h with h | h
    · refine .inl ?_
      unfold Oper.wp at *
      generalize (execOp a.eval o).run P w = r at *
      cases r with
      | ok x w' => cases x <;> simp only [Oper.upon, wpList, Exit.then] at h ⊢ <;> first
        | exact ⟨fun e => (by rw [hT] at e; cases e), h⟩
        | (refine Calls.mono h fun e w'' he => ?_
           cases e with
           | returned u => exact ⟨fun e => (by rw [hT] at e; cases e), he⟩
           | panicked c => exact he
           | outgrown => exact he)
        | exact Rows.mono h fun u w'' he => ⟨fun e => (by rw [hT] at e; cases e), he⟩
        | exact h
      | halt x w' => cases x <;> simp only [Oper.upon, Exit.then] at h ⊢ <;> exact h
    · exact .inr h
  · rename_i hw
    rw [if_neg hw] at h
    exact ⟨fun e => (by rw [hT] at e; cases e), h⟩

theorem seqT_held {i : Nat} {o : Oper} {rest : List Nat} {a : Act} {w : World} (hi : ops[i]? = some o)
    (h : wpList P ops (Exit.then (fun a w => S w ∧ seqT P ops Q T S rest a w) Q) [o] a w) : seqT P ops Q T S (i :: rest) a w := by
  show wpOp P ops Q i _ a w
  unfold wpOp
  simp only [hi]
  unfold wpList at h
  split
  · rename_i hw
    rw [if_pos hw] at h
    rcases h with h | h
    · refine .inl ?_
      unfold Oper.wp at *
      generalize (execOp a.eval o).run P w = r at *
      cases r with
      | ok x w' => cases x <;> simp only [Oper.upon, wpList, Exit.then] at h ⊢ <;> first
        | exact ⟨fun _ => h.1, h.2⟩
        | (refine Calls.mono h fun e w'' he => ?_
           cases e with
           | returned u => exact ⟨fun _ => he.1, he.2⟩
           | panicked c => exact he
           | outgrown => exact he)
        | exact Rows.mono h fun u w'' he => ⟨fun _ => he.1, he.2⟩
        | exact h
      | halt x w' => cases x <;> simp only [Oper.upon, Exit.then] at h ⊢ <;> exact h
    · exact .inr h
  · rename_i hw
    rw [if_neg hw] at h
    exact ⟨fun _ => h.1, h.2⟩

theorem seqT_tail : ∀ (rest : List Nat) (os : List Oper), rest.map (ops[·]?) = os.map some → (rest.all fun i => !T i) = true → ∀ (a : Act) (w : World),
    wpList P ops Q os a w → seqT P ops Q T S rest a w
  | [], [], _, _, _, _, h => h
  | [], _ :: _, h, _, _, _, _ => by simp at h
  | _ :: _, [], h, _, _, _, _ => by simp at h
  | i :: rest, o :: os, he, ht, a, w, h => by
    simp only [List.map_cons, List.cons.injEq] at he
    simp only [List.all_cons, Bool.and_eq_true, Bool.not_eq_true'] at ht
    have hm : wpOp P ops Q i (wpList P ops Q os) a w := by
      unfold wpOp
      simp only [he.1]
      exact h
    exact wpOp_mono (fun a' w' h' => ⟨fun e => (by rw [ht.1] at e; cases e), seqT_tail rest os he.2 ht.2 a' w' h'⟩) hm


/-- The quiet ones, then the rest in the order of the text. -/
def seqQ (P : Program) (ops : Array Oper) (Q : Exit → Act → World → Prop) (T : Nat → Bool) (S : World → Prop) (acts : List Nat) : List Nat → Act → World → Prop
  | [], a, w => seqT P ops Q T S acts a w
  | i :: rest, a, w => ∃ oi v, ops[i]? = some oi ∧ YieldsIf P ops S oi v a ∧ (∀ c a w, Q (.panic c) (a.put oi.dst v) w → Q (.panic c) a w) ∧ seqQ P ops Q T S acts rest (a.put oi.dst v) w
def okQ (md : Region.Mode) (ops : Array Oper) (T : Nat → Bool) (acts : List Nat) : List Nat → Array Bool → Bool
  | [], listed => lin md ops acts listed
  | i :: rest, listed => takeB md ops T listed i && okQ md ops T acts rest (listed.setIfInBounds i true)
theorem of_seqQ (hs : Region.noSelect ops = true) {acts : List Nat} : ∀ (qs : List Nat) (fuel : Nat) (listed : Array Bool) (a : Act) (w : World), okQ md ops T acts qs listed = true → qs.length + acts.length ≤ fuel → S w →
    seqQ P ops Q T S acts qs a w → wpAnyT P md ops Q T S fuel listed a w
  | [], fuel, listed, a, w, hk, hf, _, h => of_lin acts fuel listed a w hk (by simpa using hf) h
  | i :: qs, 0, _, _, _, _, hf, _, _ => by simp at hf
  | i :: qs, fuel + 1, listed, a, w, hk, hf, hS, h => by
    simp only [okQ, Bool.and_eq_true] at hk
    obtain ⟨oi, v, h1, h2, h3, h4⟩ := h
    exact take h1 hs hk.1 h3 h2 hS (of_seqQ hs qs fuel _ _ w hk.2 (by simp only [List.length_cons] at hf; omega) hS h4)
theorem quiet_step {acts rest : List Nat} {i : Nat} {oi : Oper} {v : Value} {a : Act} {w : World} (hi : ops[i]? = some oi) (hQ : ∀ c a w, Q (.panic c) (a.put oi.dst v) w → Q (.panic c) a w) (hw : Region.wanted oi (yielded ops a.tmps) = true) (hy : ∀ w, S w → (execOp a.eval oi).run P w = .ok (.value v) w)
    (h : seqQ P ops Q T S acts rest (a.put oi.dst v) w) : seqQ P ops Q T S acts (i :: rest) a w := ⟨oi, v, hi, .inl ⟨hw, hy⟩, hQ, h⟩

/-- THE BEGINNING, at large. -/
theorem region {id : Nat} {a : Act} {w : World} (T : Nat → Bool) (S : World → Prop) (hm : P.follows .mixedOrders = true)
    (h : wpAnyT P .any ops Q T S ops.size (Array.replicate ops.size false) a w.drew) : (Code.region id ops true).wp P Q a w :=
  wp_region_any hm (wpAny_of_T _ _ _ _ h)

/-- No way out by a panic. -/
def NP (Q : Exit → Act → World → Prop) : Exit → Act → World → Prop
  | .panic _, _, _ => False
  | e, a, w => Q e a w
/-- THE BEGINNING, where nothing panics. -/
theorem region_np {id : Nat} {a : Act} {w : World} (T : Nat → Bool) (S : World → Prop) (hm : P.follows .mixedOrders = true)
    (h : wpAnyT P .any ops (NP Q) T S ops.size (Array.replicate ops.size false) a w.drew) : (Code.region id ops true).wp P Q a w :=
  Code.wp_mono (fun e a w q => by cases e <;> first | exact q | exact q.elim) (region (Q := NP Q) T S hm h)


/-- A region that draws, nothing of which panics. -/
theorem region_seq {id : Nat} {a : Act} {w : World} (T : Nat → Bool) (S : World → Prop) (qs acts : List Nat) (hm : P.follows .mixedOrders = true) (hs : Region.noSelect ops = true)
    (hk : okQ .any ops T acts qs (Array.replicate ops.size false) = true) (hl : qs.length + acts.length ≤ ops.size) (hS : S w.drew)
    (h : seqQ P ops (NP Q) T S acts qs a w.drew) : (Code.region id ops true).wp P Q a w :=
  region_np T S hm (of_seqQ hs qs _ _ _ _ hk hl hS h)
end Go.RegT
namespace Go.RegT
open Go Go.RowKit
variable {P : Program} {ops : Array Oper} {md : Region.Mode} {Q : Exit → Act → World → Prop} {T : Nat → Bool} {S : World → Prop}

def seqM (P : Program) (ops : Array Oper) (Q : Exit → Act → World → Prop) (T : Nat → Bool) (S : World → Prop) : List (Bool × Nat) → Act → World → Prop
  | [], a, w => Q .normal a w
  | (false, i) :: rest, a, w => wpOp P ops Q i (fun a' w' => (T i = true → S w') ∧ seqM P ops Q T S rest a' w') a w
  | (true, i) :: rest, a, w => S w ∧ ∃ oi v, ops[i]? = some oi ∧ YieldsIf P ops S oi v a ∧ (∀ c a w, Q (.panic c) (a.put oi.dst v) w → Q (.panic c) a w) ∧ seqM P ops Q T S rest (a.put oi.dst v) w
def okM (md : Region.Mode) (ops : Array Oper) (T : Nat → Bool) : List (Bool × Nat) → Array Bool → Bool
  | [], listed => (Region.ready md ops listed).isEmpty
  | (false, i) :: rest, listed => (Region.ready md ops listed == [i]) && okM md ops T rest (listed.setIfInBounds i true)
  | (true, i) :: rest, listed => takeB md ops T listed i && okM md ops T rest (listed.setIfInBounds i true)
theorem of_seqM (hs : Region.noSelect ops = true) : ∀ (l : List (Bool × Nat)) (fuel : Nat) (listed : Array Bool) (a : Act) (w : World), okM md ops T l listed = true → l.length ≤ fuel →
    seqM P ops Q T S l a w → wpAnyT P md ops Q T S fuel listed a w
  | [], 0, _, _, _, hl, _, h => ⟨by simpa [okM] using hl, h⟩
  | [], _ + 1, listed, _, _, hl, _, h => ⟨fun _ => h, fun i hi => by
      have hl' : Region.ready md ops listed = [] := by simpa [okM] using hl
      rw [hl'] at hi; cases hi⟩
  | _ :: _, 0, _, _, _, _, hf, _ => by simp at hf
  | (false, i) :: rest, fuel + 1, listed, a, w, hl, hf, h => by
    simp only [okM, Bool.and_eq_true, beq_iff_eq] at hl
    refine ⟨fun h0 => (by rw [hl.1] at h0; cases h0), fun j hj => ?_⟩
    rw [hl.1, List.mem_singleton] at hj
    subst hj
    exact wpOp_mono (fun a' w' h' => ⟨h'.1, of_seqM hs rest fuel _ a' w' hl.2 (by simpa using hf) h'.2⟩) h
  | (true, i) :: rest, fuel + 1, listed, a, w, hl, hf, h => by
    simp only [okM, Bool.and_eq_true] at hl
    obtain ⟨hS, oi, v, h1, h2, h3, h4⟩ := h
    exact take h1 hs hl.1 h3 h2 hS (of_seqM hs rest fuel _ _ w hl.2 (by simp only [List.length_cons] at hf; omega) h4)
theorem seqM_quiet {rest : List (Bool × Nat)} {i : Nat} {oi : Oper} {v : Value} {a : Act} {w : World} (hS : S w) (hi : ops[i]? = some oi) (hQ : ∀ c a w, Q (.panic c) (a.put oi.dst v) w → Q (.panic c) a w) (hw : Region.wanted oi (yielded ops a.tmps) = true) (hy : ∀ w, S w → (execOp a.eval oi).run P w = .ok (.value v) w)
    (h : seqM P ops Q T S rest (a.put oi.dst v) w) : seqM P ops Q T S ((true, i) :: rest) a w := ⟨hS, oi, v, hi, .inl ⟨hw, hy⟩, hQ, h⟩
theorem seqM_held {i : Nat} {o : Oper} {rest : List (Bool × Nat)} {a : Act} {w : World} (hi : ops[i]? = some o)
    (h : wpList P ops (Exit.then (fun a w => S w ∧ seqM P ops Q T S rest a w) Q) [o] a w) : seqM P ops Q T S ((false, i) :: rest) a w := by
  show wpOp P ops Q i _ a w
  unfold wpOp
  simp only [hi]
  unfold wpList at h
  split
  · rename_i hw
    rw [if_pos hw] at h
    rcases h with h | h
    · refine .inl ?_
      unfold Oper.wp at *
      generalize (execOp a.eval o).run P w = r at *
      cases r with
      | ok x w' => cases x <;> simp only [Oper.upon, wpList, Exit.then] at h ⊢ <;> first
        | exact ⟨fun _ => h.1, h.2⟩
        | (refine Calls.mono h fun e w'' he => ?_
           cases e with
           | returned u => exact ⟨fun _ => he.1, he.2⟩
           | panicked c => exact he
           | outgrown => exact he)
        | exact Rows.mono h fun u w'' he => ⟨fun _ => he.1, he.2⟩
        | exact h
      | halt x w' => cases x <;> simp only [Oper.upon, Exit.then] at h ⊢ <;> exact h
    · exact .inr h
  · rename_i hw
    rw [if_neg hw] at h
    exact ⟨fun _ => h.1, h.2⟩
theorem seqM_end {a : Act} {w : World} (h : Q .normal a w) : seqM P ops Q T S [] a w := h
theorem region_mix {id : Nat} {a : Act} {w : World} (T : Nat → Bool) (S : World → Prop) (l : List (Bool × Nat)) (hm : P.follows .mixedOrders = true) (hs : Region.noSelect ops = true)
    (hk : okM .any ops T l (Array.replicate ops.size false) = true) (hl : l.length ≤ ops.size)
    (h : seqM P ops (NP Q) T S l a w.drew) : (Code.region id ops true).wp P Q a w :=
  region_np T S hm (of_seqM hs l _ _ _ _ hk hl h)
theorem seqM_free {i : Nat} {o : Oper} {rest : List (Bool × Nat)} {a : Act} {w : World} (hi : ops[i]? = some o) (hT : T i = false)
    (h : wpList P ops (Exit.then (fun a w => seqM P ops Q T S rest a w) Q) [o] a w) : seqM P ops Q T S ((false, i) :: rest) a w := by
  show wpOp P ops Q i _ a w
  unfold wpOp
  simp only [hi]
  unfold wpList at h
  split
  · rename_i hw
    rw [if_pos hw] at h
    rcases h with h | h
    · refine .inl ?_
      unfold Oper.wp at *
      generalize (execOp a.eval o).run P w = r at *
      cases r with
      | ok x w' => cases x <;> simp only [Oper.upon, wpList, Exit.then] at h ⊢ <;> first
        | exact ⟨fun ht => (by rw [hT] at ht; cases ht), h⟩
        | (refine Calls.mono h fun e w'' he => ?_
           cases e with
           | returned u => exact ⟨fun ht => (by rw [hT] at ht; cases ht), he⟩
           | panicked c => exact he
           | outgrown => exact he)
        | exact Rows.mono h fun u w'' he => ⟨fun ht => (by rw [hT] at ht; cases ht), he⟩
        | exact h
      | halt x w' => cases x <;> simp only [Oper.upon, Exit.then] at h ⊢ <;> exact h
    · exact .inr h
  · rename_i hw
    rw [if_neg hw] at h
    exact ⟨fun ht => (by rw [hT] at ht; cases ht), h⟩
theorem wpList_end {a : Act} {w : World} (h : Q .normal a w) : wpList P ops Q [] a w := by unfold wpList; exact h
end Go.RegT
