/- A region that draws its order: a given order of its operations, some of which are quiet and come up first of those that are ready, while the others are the only ones that are ready. -/
import Derived.Test.YtnknefdpglnbnaaG
namespace Go.RegT
open Go Go.RowKit
variable {P : Program} {ops : Array Oper} {md : Region.Mode} {Q : Exit → Act → World → Prop} {T : Nat → Bool} {S : World → Prop}

def seqM (P : Program) (ops : Array Oper) (Q : Exit → Act → World → Prop) (T : Nat → Bool) (S : World → Prop) : List (Bool × Nat) → Act → World → Prop
  | [], a, w => Q .normal a w
  | (false, i) :: rest, a, w => wpOp P ops Q i (fun a' w' => (T i = true → S w') ∧ seqM P ops Q T S rest a' w') a w
  | (true, i) :: rest, a, w => S w ∧ ∃ oi v, ops[i]? = some oi ∧ YieldsIf P ops S oi v a ∧ (∀ c a w, Q (.panic c) (a.put oi.dst v) w → Q (.panic c) a w) ∧ seqM P ops Q T S rest (a.put oi.dst v) w
def okM (md : Region.Mode) (ops : Array Oper) (T : Nat → Bool) : List (Bool × Nat) → Array Bool → Bool
  | [], listed => (Region.ready md ops listed).isEmpty
  | (false, i) :: rest, listed => (Region.ready md ops listed == [i]) && okM md ops T rest (listed.setIfInBounds i true)
  | (true, i) :: rest, listed => takeB md ops T listed i && okM md ops T rest (listed.setIfInBounds i true)
theorem of_seqM (hs : Region.noSelect ops = true) : ∀ (l : List (Bool × Nat)) (fuel : Nat) (listed : Array Bool) (a : Act) (w : World), okM md ops T l listed = true → l.length ≤ fuel →
    seqM P ops Q T S l a w → wpAnyT P md ops Q T S fuel listed a w
  | [], 0, _, _, _, hl, _, h => ⟨by simpa [okM] using hl, h⟩
  | [], _ + 1, listed, _, _, hl, _, h => ⟨fun _ => h, fun i hi => by
      have hl' : Region.ready md ops listed = [] := by simpa [okM] using hl
      rw [hl'] at hi; cases hi⟩
  | _ :: _, 0, _, _, _, _, hf, _ => by simp at hf
  | (false, i) :: rest, fuel + 1, listed, a, w, hl, hf, h => by
    simp only [okM, Bool.and_eq_true, beq_iff_eq] at hl
    refine ⟨fun h0 => (by rw [hl.1] at h0; cases h0), fun j hj => ?_⟩
    rw [hl.1, List.mem_singleton] at hj
    subst hj
    exact wpOp_mono (fun a' w' h' => ⟨h'.1, of_seqM hs rest fuel _ a' w' hl.2 (by simpa using hf) h'.2⟩) h
  | (true, i) :: rest, fuel + 1, listed, a, w, hl, hf, h => by
    simp only [okM, Bool.and_eq_true] at hl
    obtain ⟨hS, oi, v, h1, h2, h3, h4⟩ := h
    exact take h1 hs hl.1 h3 h2 hS (of_seqM hs rest fuel _ _ w hl.2 (by simp only [List.length_cons] at hf; omega) h4)
theorem seqM_quiet {rest : List (Bool × Nat)} {i : Nat} {oi : Oper} {v : Value} {a : Act} {w : World} (hS : S w) (hi : ops[i]? = some oi) (hQ : ∀ c a w, Q (.panic c) (a.put oi.dst v) w → Q (.panic c) a w) (hw : Region.wanted oi (yielded ops a.tmps) = true) (hy : ∀ w, S w → (execOp a.eval oi).run P w = .ok (.value v) w)
    (h : seqM P ops Q T S rest (a.put oi.dst v) w) : seqM P ops Q T S ((true, i) :: rest) a w := ⟨hS, oi, v, hi, .inl ⟨hw, hy⟩, hQ, h⟩
theorem seqM_held {i : Nat} {o : Oper} {rest : List (Bool × Nat)} {a : Act} {w : World} (hi : ops[i]? = some o)
    (h : wpList P ops (Exit.then (fun a w => S w ∧ seqM P ops Q T S rest a w) Q) [o] a w) : seqM P ops Q T S ((false, i) :: rest) a w := by
  show wpOp P ops Q i _ a w
  unfold wpOp
  simp only [hi]
  unfold wpList at h
  split
  · rename_i hw
    rw [if_pos hw] at h
    rcases h with h | h
    · refine .inl ?_
      unfold Oper.wp at *
      generalize (execOp a.eval o).run P w = r at *
      cases r with
      | ok x w' => cases x <;> simp only [Oper.upon, wpList, Exit.then] at h ⊢ <;> first
        | exact ⟨fun _ => h.1, h.2⟩
        | (refine Calls.mono h fun e w'' he => ?_
           cases e with
           | returned u => exact ⟨fun _ => he.1, he.2⟩
           | panicked c => exact he
           | outgrown => exact he)
        | exact Rows.mono h fun u w'' he => ⟨fun _ => he.1, he.2⟩
        | exact h
      | halt x w' => cases x <;> simp only [Oper.upon, Exit.then] at h ⊢ <;> exact h
    · exact .inr h
  · rename_i hw
    rw [if_neg hw] at h
    exact ⟨fun _ => h.1, h.2⟩
theorem seqM_end {a : Act} {w : World} (h : Q .normal a w) : seqM P ops Q T S [] a w := h
theorem region_mix {id : Nat} {a : Act} {w : World} (T : Nat → Bool) (S : World → Prop) (l : List (Bool × Nat)) (hm : P.follows .mixedOrders = true) (hs : Region.noSelect ops = true)
    (hk : okM .any ops T l (Array.replicate ops.size false) = true) (hl : l.length ≤ ops.size)
    (h : seqM P ops (NP Q) T S l a w.drew) : (Code.region id ops true).wp P Q a w :=
  region_np T S hm (of_seqM hs l _ _ _ _ hk hl h)
end Go.RegT
