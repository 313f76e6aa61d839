/- A region that draws its order: each of the operations that are ready, in turn. -/
import Derived.Test.YtnknefdpglnbnaaZa
import Derived.Test.YtnknefdpglnbnaaP
namespace Go.RegT
open Go Go.RowKit
variable {P : Program} {ops : Array Oper} {md : Region.Mode} {Q : Exit → Act → World → Prop} {T : Nat → Bool} {S : World → Prop}

theorem any_each {fuel : Nat} {listed : Array Bool} {a : Act} {w : World} (l : List Nat) (hr : Region.ready md ops listed = l) (hne : l.isEmpty = false)
    (h : ∀ i ∈ l, wpOp P ops Q i (fun a' w' => S w' ∧ wpAnyT P md ops Q T S fuel (listed.setIfInBounds i true) a' w') a w) : wpAnyT P md ops Q T S (fuel + 1) listed a w :=
  ⟨fun e => (by rw [hr] at e; subst e; cases hne), fun i hi => wpOp_mono (fun _ _ hh => ⟨fun _ => hh.1, hh.2⟩) (h i (by rw [← hr]; exact hi))⟩
theorem any_done {fuel : Nat} {listed : Array Bool} {a : Act} {w : World} (hr : Region.ready md ops listed = []) (h : Q .normal a w) : wpAnyT P md ops Q T S fuel listed a w := by
  cases fuel with
  | zero => exact ⟨hr, h⟩
  | succ n => exact ⟨fun _ => h, fun i hi => by rw [hr] at hi; cases hi⟩
theorem wpOp_held {i : Nat} {o : Oper} {K : Act → World → Prop} {a : Act} {w : World} (hi : ops[i]? = some o) (h : wpList P ops (Exit.then K Q) [o] a w) : wpOp P ops Q i K a w := by
  unfold wpOp
  simp only [hi]
  unfold wpList at h
  split
  · rename_i hw
    rw [if_pos hw] at h
    rcases h with h | h
    · refine .inl ?_
      unfold Oper.wp at *
      generalize (execOp a.eval o).run P w = r at *
      cases r with
      | ok x w' => cases x <;> simp only [Oper.upon, wpList, Exit.then] at h ⊢ <;> first
        | exact h
        | (refine Calls.mono h fun e w'' he => ?_
           cases e with
           | returned u => exact he
           | panicked c => exact he
           | outgrown => exact he)
        | exact Rows.mono h fun u w'' he => he
      | halt x w' => cases x <;> simp only [Oper.upon, Exit.then] at h ⊢ <;> exact h
    · exact .inr h
  · rename_i hw
    rw [if_neg hw] at h
    exact h
theorem region_each {id : Nat} {a : Act} {w : World} (n : Nat) (T : Nat → Bool) (S : World → Prop) (hn : ops.size = n) (hm : P.follows .mixedOrders = true)
    (h : wpAnyT P .any ops (NP Q) T S n (Array.replicate n false) a w.drew) : (Code.region id ops true).wp P Q a w := by
  subst hn
  exact region_np T S hm h
theorem region_via {id : Nat} {a : Act} {w : World} (n : Nat) (T : Nat → Bool) (S : World → Prop) (J : Act → Act → World → Prop) (hn : ops.size = n) (hm : P.follows .mixedOrders = true)
    (h : wpAnyT P .any ops (NP (fun e a' w' => e = .normal ∧ J a a' w')) T S n (Array.replicate n false) a w.drew) (h2 : ∀ a' w', J a a' w' → Q .normal a' w') : (Code.region id ops true).wp P Q a w :=
  Code.wp_mono (fun _ _ _ q => by obtain ⟨rfl, hj⟩ := q; exact h2 _ _ hj) (region_each (Q := fun e a' w' => e = .normal ∧ J a a' w') n T S hn hm h)
theorem take_step {i : Nat} {oi : Oper} {v : Value} {fuel : Nat} {listed : Array Bool} {a : Act} {w : World} (hi : ops[i]? = some oi) (hs : Region.noSelect ops = true) (hB : takeB md ops T listed i = true)
    (hQ : ∀ c a w, Q (.panic c) (a.put oi.dst v) w → Q (.panic c) a w) (hw : Region.wanted oi (yielded ops a.tmps) = true) (hS : S w) (hy : ∀ w, S w → (execOp a.eval oi).run P w = .ok (.value v) w)
    (h : wpAnyT P md ops Q T S fuel (listed.setIfInBounds i true) (a.put oi.dst v) w) : wpAnyT P md ops Q T S (fuel + 1) listed a w := take hi hs hB hQ (.inl ⟨hw, hy⟩) hS h
end Go.RegT
namespace Go.Proofs.Ytnknefdpglnbnaa
open Go Go.RowKit
theorem wpOp_store {P : Program} {ops : Array Oper} {Q : Exit → Act → World → Prop} {K : Act → World → Prop} {i : Nat} {o : Oper} {a : Act} {w : World} (hi : ops[i]? = some o) (hg : o.guard = Option.none) (T : TypeId) (p v : Operand) (hop : o.op = Op.store T p v)
    (t : TypeInfo) (ht : P.info? T = some t) (b : Nat) (cs : Array Value) (hp : a.eval p = .pointer (some ⟨b, 0, Option.none⟩)) (hv : a.eval v = .agg cs) (Tb : TypeId) (cur : Array Value) (hB : BlkN w b Tb cur) (hn : cs.size = t.size) (hc : cur.size = cs.size) (h1 : ∀ u ∈ cs.toList, u.oneCell' = true)
    (h : ∀ w', BlkN w' b Tb cs → But b w w' → K (a.put o.dst undef) w') : wpOp P ops Q i K a w :=
  RegT.wpOp_held hi (wpList_store_blk hg T p v hop t ht b cs hp hv Tb cur hB hn hc h1 fun w' k1 k2 => by unfold wpList; exact h w' k1 k2)
end Go.Proofs.Ytnknefdpglnbnaa
