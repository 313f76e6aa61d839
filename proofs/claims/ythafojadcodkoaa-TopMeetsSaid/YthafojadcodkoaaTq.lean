/- slices.Clone of code, expressions, names; ownExpr (carried over). -/
import Derived.Test.YthafojadcodkoaaTo
import Derived.Test.YthafojadcodkoaaTc
import Derived.Test.YthafojadcodkoaaRt
import Derived.WalkSpells
import Derived.Deep.Cut
namespace Go.Proofs.Ythafojadcodkoaa
open Go.RowKit

theorem At.four {w : World} {b o : Nat} {c0 c1 c2 c3 : Value} (h : At w b o [c0, c1, c2, c3]) :
    w.cell? ⟨b, o, Option.none⟩ = some c0 ∧ w.cell? ⟨b, o + 1, Option.none⟩ = some c1 ∧ w.cell? ⟨b, o + 2, Option.none⟩ = some c2 ∧ w.cell? ⟨b, o + 3, Option.none⟩ = some c3 :=
  ⟨h 0 _ rfl, h 1 _ rfl, h 2 _ rfl, h 3 _ rfl⟩
theorem Blk.at_ {w : World} {b : Nat} (h : b = w.heap.size) (T : TypeId) (v : Value) : Blk (w.alloc (.cells #[v] T)) b T v := h ▸ Blk.new w T v
theorem IsVaR.other {w w' : World} {lo rb : Nat} {v : Value} {x : Va} (h : IsVaR w (Own34 w lo) v x) (hk : ∀ k, k ≠ rb → w'.heap[k]? = w.heap[k]?) (hlo : rb < lo) : IsVaR w' (Own34 w' lo) v x := by
  have hk' : ∀ b o, Own34 w lo b o → w'.heap[b]? = w.heap[b]? := fun b o hr => hk b (by have := hr.1; omega)
  exact (h.keep hk').mono (fun b o hr => ⟨hr.1, hr.2.1, let ⟨cur, hc⟩ := hr.2.2; ⟨cur, (hk' b o hr).trans hc⟩⟩)
theorem IsVaR.low {w : World} {lo lo' : Nat} {v : Value} {x : Va} (h : IsVaR w (Own34 w lo) v x) (hl : lo' ≤ lo) : IsVaR w (Own34 w lo') v x := h.mono (fun _b _o hr => Own34.low hr hl)
theorem info9 : (Try.prog.info? 9).map (fun i => (i.zero, i.size, i.bytes)) = some (some (.string ⟨#[]⟩), 1, 16) := by kernel_rfl

/-- Blocks that came in (below B), or that are new (from lo on). -/
def RN (B lo : Nat) (w : World) (b _o : Nat) : Prop := (b < B ∨ lo ≤ b) ∧ b < w.heap.size
theorem RN.low {B lo lo' : Nat} {w : World} {b o : Nat} (h : RN B lo w b o) (hl : lo' ≤ lo) : RN B lo' w b o := ⟨h.1.imp id fun h => Nat.le_trans hl h, h.2⟩
/-- A reading of an element's cells that looks at the blocks of R alone. -/
structure Rd (α : Type) where
  P : World → (Nat → Nat → Prop) → List Value → α → Prop
  keep : ∀ {w w' : World} {R : Nat → Nat → Prop} {cs : List Value} {x : α}, (∀ b o, R b o → w'.heap[b]? = w.heap[b]?) → P w R cs x → P w' R cs x
  mono : ∀ {w : World} {R R' : Nat → Nat → Prop} {cs : List Value} {x : α}, (∀ b o, R b o → R' b o) → P w R cs x → P w R' cs x
/-- Expressions. -/
def RdE : Rd Ex where
  P := fun w R cs x => ∃ c0 c1 c2 c3, cs = [c0, c1, c2, c3] ∧ IsExR w R (.agg #[c0, c1, c2, c3]) x
  keep := fun hk ⟨c0, c1, c2, c3, h1, h2⟩ => ⟨c0, c1, c2, c3, h1, h2.keep hk⟩
  mono := fun hk ⟨c0, c1, c2, c3, h1, h2⟩ => ⟨c0, c1, c2, c3, h1, h2.mono hk⟩
theorem RdE.list {w : World} {R : Nat → Nat → Prop} {b : Nat} : ∀ {o : Nat} {l : List Ex}, (∀ (i : Nat) (hi : i < l.length), ∃ cs : List Value, cs.length = 4 ∧ At w b (o + i * 4) cs ∧ RdE.P w R cs l[i]) → IsExsR w R b o l
  | _, [], _ => by unfold IsExsR; trivial
  | o, x :: l, h => by
    unfold IsExsR
    refine ⟨?_, RdE.list fun i hi => ?_⟩
    · obtain ⟨cs, _, h2, c0, c1, c2, c3, rfl, h3⟩ := h 0 (by simp)
      exact ⟨c0, c1, c2, c3, by simpa using h2, h3⟩
    · have := h (i + 1) (by simpa using hi)
      rw [show o + (i + 1) * 4 = o + 4 + i * 4 by omega] at this
      exact this

theorem IsVaR.lt {B lo : Nat} {w : World} {v : Value} {x : Va} (h : IsVaR w (RN B lo w) v x) : IsVa w w.heap.size v x := h.mono fun _ _ hr => hr.2
theorem wpList_load_blk {P : Program} {w : World} {ops : Array Oper} {rest : List Oper} {o : Oper} {a : Act} {Q : Exit → Act → World → Prop} (hg : o.guard = Option.none) (T : TypeId) (p : Operand) (hop : o.op = Op.load T p) (q : Addr) (hp : a.eval p = .pointer (some q)) (v : Value)
    (hl : (loadVar T q).run P w = .ok v w) (h : wpList P ops Q rest (a.put o.dst v) w) : wpList P ops Q (o :: rest) a w := by
  refine wpList_plain hg fun K hK => ?_
  unfold Oper.wp
  simp [execOp, hop, hp, Instr.loadAt, Instr.sureAddr, hl, Result.andThen]
  exact hK _ _ h

/-- New memory that may be written. -/
def OwnU (lo : Nat) (w : World) (b _o : Nat) : Prop := lo ≤ b ∧ ∃ (cur : Array Value) (T : TypeId), w.heap[b]? = some (.cells cur T (0, 0))
theorem OwnU.lt {lo : Nat} {w : World} {b o : Nat} (h : OwnU lo w b o) : b < w.heap.size := by obtain ⟨_, cur, T, h⟩ := h; exact lt_of_block h
theorem OwnU.below {lo : Nat} {w w' : World} {b o : Nat} (h : OwnU lo w b o) (hb : Below w.heap.size w w') : OwnU lo w' b o := by
  have hl := h.lt
  obtain ⟨h1, cur, T, h2⟩ := h
  exact ⟨h1, cur, T, (hb.block b hl).trans h2⟩
theorem OwnU.low {lo lo' : Nat} {w : World} {b o : Nat} (h : OwnU lo w b o) (hl : lo' ≤ lo) : OwnU lo' w b o := ⟨Nat.le_trans hl h.1, h.2⟩
theorem OwnU.of {lo : Nat} {w w' : World} {b o : Nat} (h : OwnU lo w b o) (hb : w'.heap[b]? = w.heap[b]?) : OwnU lo w' b o := by
  obtain ⟨h1, cur, T, h2⟩ := h
  exact ⟨h1, cur, T, hb.trans h2⟩
theorem IsExR.shape {w : World} {R : Nat → Nat → Prop} {v : Value} {x : Ex} (h : IsExR w R v x) : ∃ k n s A len cap, v = .agg #[.int .u8 k, .int .i64 n, .string s, .slice A len cap] := by
  obtain ⟨k, n, s, l⟩ := x
  obtain ⟨_, _, _, _, A, cap, _, h6, _⟩ := h.form
  exact ⟨k, n, s, A, _, cap, h6⟩
theorem info26 : (Try.prog.info? 109).map (fun i => (i.zero, i.size, i.bytes)) = some (some (.agg #[.int .u8 0, .int .i64 0, .string ⟨#[]⟩, .slice Option.none 0 0]), 4, 56) := by kernel_rfl
theorem IsSsR_of_own {w : World} {base : Nat} {v : Value} {n : Nat} {ss : List ByteArray} (h : w.ownsRow base 9 1 v n (ss.map Value.string)) (hl : ss.length * 16 ≤ 140737488351232) (hs : ∀ s ∈ ss, s.size ≤ 140737488351232) : IsSsR w (OwnU base w) v ss := by
  have hn : ss.length = n := by have := h.1; simpa using this
  refine ⟨hl, hs, ?_⟩
  rcases h.2 with ⟨rfl, h0⟩ | ⟨g, cap, cur, rfl, hb, hg, hc, _, hcs, htake⟩
  · refine ⟨Option.none, 0, by omega, by rw [hn, h0], fun hne => absurd (List.length_eq_zero_iff.1 (by omega)) hne⟩
  · refine ⟨some ⟨g, 0, Option.none⟩, cap, by omega, by rw [hn], fun _ => ⟨g, 0, ⟨hb, cur, 9, hg⟩, rfl, fun i hi => ?_⟩⟩
    have := h.cellAt i (by omega)
    simp only [Nat.zero_add]
    rw [this, List.getElem?_map, List.getElem?_eq_getElem hi]
    rfl
/-- A part of a block that is known whole, stored. -/
theorem wpList_store_part {P : Program} {w : World} {ops : Array Oper} {rest : List Oper} {o : Oper} {a : Act} {Q : Exit → Act → World → Prop} (hg : o.guard = Option.none) (T : TypeId) (p v : Operand) (hop : o.op = Op.store T p v)
    (i : TypeInfo) (hi : P.info? T = some i) (b off : Nat) (x : Value) (cs : List Value) (hp : a.eval p = .pointer (some ⟨b, off, Option.none⟩)) (hv : a.eval v = x) (hx : x.cells.toList = cs) (Tb : TypeId) (cur nw : Array Value) (hB : BlkN w b Tb cur) (hn : cs.length = i.size) (hc : off + cs.length ≤ cur.size) (h1 : ∀ u ∈ cs, u.oneCell' = true)
    (hnw : cur.toList.take off ++ cs ++ cur.toList.drop (off + cs.length) = nw.toList)
    (h : ∀ w', BlkN w' b Tb nw → But b w w' → wpList P ops Q rest (a.put o.dst undef) w') : wpList P ops Q (o :: rest) a w := by
  refine wpList_plain hg fun K hK => ?_
  have hst := run_storeCells_at (P := P) b off Tb cs 0 cur w hB (by omega) h1
  rw [Nat.add_zero, hnw, Array.toArray_toList] at hst
  have hr : (storeVar T ⟨b, off, Option.none⟩ x).run P w = .ok () (w.setRow b nw) := by
    have hsz : x.cells.size = i.size := by rw [← Array.length_toList, hx, hn]
    simp [storeVar, sizeOf, typeInfo, hi, hsz, hx, hst]
  unfold Oper.wp
  simp [execOp, hop, hp, hv, Instr.storeAt, Instr.sureAddr, hr, Result.andThen]
  exact hK _ _ (h _ (setRow_heap w b cur nw Tb (0, 0) hB) ⟨rfl, rfl, rfl, by simp [World.setRow], fun k hk => setRow_other w b k nw hk⟩)
/-- Statements. -/
def RdS : Rd St where
  P := fun w R cs x => ∃ s : SV, cs = s.arr.toList ∧ IsStR w R s x
  keep := fun hk ⟨s, h1, h2⟩ => ⟨s, h1, h2.keep hk⟩
  mono := fun hk ⟨s, h1, h2⟩ => ⟨s, h1, h2.mono hk⟩
theorem RdS.list {w : World} {R : Nat → Nat → Prop} {b : Nat} : ∀ {o : Nat} {l : List St}, (∀ (i : Nat) (hi : i < l.length), ∃ cs : List Value, cs.length = 17 ∧ At w b (o + i * 17) cs ∧ RdS.P w R cs l[i]) → IsStsR w R b o l
  | _, [], _ => by unfold IsStsR; trivial
  | o, x :: l, h => by
    unfold IsStsR
    refine ⟨?_, RdS.list fun i hi => ?_⟩
    · obtain ⟨cs, _, h2, s, rfl, h3⟩ := h 0 (by simp)
      exact ⟨s, by simpa using h2, h3⟩
    · have := h (i + 1) (by simpa using hi)
      rw [show o + (i + 1) * 17 = o + 17 + i * 17 by omega] at this
      exact this

theorem exU {lo p : Nat} {w w' : World} {v : Value} {x : Ex} (h : IsExR w (OwnU lo w) v x) (hu : Upd p w w') (hp : p < lo) : IsExR w' (OwnU lo w') v x :=
  IsExR.mono (fun b o hr => hr.of (hu.block b hr.lt (by have := hr.1; omega))) (IsExR.keep (fun b o hr => hu.block b hr.lt (by have := hr.1; omega)) h)
theorem exU.low {lo lo' : Nat} {w : World} {v : Value} {x : Ex} (h : IsExR w (OwnU lo w) v x) (hl : lo' ≤ lo) : IsExR w (OwnU lo' w) v x := IsExR.mono (fun _b _o hr => hr.low hl) h

/-- v is a row of n elements of the call's own, of whose cells P holds. -/
def NRg (E : TypeId) (sz : Nat) (w : World) (lo : Nat) (v : Value) (n : Nat) (P : Nat → List Value → Prop) : Prop :=
  ∃ xs, w.ownsRow lo E sz v n xs ∧ ∀ i, i < n → ∃ cs : List Value, cs.length = sz ∧ (∀ q u, cs[q]? = some u → xs[i * sz + q]? = some u) ∧ P i cs
section
variable {E : TypeId} {sz : Nat} {w w' : World} {lo : Nat} {v : Value} {n : Nat} {P Q : Nat → List Value → Prop}
theorem NRg.imp (h : NRg E sz w lo v n P) (k : ∀ i cs, i < n → P i cs → Q i cs) : NRg E sz w lo v n Q := by
  obtain ⟨xs, h1, h2⟩ := h
  exact ⟨xs, h1, fun i hi => by obtain ⟨cs, g1, g2, g3⟩ := h2 i hi; exact ⟨cs, g1, g2, k i cs hi g3⟩⟩
theorem NRg.below (h : NRg E sz w lo v n P) (hb : Below w.heap.size w w') : NRg E sz w' lo v n P := by
  obtain ⟨xs, h1, h2⟩ := h
  exact ⟨xs, own_below h1 hb, h2⟩
theorem NRg.upd {p : Nat} (h : NRg E sz w lo v n P) (hu : Upd p w w') (hp : p < lo) : NRg E sz w' lo v n P := by
  obtain ⟨xs, h1, h2⟩ := h
  exact ⟨xs, own_upd h1 hu hp, h2⟩
theorem NRg.open (h : NRg E sz w lo v n P) (hn : 0 < n) :
    ∃ g cap cur, v = .slice (some ⟨g, 0, Option.none⟩) n cap ∧ lo ≤ g ∧ BlkN w g E cur ∧ n ≤ cap ∧ cur.size = cap * sz ∧ ∀ i, i < n → ∃ cs : List Value, cs.length = sz ∧ At w g (i * sz) cs ∧ P i cs := by
  obtain ⟨xs, h1, h2⟩ := h
  have hc := fun g hg => h1.cells (g := g) hg
  rcases h1.2 with ⟨_, h0⟩ | ⟨g, cap, cur, rfl, hb, hg, hcap, _, hcs, _⟩
  · omega
  · refine ⟨g, cap, cur, rfl, hb, hg, hcap, hcs, fun i hi => ?_⟩
    obtain ⟨cs, g1, g2, g3⟩ := h2 i hi
    refine ⟨cs, g1, fun q u hu => ?_, g3⟩
    have := hc g rfl (i * sz + q) u (g2 q u hu)
    rw [add_lit] at this
    exact this
theorem NRg.val (h : NRg E sz w lo v n P) : ∃ A cap, v = .slice A n cap ∧ n ≤ cap := by
  obtain ⟨xs, h1, _⟩ := h
  rcases h1.2 with ⟨rfl, h0⟩ | ⟨g, cap, cur, rfl, _, _, hcap, _⟩
  · exact ⟨Option.none, 0, by rw [h0], by omega⟩
  · exact ⟨_, cap, rfl, hcap⟩
/-- An element of the row, stored whole. -/
theorem NRg.store {g cap : Nat} {cur nw : Array Value} {cs : List Value} (h : NRg E sz w lo (.slice (some ⟨g, 0, Option.none⟩) n cap) n P) (i : Nat) (hi : i < n) (hl : cs.length = sz) (hB : BlkN w g E cur) (hB' : BlkN w' g E nw)
    (hnw : cur.toList.take (i * sz) ++ cs ++ cur.toList.drop (i * sz + cs.length) = nw.toList) (hQ : ∀ j ds, j ≠ i → j < n → P j ds → Q j ds) (hi' : Q i cs) : NRg E sz w' lo (.slice (some ⟨g, 0, Option.none⟩) n cap) n Q := by
  obtain ⟨xs, h1, h2⟩ := h
  rcases h1.2 with ⟨hv, _⟩ | ⟨g', cap', cur', hv, hb, hg, hcap, hcm, hcs, htake⟩
  · cases hv
  · simp only [Value.slice.injEq, Option.some.injEq, Addr.mk.injEq, and_true] at hv
    obtain ⟨rfl, _, rfl⟩ := hv
    have hcc : cur' = cur := by
      have h3 : BlkN w g E cur' := hg
      unfold BlkN at h3 hB
      rw [hB] at h3
      cases h3
      rfl
    subst hcc
    have hn : n * sz ≤ cur'.size := by rw [hcs]; exact Nat.mul_le_mul_right sz hcap
    have hin : i * sz + sz ≤ n * sz := by
      have : (i + 1) * sz ≤ n * sz := Nat.mul_le_mul_right sz hi
      rw [Nat.add_mul, Nat.one_mul] at this
      exact this
    have hsz : nw.size = cur'.size := by
      rw [← Array.length_toList, ← hnw]
      simp
      omega
    refine ⟨nw.toList.take (n * sz), ⟨by simp; omega, .inr ⟨g, cap, nw, rfl, hb, hB', hcap, hcm, by rw [hsz, hcs], rfl⟩⟩, fun j hj => ?_⟩
    have hjn : j * sz + sz ≤ n * sz := by
      have : (j + 1) * sz ≤ n * sz := Nat.mul_le_mul_right sz hj
      rw [Nat.add_mul, Nat.one_mul] at this
      exact this
    obtain ⟨ds, g1, g2, g3⟩ := h2 j hj
    by_cases e : j = i
    · subst e
      refine ⟨cs, hl, fun q u hu => ?_, hi'⟩
      have hq : q < cs.length := (List.getElem?_eq_some_iff.1 hu).1
      rw [List.getElem?_take, if_pos (by omega), ← hnw, List.append_assoc, List.getElem?_append_right (by simp; omega), List.getElem?_append_left (by simp; omega)]
      have : j * sz + q - (cur'.toList.take (j * sz)).length = q := by simp; omega
      rw [this]
      exact hu
    · refine ⟨ds, g1, fun q u hu => ?_, hQ j ds e hj g3⟩
      have hq : q < sz := by have := (List.getElem?_eq_some_iff.1 hu).1; omega
      have h0 := g2 q u hu
      rw [← htake, List.getElem?_take, if_pos (by omega)] at h0
      rw [List.getElem?_take, if_pos (by omega), ← hnw]
      by_cases hlt : j < i
      · have hji : j * sz + sz ≤ i * sz := by
          have : (j + 1) * sz ≤ i * sz := Nat.mul_le_mul_right sz hlt
          rw [Nat.add_mul, Nat.one_mul] at this
          exact this
        rw [List.append_assoc, List.getElem?_append_left (by simp; omega), List.getElem?_take, if_pos (by omega)]
        exact h0
      · have hji : i * sz + sz ≤ j * sz := by
          have : (i + 1) * sz ≤ j * sz := Nat.mul_le_mul_right sz (by omega)
          rw [Nat.add_mul, Nat.one_mul] at this
          exact this
        rw [List.getElem?_append_right (by simp; omega), List.getElem?_drop]
        have : i * sz + cs.length + (j * sz + q - (cur'.toList.take (i * sz) ++ cs).length) = j * sz + q := by simp; omega
        rw [this]
        exact h0
end

theorem rows_cells {α : Type} {D : Rd α} {sz : Nat} {w : World} {R : Nat → Nat → Prop} {b : Nat} : ∀ (l : List α) (o : Nat), (∀ (i : Nat) (hi : i < l.length), ∃ cs : List Value, cs.length = sz ∧ At w b (o + i * sz) cs ∧ (∀ u ∈ cs, u.oneCell' = true) ∧ D.P w R cs l[i]) →
    ∃ xs : List Value, xs.length = l.length * sz ∧ (∀ q u, xs[q]? = some u → w.cell? ⟨b, o + q, Option.none⟩ = some u) ∧ (∀ u ∈ xs, u.oneCell' = true) ∧ ∀ (i : Nat) (hi : i < l.length), ∃ cs : List Value, cs.length = sz ∧ (∀ q u, cs[q]? = some u → xs[i * sz + q]? = some u) ∧ D.P w R cs l[i]
  | [], o, _ => ⟨[], by simp, fun q u h => by simp at h, by simp, fun i hi => absurd hi (by simp)⟩
  | x :: l, o, h => by
    obtain ⟨cs, h1, h2, h3, h4⟩ := h 0 (by simp)
    rw [Nat.zero_mul, Nat.add_zero] at h2
    obtain ⟨xs, e1, e2, e3, e4⟩ := rows_cells (D := D) (R := R) l (o + sz) (fun i hi => by
      have := h (i + 1) (by simpa using hi)
      rw [show o + (i + 1) * sz = o + sz + i * sz by rw [Nat.add_mul]; omega] at this
      exact this)
    refine ⟨cs ++ xs, by rw [List.length_append, h1, e1, List.length_cons, Nat.add_mul]; omega, fun q u hu => ?_, fun u hu => ?_, fun i hi => ?_⟩
    · by_cases hq : q < sz
      · rw [List.getElem?_append_left (by omega)] at hu
        exact h2 q u hu
      · rw [List.getElem?_append_right (by omega)] at hu
        have := e2 _ u hu
        rwa [show o + sz + (q - cs.length) = o + q by omega] at this
    · rcases List.mem_append.1 hu with hu | hu
      · exact h3 u hu
      · exact e3 u hu
    · cases i with
      | zero => exact ⟨cs, h1, fun q u hu => by
          have hq : q < cs.length := (List.getElem?_eq_some_iff.1 hu).1
          rw [Nat.zero_mul, Nat.zero_add, List.getElem?_append_left hq]; exact hu, h4⟩
      | succ i =>
        obtain ⟨ds, g1, g2, g3⟩ := e4 i (by simpa using hi)
        refine ⟨ds, g1, fun q u hu => ?_, g3⟩
        have := g2 q u hu
        rw [List.getElem?_append_right (by rw [Nat.add_mul]; omega), show (i + 1) * sz + q - cs.length = i * sz + q by rw [Nat.add_mul]; omega]
        exact this
theorem ex_one {w : World} {R : Nat → Nat → Prop} {c0 c1 c2 c3 : Value} {x : Ex} (h : IsExR w R (.agg #[c0, c1, c2, c3]) x) : ∀ u ∈ [c0, c1, c2, c3], u.oneCell' = true := by
  obtain ⟨k, n, s, A, len, cap, rfl, rfl, rfl, rfl⟩ := h.cells
  intro u hu
  simp only [List.mem_cons, List.not_mem_nil, or_false] at hu
  rcases hu with rfl | rfl | rfl | rfl <;> rfl
set_option maxRecDepth 100000 in
set_option maxHeartbeats 1000000 in
theorem Clone127_any (l : List St) (A : Option Addr) (cap : Nat) (w : World) (B : Nat) (hB : B ≤ w.heap.size) (hlen : l.length * 256 ≤ 140737488351232) (hcap : l.length ≤ cap) (h7 : l ≠ [] → ∃ b o, b < B ∧ A = some ⟨b, o, Option.none⟩ ∧ IsSts w B b o l) :
    Calls Try.prog 62 #[.slice A l.length cap] w fun e w' => ∃ v', e = .returned v' ∧ NRg 112 17 w' w.heap.size v' l.length (fun i cs => ∃ hi : i < l.length, RdS.P w' (fun b _ => b < B) cs l[i]) ∧ Below w.heap.size w w' := by
  obtain ⟨i0, hi, hz0, hz1, hz2⟩ := info_parts info58
  have HIN := Lib.hid hi
  clear hi
  cases A with
  | none =>
    have hl0 : l = [] := by
      cases l with
      | nil => rfl
      | cons x l => obtain ⟨_, _, _, hA, _⟩ := h7 (by simp); cases hA
    subst hl0
    have heq := fun w => Lib.run_eql_slice_nil (P := Try.prog) w 50 112 Option.none 0 cap 0 0 Try.underlying50
    go_enter Try.func62, Try.ntmps62
    go_wp2_with fail
    go_ret
    exact ⟨_, rfl, ⟨[], World.ownsRow_nil _ _ _ _, fun i hi => by simp at hi⟩, Below.refl _ _⟩
  | some ad =>
    have heq := fun w => Lib.run_eql_slice_nil (P := Try.prog) w 50 112 (some ad) l.length cap 0 0 Try.underlying50
    obtain ⟨xs, e1, e2, e3, e4⟩ : ∃ xs : List Value, xs.length = l.length * 17 ∧ (∀ q u, xs[q]? = some u → w.cell? (ad.add q) = some u) ∧ (∀ u ∈ xs, u.oneCell' = true) ∧ ∀ (i : Nat) (hi : i < l.length), ∃ cs : List Value, cs.length = 17 ∧ (∀ q u, cs[q]? = some u → xs[i * 17 + q]? = some u) ∧ RdS.P w (fun b _ => b < B) cs l[i] := by
      by_cases hl0 : l = []
      · subst hl0
        exact ⟨[], rfl, fun q u h => by simp at h, by simp, fun i hi => absurd hi (by simp)⟩
      · obtain ⟨b, o, hb, hA, hx⟩ := h7 hl0
        cases hA
        obtain ⟨xs, g1, g2, g3, g4⟩ := rows_cells (D := RdS) (R := fun b _ => b < B) l o (fun i hi => by
          obtain ⟨s, h1, h2⟩ := hx.at i hi; exact ⟨s.arr.toList, rfl, h1, s.one, s, rfl, h2⟩)
        exact ⟨xs, g1, fun q u hu => by
          rw [show (⟨b, o, Option.none⟩ : Addr).add q = ⟨b, o + q, Option.none⟩ from by unfold Addr.add; split <;> simp_all]
          exact g2 q u hu, g3, g4⟩
    have E2 := Lib.hid e2
    have E3 := Lib.hid e3
    have E4 := Lib.hid e4
    have E1 := Lib.hid e1
    have hba : Below w.heap.size w (w.alloc (.cells #[] 112)) := (Below.refl _ _).alloc (Nat.le_refl _) _
    have HBA := Lib.hid hba
    have hown : (w.alloc (.cells #[] 112)).ownsRow w.heap.size 112 17 (.slice (some ⟨w.heap.size, 0, Option.none⟩) 0 0) 0 [] := ⟨rfl, .inr ⟨w.heap.size, 0, #[], rfl, Nat.le_refl _, (BlkN.at_ (w := w) rfl 112 #[]), Nat.le_refl _, by unfold maxLen; omega, rfl, rfl⟩⟩
    have HOWN := Lib.hid hown
    clear e1 e2 e3 e4 hba hown h7
    go_enter Try.func62, Try.ntmps62
    go_wp2_with (refine wpList_append_row _ rfl (.tmp 5) (.tmp 6) 50 rfl w.heap.size 112 i0 _ 17 256 Try.underlying50 HIN.out hz0 hz1 hz2 rfl (by decide) (.slice (some ⟨w.heap.size, 0, Option.none⟩) 0 0) 0 [] rfl HOWN.out ad l.length cap xs rfl E1.out ?hy2 E3.out ?hy4 ?hy5 ?hy6 ?_)
    case hy2 =>
      intro j u hu
      have h1 := E2.out j u hu
      exact (HBA.out.cell (p := ad.add j) (block_lt_of_cell h1)).trans h1
    case hy4 => unfold maxLen; omega
    case hy5 => omega
    case hy6 => simp
    intro v' w3 hown' hgrow hor
    have hb3 : Below w.heap.size w w3 := HBA.out.grown hgrow (by simp) (fun g hg => by simp [Value.ownBlock] at hg; omega)
    have HB3 := Lib.hid hb3
    have HO := Lib.hid hown'
    clear hown' hgrow hor hb3
    go_wp2_with fail
    go_ret
    refine ⟨_, rfl, ⟨xs, by simpa using HO.out, fun i hi => ?_⟩, HB3.out⟩
    obtain ⟨cs, g1, g2, g3⟩ := E4.out i hi
    exact ⟨cs, g1, g2, hi, RdS.keep (fun b o hb => HB3.out.block b (by omega)) g3⟩
set_option maxRecDepth 100000 in
set_option maxHeartbeats 1000000 in
theorem Clone149_any (l : List Ex) (A : Option Addr) (cap : Nat) (w : World) (B : Nat) (hB : B ≤ w.heap.size) (hlen : l.length * 56 ≤ 140737488351232) (hcap : l.length ≤ cap) (h7 : l ≠ [] → ∃ b o, b < B ∧ A = some ⟨b, o, Option.none⟩ ∧ IsExs w B b o l) :
    Calls Try.prog 74 #[.slice A l.length cap] w fun e w' => ∃ v', e = .returned v' ∧ NRg 109 4 w' w.heap.size v' l.length (fun i cs => ∃ hi : i < l.length, RdE.P w' (fun b _ => b < B) cs l[i]) ∧ Below w.heap.size w w' := by
  obtain ⟨i0, hi, hz0, hz1, hz2⟩ := info_parts info26
  have HIN := Lib.hid hi
  clear hi
  cases A with
  | none =>
    have hl0 : l = [] := by
      cases l with
      | nil => rfl
      | cons x l => obtain ⟨_, _, _, hA, _⟩ := h7 (by simp); cases hA
    subst hl0
    have heq := fun w => Lib.run_eql_slice_nil (P := Try.prog) w 107 109 Option.none 0 cap 0 0 Try.underlying107
    go_enter Try.func74, Try.ntmps74
    go_wp2_with fail
    go_ret
    exact ⟨_, rfl, ⟨[], World.ownsRow_nil _ _ _ _, fun i hi => by simp at hi⟩, Below.refl _ _⟩
  | some ad =>
    have heq := fun w => Lib.run_eql_slice_nil (P := Try.prog) w 107 109 (some ad) l.length cap 0 0 Try.underlying107
    obtain ⟨xs, e1, e2, e3, e4⟩ : ∃ xs : List Value, xs.length = l.length * 4 ∧ (∀ q u, xs[q]? = some u → w.cell? (ad.add q) = some u) ∧ (∀ u ∈ xs, u.oneCell' = true) ∧ ∀ (i : Nat) (hi : i < l.length), ∃ cs : List Value, cs.length = 4 ∧ (∀ q u, cs[q]? = some u → xs[i * 4 + q]? = some u) ∧ RdE.P w (fun b _ => b < B) cs l[i] := by
      by_cases hl0 : l = []
      · subst hl0
        exact ⟨[], rfl, fun q u h => by simp at h, by simp, fun i hi => absurd hi (by simp)⟩
      · obtain ⟨b, o, hb, hA, hx⟩ := h7 hl0
        cases hA
        obtain ⟨xs, g1, g2, g3, g4⟩ := rows_cells (D := RdE) (R := fun b _ => b < B) l o (fun i hi => by
          obtain ⟨c0, c1, c2, c3, h1, h2⟩ := hx.at i hi; exact ⟨[c0, c1, c2, c3], rfl, h1, ex_one h2, c0, c1, c2, c3, rfl, h2⟩)
        exact ⟨xs, g1, fun q u hu => by
          rw [show (⟨b, o, Option.none⟩ : Addr).add q = ⟨b, o + q, Option.none⟩ from by unfold Addr.add; split <;> simp_all]
          exact g2 q u hu, g3, g4⟩
    have E2 := Lib.hid e2
    have E3 := Lib.hid e3
    have E4 := Lib.hid e4
    have E1 := Lib.hid e1
    have hba : Below w.heap.size w (w.alloc (.cells #[] 109)) := (Below.refl _ _).alloc (Nat.le_refl _) _
    have HBA := Lib.hid hba
    have hown : (w.alloc (.cells #[] 109)).ownsRow w.heap.size 109 4 (.slice (some ⟨w.heap.size, 0, Option.none⟩) 0 0) 0 [] := ⟨rfl, .inr ⟨w.heap.size, 0, #[], rfl, Nat.le_refl _, (BlkN.at_ (w := w) rfl 109 #[]), Nat.le_refl _, by unfold maxLen; omega, rfl, rfl⟩⟩
    have HOWN := Lib.hid hown
    clear e1 e2 e3 e4 hba hown h7
    go_enter Try.func74, Try.ntmps74
    go_wp2_with (refine wpList_append_row _ rfl (.tmp 5) (.tmp 6) 107 rfl w.heap.size 109 i0 _ 4 56 Try.underlying107 HIN.out hz0 hz1 hz2 rfl (by decide) (.slice (some ⟨w.heap.size, 0, Option.none⟩) 0 0) 0 [] rfl HOWN.out ad l.length cap xs rfl E1.out ?hy2 E3.out ?hy4 ?hy5 ?hy6 ?_)
    case hy2 =>
      intro j u hu
      have h1 := E2.out j u hu
      exact (HBA.out.cell (p := ad.add j) (block_lt_of_cell h1)).trans h1
    case hy4 => unfold maxLen; omega
    case hy5 => omega
    case hy6 => simp
    intro v' w3 hown' hgrow hor
    have hb3 : Below w.heap.size w w3 := HBA.out.grown hgrow (by simp) (fun g hg => by simp [Value.ownBlock] at hg; omega)
    have HB3 := Lib.hid hb3
    have HO := Lib.hid hown'
    clear hown' hgrow hor hb3
    go_wp2_with fail
    go_ret
    refine ⟨_, rfl, ⟨xs, by simpa using HO.out, fun i hi => ?_⟩, HB3.out⟩
    obtain ⟨cs, g1, g2, g3⟩ := E4.out i hi
    exact ⟨cs, g1, g2, hi, RdE.keep (fun b o hb => HB3.out.block b (by omega)) g3⟩

/-- Elements of a row that are made the call's own, one behind the other. -/
def OwnTo {α : Type} (D : Rd α) (w : World) (lo B : Nat) (v : Value) (l : List α) (j i : Nat) (cs : List Value) : Prop :=
  ∃ hi : i < l.length, if i < j then D.P w (fun b o => OwnU lo w b o ∧ v.ownBlock ≠ some b) cs l[i] else D.P w (fun b _ => b < B) cs l[i]
theorem OwnTo.below {α : Type} {D : Rd α} {w w' : World} {lo B : Nat} {v : Value} {l : List α} {j i : Nat} {cs : List Value} (h : OwnTo D w lo B v l j i cs) (hB : B ≤ w.heap.size) (hb : Below w.heap.size w w') : OwnTo D w' lo B v l j i cs := by
  obtain ⟨hi, hp⟩ := h
  refine ⟨hi, ?_⟩
  by_cases hc : i < j
  · rw [if_pos hc] at hp ⊢
    exact D.mono (fun b o hr => ⟨hr.1.below hb, hr.2⟩) (D.keep (fun b o hr => hb.block b hr.1.lt) hp)
  · rw [if_neg hc] at hp ⊢
    exact D.keep (fun b o hr => hb.block b (Nat.lt_of_lt_of_le hr hB)) hp
/-- .. block g of the row alone being written. -/
theorem OwnTo.but {α : Type} {D : Rd α} {w w' : World} {lo B g : Nat} {v : Value} {l : List α} {j i : Nat} {cs : List Value} (h : OwnTo D w lo B v l j i cs) (hg : v.ownBlock = some g) (hB : B ≤ g) (hb : But g w w') : OwnTo D w' lo B v l j i cs := by
  obtain ⟨hi, hp⟩ := h
  refine ⟨hi, ?_⟩
  have hne : ∀ b, v.ownBlock ≠ some b → b ≠ g := fun b hv e => hv (by rw [hg, e])
  by_cases hc : i < j
  · rw [if_pos hc] at hp ⊢
    exact D.mono (fun b o hr => ⟨hr.1.of (hb.other b (hne b hr.2)), hr.2⟩) (D.keep (fun b o hr => hb.other b (hne b hr.2)) hp)
  · rw [if_neg hc] at hp ⊢
    exact D.keep (fun b o hr => hb.other b (by omega)) hp
theorem OwnTo.next {α : Type} {D : Rd α} {w : World} {lo B : Nat} {v : Value} {l : List α} {j i : Nat} {cs : List Value} (h : OwnTo D w lo B v l j i cs) (hij : i ≠ j) : OwnTo D w lo B v l (j + 1) i cs := by
  obtain ⟨hi, hp⟩ := h
  refine ⟨hi, ?_⟩
  by_cases hc : i < j
  · rw [if_pos hc] at hp
    rw [if_pos (by omega)]
    exact hp
  · rw [if_neg hc] at hp
    rw [if_neg (by omega)]
    exact hp
def ExprOwnC (x : Ex) : Prop := ∀ (w : World) (B : Nat) (v : Value), IsEx w B v x → B ≤ w.heap.size →
  Calls Try.prog 63 #[v] w fun e w' => ∃ v', e = .returned v' ∧ IsExR w' (OwnU w.heap.size w') v' x ∧ Below w.heap.size w w'
attribute [local irreducible] RegT.seqT RegT.seqM wpList
set_option maxRecDepth 100000 in
set_option maxHeartbeats 2000000 in
theorem ownExpr125_any (x : Ex) : ExprOwnC x := by
  induction x using Ex.ind with
  | h k n s l IH =>
  intro w B v h hB
  have hlen := h.len
  obtain ⟨h1, h2, h3, h4, A, cap, h5, rfl, h7⟩ := h.form
  have HI := Lib.hid IH
  obtain ⟨i0, hi, hz0, hz1, hz2⟩ := info_parts info26
  have HIN := Lib.hid hi
  have HB0 := Lib.hid (((Below.refl w.heap.size w).alloc (Nat.le_refl _) (.cells #[.int .u8 k, .int .i64 n, .string s, .slice A l.length cap] 109)).alloc (by simp) (.cells #[.int .u8 0, .int .i64 0, .string ⟨#[]⟩, .slice Option.none 0 0] 109))
  have HQ : Hid (BlkN ((w.alloc (.cells #[.int .u8 k, .int .i64 n, .string s, .slice A l.length cap] 109)).alloc (.cells #[.int .u8 0, .int .i64 0, .string ⟨#[]⟩, .slice Option.none 0 0] 109)) w.heap.size 109 #[.int .u8 k, .int .i64 n, .string s, .slice A l.length cap]) := Lib.hid ((BlkN.at_ rfl _ _).alloc _)
  have HR : Hid (BlkN ((w.alloc (.cells #[.int .u8 k, .int .i64 n, .string s, .slice A l.length cap] 109)).alloc (.cells #[.int .u8 0, .int .i64 0, .string ⟨#[]⟩, .slice Option.none 0 0] 109)) (w.heap.size + 1) 109 #[.int .u8 0, .int .i64 0, .string ⟨#[]⟩, .slice Option.none 0 0]) := Lib.hid (BlkN.at_ (by simp) _ _)
  have C149 := Lib.hid (fun w' (hb : Below w.heap.size w w') => Clone149_any l A cap w' B (Nat.le_trans hB hb.size) hlen h5 (fun hne => by obtain ⟨b, o, g1, g2, g3⟩ := h7 hne; exact ⟨b, o, g1, g2, IsExs.keep (fun b hb' => hb.block b (Nat.lt_of_lt_of_le hb' hB)) g1 g3⟩))
  clear h IH hi h7
  go_enter Try.func63, Try.ntmps63
  go_upto_region 2 with (go_at_call 74; refine (C149.out _ HB0.out).mono ?_; rintro e w1 ⟨v1, rfl, hv1, hb1⟩; obtain ⟨A1, cap1, rfl, hcap1⟩ := hv1.val; have hq1 := HQ.out.below hb1; have hr1 := HR.out.below hb1; have f3 := hq1.free 3; have d3 := hq1.cell 3 rfl; have hl1 := hr1.lt)
  obtain ⟨W2, hW2⟩ : ∃ W2, W2 = w1.setCell ⟨w.heap.size, 3, Option.none⟩ (.slice A1 l.length cap1) := ⟨_, rfl⟩
  rw [← hW2]
  have hq2 : BlkN W2 w.heap.size 109 #[.int .u8 k, .int .i64 n, .string s, .slice A1 l.length cap1] := by rw [hW2]; exact hq1.set 3 _
  have hr2 : BlkN W2 (w.heap.size + 1) 109 #[.int .u8 0, .int .i64 0, .string ⟨#[]⟩, .slice Option.none 0 0] := by rw [hW2]; exact hr1.setOther (by simp) _
  have hB2 : Below w.heap.size w W2 := by rw [hW2]; exact (bnext HB0.out hb1).setCell (Nat.le_refl _) _
  have hsz1 : w.heap.size + 1 + 1 ≤ ((w.alloc (.cells #[.int .u8 k, .int .i64 n, .string s, .slice A l.length cap] 109)).alloc (.cells #[.int .u8 0, .int .i64 0, .string ⟨#[]⟩, .slice Option.none 0 0] 109)).heap.size := by simp
  have hv2 : NRg 109 4 W2 (w.heap.size + 1 + 1) (.slice A1 l.length cap1) l.length (OwnTo RdE W2 (w.heap.size + 1 + 1) B (.slice A1 l.length cap1) l 0) := by
    have he : ((w.alloc (.cells #[.int .u8 k, .int .i64 n, .string s, .slice A l.length cap] 109)).alloc (.cells #[.int .u8 0, .int .i64 0, .string ⟨#[]⟩, .slice Option.none 0 0] 109)).heap.size = w.heap.size + 1 + 1 := by simp
    rw [he] at hv1
    have hu : Upd w.heap.size w1 W2 := by rw [hW2]; exact (Upd.refl _ _).set 3 _
    exact (hv1.upd hu (by omega)).imp fun i cs hi ⟨hi', hp⟩ => ⟨hi', by rw [if_neg (by omega)]; exact RdE.keep (fun b o hr => hu.block b (by omega) (by omega)) hp⟩
  have HQ2 := Lib.hid hq2
  have HR2 := Lib.hid hr2
  have HB2 := Lib.hid hB2
  have HV2 := Lib.hid hv2
  have q3 := hq2.cell 3 rfl
  have hl2 := hr2.lt
  clear hW2 hq1 hr1 f3 d3 hl1 hv1 hb1 hq2 hr2 hB2 hv2 HB0 HQ HR C149 hsz1
  go_wp2_with fail
  go_loopw [12] (fun i wr => ∃ j : Nat, j ≤ l.length ∧ i = .int .i64 j ∧ NRg 109 4 wr (w.heap.size + 1 + 1) (.slice A1 l.length cap1) l.length (OwnTo RdE wr (w.heap.size + 1 + 1) B (.slice A1 l.length cap1) l j) ∧ Below w.heap.size w wr ∧ BlkN wr w.heap.size 109 #[.int .u8 k, .int .i64 n, .string s, .slice A1 l.length cap1] ∧ BlkN wr (w.heap.size + 1) 109 #[.int .u8 0, .int .i64 0, .string ⟨#[]⟩, .slice Option.none 0 0]) (fun i _ => l.length - (intOf i).toNat)
  case atStart => exact ⟨0, by omega, rfl, HV2.out, HB2.out, HQ2.out, HR2.out⟩
  case round =>
    obtain ⟨j, hj, rfl, hv, hu, hb0, hb1⟩ := hrel
    have HV := Lib.hid hv
    have HU := Lib.hid hu
    have hus := hu.size
    by_cases hlt : j < l.length
    · obtain ⟨g, cap', cur, he, hlo, hcur, hcapc, hcs, hel⟩ := hv.open (by omega)
      simp only [Value.slice.injEq] at he
      obtain ⟨rfl, _, rfl⟩ := he
      obtain ⟨cs, hcl, hat, hi', hp⟩ := hel j hlt
      rw [if_neg (by omega)] at hp
      obtain ⟨c0, c1, c2, c3, rfl, hx⟩ := hp
      obtain ⟨k', n', s', A', len', cap'', rfl, rfl, rfl, rfl⟩ := hx.cells
      have hat0 : At wr g (0 + j * 4) [.int .u8 k', .int .i64 n', .string s', .slice A' len' cap''] := by rw [Nat.zero_add]; exact hat
      obtain ⟨e0, e1, e2, e3⟩ := hat.four
      have hcu : l.length * 4 ≤ cur.size := by rw [hcs]; exact Nat.mul_le_mul_right 4 hcapc
      have hgl := hcur.lt
      have hB2 : B ≤ wr.heap.size := Nat.le_trans hB hus
      have C125 := Lib.hid (fun w' (hb : Below wr.heap.size wr w') => HI.out l[j] (List.getElem_mem hlt) w' B _ (IsEx.keep (B := B) (fun b hb' => hb.block b (Nat.lt_of_lt_of_le hb' hB2)) hx) (Nat.le_trans hB2 hb.size))
      have HC := Lib.hid hb0
      have HR1 := Lib.hid hb1
      have HCU := Lib.hid hcur
      have hpl := hb1.lt
      clear hv hu hel hat hat0 hx hcur hb0 hb1
      go_upto_region 5 with (fail)
      obtain ⟨w1, hw1⟩ : ∃ w1, w1 = wr.alloc (.cells #[.int .u8 k', .int .i64 n', .string s', .slice A' len' cap''] 109) := ⟨_, rfl⟩
      rw [← hw1]
      have hb1 : Below wr.heap.size wr w1 := by rw [hw1]; exact (Below.refl _ _).alloc (Nat.le_refl _) _
      have hbp : BlkN w1 wr.heap.size 109 #[.int .u8 k', .int .i64 n', .string s', .slice A' len' cap''] := by rw [hw1]; exact BlkN.at_ rfl _ _
      have HB1 := Lib.hid hb1
      have HBP := Lib.hid hbp
      have hC1 : BlkN w1 w.heap.size 109 #[.int .u8 k, .int .i64 n, .string s, .slice (some ⟨g, 0, Option.none⟩) l.length cap1] := HC.out.below hb1
      have HC1 := Lib.hid hC1
      have hs1 := hb1.size
      clear hw1 hb1 hbp hC1 e0 e1 e2 e3
      refine RegT.region_mix (fun i => Nat.ble i 4) (fun W => BlkN W w.heap.size 109 #[.int .u8 k, .int .i64 n, .string s, .slice (some ⟨g, 0, Option.none⟩) l.length cap1] ∧ BlkN W wr.heap.size 109 #[.int .u8 k', .int .i64 n', .string s', .slice A' len' cap'']) [(true, 0), (true, 1), (true, 2), (true, 3), (false, 4), (false, 5), (false, 6)] rfl (by kernel_rfl) (by kernel_rfl) (by decide) ?_
      have hS0 : BlkN w1.drew w.heap.size 109 #[.int .u8 k, .int .i64 n, .string s, .slice (some ⟨g, 0, Option.none⟩) l.length cap1] ∧ BlkN w1.drew wr.heap.size 109 #[.int .u8 k', .int .i64 n', .string s', .slice A' len' cap''] := ⟨HC1.out, HBP.out⟩
      refine RegT.seqM_quiet hS0 rfl (fun _ _ _ h => h) (by kernel_rfl) (v := .pointer (some ⟨w.heap.size, 3, Option.none⟩)) (fun w' hS => ?_) ?_
      · go_simp
      refine RegT.seqM_quiet hS0 rfl (fun _ _ _ h => h) (by kernel_rfl) (v := .slice (some ⟨g, 0, Option.none⟩) l.length cap1) (fun w' hS => ?_) ?_
      · have hS : BlkN w' w.heap.size 109 #[.int .u8 k, .int .i64 n, .string s, .slice (some ⟨g, 0, Option.none⟩) l.length cap1] := hS.1; have t3 := hS.cell 3 rfl; go_simp
      refine RegT.seqM_quiet hS0 rfl (fun _ _ _ h => h) (by kernel_rfl) (v := .int .i64 j) (fun w' hS => ?_) ?_
      · go_simp
      refine RegT.seqM_quiet hS0 rfl (fun _ _ _ h => h) (by kernel_rfl) (v := .agg #[.int .u8 k', .int .i64 n', .string s', .slice A' len' cap'']) (fun w' hS => ?_) ?_
      · have hS : BlkN w' wr.heap.size 109 #[.int .u8 k', .int .i64 n', .string s', .slice A' len' cap''] := hS.2; have t0 := hS.cell 0 rfl; have t1 := hS.cell 1 rfl; have t2 := hS.cell 2 rfl; have t3 := hS.cell 3 rfl; go_simp
      refine RegT.seqM_held rfl ?_
      have HD : Hid (Below wr.heap.size wr w1.drew) := Lib.hid HB1.out.drew
      go_wp2_with (go_at_call 63; refine (C125.out _ HD.out).mono ?_; rintro e w3 ⟨v3, rfl, hx3, hb3⟩; obtain ⟨k2, n2, s2, A2, len2, cap2, rfl⟩ := hx3.shape)
      have hb13 : Below wr.heap.size wr w3 := bnext HD.out hb3
      have hs3 := hb13.size
      have hgc : BlkN w3 g 109 cur := HCU.out.below hb13
      have hg3 := hgc.lt
      have hX3 : IsExR w3 (OwnU wr.heap.size w3) (.agg #[.int .u8 k2, .int .i64 n2, .string s2, .slice A2 len2 cap2]) l[j] := exU.low hx3 hs1
      have HX3 := Lib.hid hX3
      have HB13 := Lib.hid hb13
      have HGC := Lib.hid hgc
      refine ⟨⟨HC.out.below hb13, (HBP.out.below (Below.refl _ _).drew).below hb3⟩, RegT.seqM_free rfl rfl ?_⟩
      clear hx3 hb3 hX3 hb13 hgc hS0 HCU HC1 HBP HB1 HD
      go_wp2_with fail
      refine RegT.seqM_free rfl rfl ?_
      refine wpList_store_part rfl 109 (.tmp 22) (.tmp 21) rfl i0 HIN.out g (j * 4) (.agg #[.int .u8 k2, .int .i64 n2, .string s2, .slice A2 len2 cap2]) [.int .u8 k2, .int .i64 n2, .string s2, .slice A2 len2 cap2] rfl rfl rfl 109 cur (cur.toList.take (j * 4) ++ ([.int .u8 k2, .int .i64 n2, .string s2, .slice A2 len2 cap2] : List Value) ++ cur.toList.drop (j * 4 + 4)).toArray HGC.out (by rw [hz1]; rfl) (show j * 4 + 4 ≤ cur.size by omega) (by intro u hu; simp only [List.mem_cons, List.not_mem_nil, or_false] at hu; rcases hu with rfl | rfl | rfl | rfl <;> rfl) rfl ?_
      intro w4 hB4 hbut
      have hgB : B ≤ g := by omega
      have hV4 : NRg 109 4 w4 (w.heap.size + 1 + 1) (.slice (some ⟨g, 0, Option.none⟩) l.length cap1) l.length (OwnTo RdE w4 (w.heap.size + 1 + 1) B (.slice (some ⟨g, 0, Option.none⟩) l.length cap1) l (j + 1)) := by
        refine NRg.store ((HV.out.below HB13.out).imp fun i cs hi hp => hp.below hB2 HB13.out) j hlt rfl HGC.out hB4 rfl (fun i ds hij hi hp => (hp.but rfl hgB hbut).next hij) ⟨hlt, ?_⟩
        rw [if_pos (by omega)]
        refine ⟨_, _, _, _, rfl, ?_⟩
        exact IsExR.mono (fun b o hr => ⟨(hr.of (hbut.other b (by have := hr.1; omega))).low (by omega), fun e => by have := hr.1; simp [Value.ownBlock] at e; omega⟩) (IsExR.keep (fun b o hr => hbut.other b (by have := hr.1; omega)) HX3.out)
      have HV4 := Lib.hid hV4
      have HU4 := Lib.hid (hbut.below (show w.heap.size ≤ g by omega) (bnext HU.out HB13.out))
      have HC4 : Hid (BlkN w4 w.heap.size 109 #[.int .u8 k, .int .i64 n, .string s, .slice (some ⟨g, 0, Option.none⟩) l.length cap1]) := Lib.hid ((hbut.other _ (by omega)).trans (HC.out.below HB13.out))
      have HR4 : Hid (BlkN w4 (w.heap.size + 1) 109 #[.int .u8 0, .int .i64 0, .string ⟨#[]⟩, .slice Option.none 0 0]) := Lib.hid ((hbut.other _ (by omega)).trans (HR1.out.below HB13.out))
      refine RegT.wpList_end (RegT.seqM_end ?_)
      simp only [RegT.NP]
      clear hV4 hbut hB4 HX3 HB13 HGC hg3 hs3 hs1 C125
      go_wp2_with fail
      go_roundw
      case rel => exact ⟨j + 1, by omega, by go_num, HV4.out, HU4.out, HC4.out, HR4.out⟩
      case measure => simp [intOf]; omega
    · obtain rfl : j = l.length := by omega
      go_upto_region 7 with (fail)
      refine wp_region_lit ?_
      refine wpList_load_blk rfl 109 (.tmp 1) rfl ⟨w.heap.size, 0, Option.none⟩ rfl (.agg #[.int .u8 k, .int .i64 n, .string s, .slice A1 l.length cap1]) (run_loadVar_blk Try.underlying109 HIN.out hb0 (by rw [hz1]; rfl)) ?_
      refine wpList_store_blk rfl 109 (.tmp 2) (.tmp 24) rfl i0 HIN.out (w.heap.size + 1) #[.int .u8 k, .int .i64 n, .string s, .slice A1 l.length cap1] rfl rfl 109 _ hb1 (by rw [hz1]; rfl) rfl (by intro u hu; simp only [List.mem_cons, List.not_mem_nil, or_false] at hu; rcases hu with rfl | rfl | rfl | rfl <;> rfl) ?_
      intro W6 hB6 hbut
      go_wp2_with fail
      refine bodyPost_ret (results_cell1 (s := 2) (b := w.heap.size + 1) rfl Try.underlying109 HIN.out rfl hB6 (by rw [hz1]; rfl)) rfl ⟨_, rfl, ?_, hbut.below (by omega) HU.out⟩
      unfold IsExR
      refine ⟨h1, h2, h3, hlen, A1, cap1, hcap1, rfl, fun hne => ?_⟩
      have hpos : 0 < l.length := List.length_pos_iff.2 hne
      obtain ⟨g, cap', cur, he, hlo, hcur, hcapc, hcs, hel⟩ := hv.open hpos
      simp only [Value.slice.injEq] at he
      obtain ⟨rfl, _, rfl⟩ := he
      have hup := hbut.toUpd
      have hk : ∀ b o, OwnU (w.heap.size + 1 + 1) wr b o → W6.heap[b]? = wr.heap[b]? := fun b o hr => hup.block b hr.lt (by have := hr.1; omega)
      refine ⟨g, 0, (show OwnU (w.heap.size + 1 + 1) W6 g 0 from ⟨hlo, cur, 109, (hup.block g hcur.lt (by omega)).trans hcur⟩).low (by omega), rfl, RdE.list fun i hi => ?_⟩
      obtain ⟨cs, hcl, hat, hi', hp⟩ := hel i hi
      rw [if_pos hi] at hp
      refine ⟨cs, hcl, by rw [Nat.zero_add]; exact fun q u hu => (World.cell?_of_block (w := wr) (hup.block g hcur.lt (by omega))).trans (hat q u hu), ?_⟩
      exact RdE.mono (fun b o hr => (hr.1.of (hk b o hr.1)).low (by omega)) (RdE.keep (fun b o hr => hk b o hr.1) hp)

set_option maxRecDepth 100000 in
set_option maxHeartbeats 1000000 in
theorem Clone126_any (l : List ByteArray) (A : Option Addr) (len cap : Nat) (w : World) (B : Nat) (_hB : B ≤ w.heap.size) (h : IsSs w B (.slice A len cap) l) :
    Calls Try.prog 64 #[.slice A len cap] w fun e w' => ∃ A' cap', e = .returned (.slice A' l.length cap') ∧ IsSsR w' (OwnU w.heap.size w') (.slice A' l.length cap') l ∧ Below w.heap.size w w' := by
  obtain ⟨i0, hi, hz0, hz1, hz2⟩ := info_parts info9
  have HIN := Lib.hid hi
  obtain ⟨hl16, hsz, A', cap', hcap, he, hA⟩ := h
  simp only [Value.slice.injEq] at he
  obtain ⟨rfl, rfl, rfl⟩ := he
  clear hi
  cases A with
  | none =>
    have hl0 : l = [] := by
      cases l with
      | nil => rfl
      | cons x l => obtain ⟨_, _, _, hA, _⟩ := hA (by simp); cases hA
    subst hl0
    have heq := fun w => Lib.run_eql_slice_nil (P := Try.prog) w 110 9 Option.none 0 cap 0 0 Try.underlying110
    go_enter Try.func64, Try.ntmps64
    go_wp2_with fail
    go_ret
    exact ⟨Option.none, 0, rfl, ⟨by simp, by simp, Option.none, 0, Nat.le_refl _, rfl, fun h => absurd rfl h⟩, Below.refl _ _⟩
  | some ad =>
    have heq := fun w => Lib.run_eql_slice_nil (P := Try.prog) w 110 9 (some ad) l.length cap 0 0 Try.underlying110
    have e2 : ∀ q u, (l.map Value.string)[q]? = some u → w.cell? (ad.add q) = some u := by
      intro q u hu
      have hj' : q < l.length := by have := (List.getElem?_eq_some_iff.1 hu).1; simpa using this
      obtain ⟨b, o, hb, hAe, hp⟩ := hA (by rintro rfl; simp at hj')
      cases hAe
      rw [show (⟨b, o, Option.none⟩ : Addr).add q = ⟨b, o + q, Option.none⟩ from by unfold Addr.add; split <;> simp_all]
      rw [hp q hj']
      simp [List.getElem?_eq_getElem hj'] at hu
      rw [hu]
    have e3 : ∀ u ∈ l.map Value.string, u.oneCell' = true := by
      intro u hu
      obtain ⟨t, _, rfl⟩ := List.mem_map.1 hu
      rfl
    have E2 := Lib.hid e2
    have E3 := Lib.hid e3
    have HS := Lib.hid hsz
    have hba : Below w.heap.size w (w.alloc (.cells #[] 9)) := (Below.refl _ _).alloc (Nat.le_refl _) _
    have HBA := Lib.hid hba
    have hown : (w.alloc (.cells #[] 9)).ownsRow w.heap.size 9 1 (.slice (some ⟨w.heap.size, 0, Option.none⟩) 0 0) 0 [] := ⟨rfl, .inr ⟨w.heap.size, 0, #[], rfl, Nat.le_refl _, (BlkN.at_ (w := w) rfl 9 #[]), Nat.le_refl _, by unfold maxLen; omega, rfl, rfl⟩⟩
    have HOWN := Lib.hid hown
    clear e2 e3 hba hown hA hsz
    go_enter Try.func64, Try.ntmps64
    go_wp2_with (refine wpList_append_row _ rfl (.tmp 5) (.tmp 6) 110 rfl w.heap.size 9 i0 _ 1 16 Try.underlying110 HIN.out hz0 hz1 hz2 rfl (by decide) (.slice (some ⟨w.heap.size, 0, Option.none⟩) 0 0) 0 [] rfl HOWN.out ad l.length cap (l.map Value.string) rfl (by simp) ?hy2 E3.out ?hy4 ?hy5 ?hy6 ?_)
    case hy2 =>
      intro j u hu
      have h1 := E2.out j u hu
      exact (HBA.out.cell (p := ad.add j) (block_lt_of_cell h1)).trans h1
    case hy4 => unfold maxLen; omega
    case hy5 => omega
    case hy6 => simp
    intro v' w3 hown' hgrow hor
    have hb3 : Below w.heap.size w w3 := HBA.out.grown hgrow (by simp) (fun g hg => by simp [Value.ownBlock] at hg; omega)
    have hss : IsSsR w3 (OwnU w.heap.size w3) v' l := IsSsR_of_own (by simpa using hown') (by omega) HS.out
    have hss' := hss
    obtain ⟨_, _, A2, cap2, _, rfl, _⟩ := hss'
    have HB3 := Lib.hid hb3
    have HO := Lib.hid hss
    clear hown' hgrow hor hb3 hss
    go_wp2_with fail
    go_ret
    exact ⟨A2, cap2, rfl, HO.out, HB3.out⟩
def StmtOwnC (x : St) : Prop := ∀ (w : World) (B : Nat) (s : SV), IsSt w B s x → B ≤ w.heap.size →
  Calls Try.prog 93 #[.agg s.arr] w fun e w' => ∃ s' : SV, e = .returned (.agg s'.arr) ∧ IsStR w' (OwnU w.heap.size w') s' x ∧ Below w.heap.size w w'
def CodeOwnC (l : List St) : Prop := ∀ (w : World) (B : Nat) (A : Option Addr) (len cap : Nat), LR (fun b _ => b < B) 256 A len cap l (fun b o => IsSts w B b o l) → B ≤ w.heap.size →
  Calls Try.prog 95 #[.slice A len cap] w fun e w' => ∃ A' cap', e = .returned (.slice A' l.length cap') ∧ LR (OwnU w.heap.size w') 256 A' l.length cap' l (fun b o => IsStsR w' (OwnU w.heap.size w') b o l) ∧ Below w.heap.size w w'
end Go.Proofs.Ythafojadcodkoaa
