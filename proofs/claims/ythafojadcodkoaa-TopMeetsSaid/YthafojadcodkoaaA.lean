/- Plain values as trees, and what it is for a Go value to read as one in a world; rows of values that a call appends to. (Carried over by program from the texts on code.) -/
import Derived.Test.YthafojadcodkoaaRows
import Derived.WalkKit
import Derived.Lib.Hide
import Derived.WalkSpells
import Derived.WalkLawsBesides
import Derived.Laws.IdiomStrings
import Derived.Laws.Strings
import Derived.BigQuiet
import Derived.Laws.MakeOwn
import Derived.ArgAppend
namespace Go.Proofs.Ythafojadcodkoaa
open Go.RowKit

inductive Va where
  | mk (k n : Int) (s : ByteArray) (l : List Va) (r : Int)
theorem Va.ind {P : Va → Prop} (h : ∀ k n s l r, (∀ x ∈ l, P x) → P (.mk k n s l r)) : ∀ x, P x
  | .mk k n s l r => h k n s l r (fun x _ => Va.ind h x)
/-- The cells from an address on hold these values. -/
def At (w : World) (b o : Nat) (cs : List Value) : Prop := ∀ j v, cs[j]? = some v → w.cell? ⟨b, o + j, Option.none⟩ = some v

/-! ### Worlds that grow -/
/-- A block of one cell. -/
def Blk (w : World) (b : Nat) (T : TypeId) (v : Value) : Prop := w.heap[b]? = some (.cells #[v] T (0, 0))
theorem Blk.cell {w : World} {b : Nat} {T : TypeId} {v : Value} (h : Blk w b T v) : w.cell? ⟨b, 0, Option.none⟩ = some v := cell_of_one h
theorem Blk.free {w : World} {b : Nat} {T : TypeId} {v : Value} (h : Blk w b T v) : w.frozen? ⟨b, 0, Option.none⟩ = false := free_of_one h
theorem Blk.lt {w : World} {b : Nat} {T : TypeId} {v : Value} (h : Blk w b T v) : b < w.heap.size := lt_of_block h
theorem Blk.set {w : World} {b : Nat} {T : TypeId} {v : Value} (h : Blk w b T v) (u : Value) : Blk (w.setCell ⟨b, 0, Option.none⟩ u) b T u := one_setCell h
theorem Blk.new (w : World) (T : TypeId) (v : Value) : Blk (w.alloc (.cells #[v] T)) w.heap.size T v := by
  show (w.heap.push _)[w.heap.size]? = _
  simp
/-- w' is w with new blocks and other contents in block p alone. -/
structure Upd (p : Nat) (w w' : World) : Prop where
  os : w'.os = w.os
  tape : w'.tape = w.tape
  output : w'.output = w.output
  size : w.heap.size ≤ w'.heap.size
  block : ∀ k, k < w.heap.size → k ≠ p → w'.heap[k]? = w.heap[k]?
namespace Upd
variable {p : Nat} {a w w' : World}
theorem refl (p : Nat) (w : World) : Upd p w w := ⟨rfl, rfl, rfl, Nat.le_refl _, fun _ _ _ => rfl⟩
theorem trans (h : Upd p a w) (k : Upd p w w') : Upd p a w' :=
  ⟨k.os.trans h.os, k.tape.trans h.tape, k.output.trans h.output, Nat.le_trans h.size k.size, fun i hi hn => (k.block i (Nat.lt_of_lt_of_le hi h.size) hn).trans (h.block i hi hn)⟩
theorem drew (h : Upd p a w) : Upd p a w.drew := ⟨h.os, h.tape, h.output, h.size, h.block⟩
theorem alloc (h : Upd p a w) (o : Obj) : Upd p a (w.alloc o) :=
  h.trans ⟨rfl, rfl, rfl, by simp, fun k hk _ => Below.heap_alloc _ _ _ hk⟩
theorem set (h : Upd p a w) (o : Nat) (u : Value) : Upd p a (w.setCell ⟨p, o, Option.none⟩ u) :=
  h.trans ⟨rfl, rfl, rfl, by simp [World.setCell], fun k _ hn => Below.heap_setCell _ _ _ _ hn⟩
/-- A store into a block that is new. -/
theorem setNew (h : Upd p a w) {q : Addr} (hq : a.heap.size ≤ q.block) (u : Value) : Upd p a (w.setCell q u) :=
  ⟨h.os, h.tape, h.output, by simpa [World.setCell] using h.size, fun k hk hn => (Below.heap_setCell _ _ _ _ (by omega)).trans (h.block k hk hn)⟩
theorem below (h : Upd p a w) (hb : Below w.heap.size w w') : Upd p a w' :=
  ⟨hb.os.trans h.os, hb.tape.trans h.tape, hb.output.trans h.output, Nat.le_trans h.size hb.size, fun k hk hn => (hb.block k (Nat.lt_of_lt_of_le hk h.size)).trans (h.block k hk hn)⟩
theorem ofBelow (h : Below w.heap.size w w') (p : Nat) : Upd p w w' := (refl p w).below h
/-- .. and the block is new: all that was there is as it was. -/
theorem toBelow (h : Upd p w w') (hp : a.heap.size ≤ p) (hb : Below a.heap.size a w) : Below a.heap.size a w' :=
  ⟨h.os.trans hb.os, h.tape.trans hb.tape, h.output.trans hb.output, Nat.le_trans hb.size h.size, fun k hk => (h.block k (Nat.lt_of_lt_of_le hk hb.size) (by omega)).trans (hb.block k hk)⟩
theorem keep (h : Upd p w w') {B : Nat} (hB : B ≤ p) (hs : B ≤ w.heap.size) : ∀ b, b < B → w'.heap[b]? = w.heap[b]? := fun b hb => h.block b (by omega) (by omega)
theorem blk (h : Upd p w w') {b : Nat} {T : TypeId} {v : Value} (hb : Blk w b T v) (hn : b ≠ p) : Blk w' b T v := (h.block b hb.lt hn).trans hb
end Upd
theorem Blk.below {w w' : World} {b : Nat} {T : TypeId} {v : Value} (h : Blk w b T v) (hb : Below w.heap.size w w') : Blk w' b T v := (hb.block b h.lt).trans h
theorem Blk.alloc {w : World} {b : Nat} {T : TypeId} {v : Value} (h : Blk w b T v) (o : Obj) : Blk (w.alloc o) b T v := (Below.heap_alloc _ _ _ h.lt).trans h
theorem Blk.setOther {w : World} {b : Nat} {T : TypeId} {v : Value} (h : Blk w b T v) {q : Addr} (hq : b ≠ q.block) (u : Value) : Blk (w.setCell q u) b T v := (Below.heap_setCell _ _ _ _ hq).trans h

theorem At.keep {w w' : World} {B b o : Nat} {cs : List Value} (h : At w b o cs) (hb : b < B) (hk : ∀ b, b < B → w'.heap[b]? = w.heap[b]?) : At w' b o cs :=
  fun j v hv => (World.cell?_of_block (w := w) (hk b hb)).trans (h j v hv)
theorem bcell {W w1 : World} (hb : Below W.heap.size W w1) : (∀ b o, b < W.heap.size → w1.cell? ⟨b, o, none⟩ = W.cell? ⟨b, o, none⟩) ∧ (∀ b o, b < W.heap.size → w1.frozen? ⟨b, o, none⟩ = W.frozen? ⟨b, o, none⟩) :=
  ⟨fun b o h => hb.cell (p := ⟨b, o, none⟩) h, fun b o h => hb.frozen (p := ⟨b, o, none⟩) h⟩
theorem ret_bool {a b : Bool} (h : a = b) : Ending.returned (.bool a) = .returned (.bool b) := by rw [h]
theorem ret_int {k : IntKind} {a b : Int} (h : a = b) : Ending.returned (.int k a) = .returned (.int k b) := by rw [h]

mutual
/-- v reads as the value; the lists lie at places of R. -/
def IsVaR (w : World) (R : Nat → Nat → Prop) : Value → Va → Prop
  | v, .mk k n s l r => 0 ≤ k ∧ k < 256 ∧ s.size ≤ 140737488351232 ∧ l.length * 64 ≤ 140737488351232 ∧ ∃ A cap, l.length ≤ cap ∧ v = .agg #[.int .u8 k, .int .i64 n, .string s, .slice A l.length cap, .int .i64 r] ∧
      (l ≠ [] → ∃ b o, R b o ∧ A = some ⟨b, o, Option.none⟩ ∧ IsVasR w R b o l)
def IsVasR (w : World) (R : Nat → Nat → Prop) (b o : Nat) : List Va → Prop
  | [] => True
  | x :: l => (∃ c0 c1 c2 c3 c4, At w b o [c0, c1, c2, c3, c4] ∧ IsVaR w R (.agg #[c0, c1, c2, c3, c4]) x) ∧ IsVasR w R b (o + 5) l
end
/-- .. all lists in blocks below B. -/
abbrev IsVa (w : World) (B : Nat) : Value → Va → Prop := IsVaR w (fun b _ => b < B)
abbrev IsVas (w : World) (B : Nat) : Nat → Nat → List Va → Prop := IsVasR w (fun b _ => b < B)
mutual
theorem IsVaR.keep {w w' : World} {R : Nat → Nat → Prop} (hk : ∀ b o, R b o → w'.heap[b]? = w.heap[b]?) : ∀ {v : Value} {x : Va}, IsVaR w R v x → IsVaR w' R v x
  | v, .mk k n s l r, h => by
    unfold IsVaR at h ⊢
    obtain ⟨h1, h2, h3, h4, A, cap, h5, h6, h7⟩ := h
    refine ⟨h1, h2, h3, h4, A, cap, h5, h6, fun hl => ?_⟩
    obtain ⟨b, o, hb, hA, hx⟩ := h7 hl
    exact ⟨b, o, hb, hA, IsVasR.keep hk (hk b o hb) hx⟩
theorem IsVasR.keep {w w' : World} {R : Nat → Nat → Prop} (hk : ∀ b o, R b o → w'.heap[b]? = w.heap[b]?) {b : Nat} (hb : w'.heap[b]? = w.heap[b]?) : ∀ {o : Nat} {l : List Va}, IsVasR w R b o l → IsVasR w' R b o l
  | _, [], _ => by unfold IsVasR; trivial
  | _, x :: l, h => by
    unfold IsVasR at h ⊢
    obtain ⟨⟨c0, c1, c2, c3, c4, h1, h2⟩, h3⟩ := h
    exact ⟨⟨c0, c1, c2, c3, c4, fun j v hv => (World.cell?_of_block (w := w) hb).trans (h1 j v hv), IsVaR.keep hk h2⟩, IsVasR.keep hk hb h3⟩
end
theorem IsVa.keep {w w' : World} {B : Nat} (hk : ∀ b, b < B → w'.heap[b]? = w.heap[b]?) {v : Value} {x : Va} (h : IsVa w B v x) : IsVa w' B v x := IsVaR.keep (fun b _ hb => hk b hb) h
theorem IsVas.keep {w w' : World} {B : Nat} (hk : ∀ b, b < B → w'.heap[b]? = w.heap[b]?) {b : Nat} (hb : b < B) {o : Nat} {l : List Va} (h : IsVas w B b o l) : IsVas w' B b o l := IsVasR.keep (fun b _ hb => hk b hb) (hk b hb) h
mutual
theorem IsVaR.mono {w : World} {R R' : Nat → Nat → Prop} (hk : ∀ b o, R b o → R' b o) : ∀ {v : Value} {x : Va}, IsVaR w R v x → IsVaR w R' v x
  | v, .mk k n s l r, h => by
    unfold IsVaR at h ⊢
    obtain ⟨h1, h2, h3, h4, A, cap, h5, h6, h7⟩ := h
    refine ⟨h1, h2, h3, h4, A, cap, h5, h6, fun hl => ?_⟩
    obtain ⟨b, o, hb, hA, hx⟩ := h7 hl
    exact ⟨b, o, hk b o hb, hA, IsVasR.mono hk hx⟩
theorem IsVasR.mono {w : World} {R R' : Nat → Nat → Prop} (hk : ∀ b o, R b o → R' b o) {b : Nat} : ∀ {o : Nat} {l : List Va}, IsVasR w R b o l → IsVasR w R' b o l
  | _, [], _ => by unfold IsVasR; trivial
  | _, x :: l, h => by
    unfold IsVasR at h ⊢
    obtain ⟨⟨c0, c1, c2, c3, c4, h1, h2⟩, h3⟩ := h
    exact ⟨⟨c0, c1, c2, c3, c4, h1, IsVaR.mono hk h2⟩, IsVasR.mono hk h3⟩
end
theorem IsVaR.form {w : World} {R : Nat → Nat → Prop} {v : Value} {k n : Int} {s : ByteArray} {l : List Va} {r : Int} (h : IsVaR w R v (.mk k n s l r)) :
    0 ≤ k ∧ k < 256 ∧ s.size ≤ 140737488351232 ∧ l.length ≤ 140737488351232 ∧ ∃ A cap, l.length ≤ cap ∧ v = .agg #[.int .u8 k, .int .i64 n, .string s, .slice A l.length cap, .int .i64 r] ∧
      (l ≠ [] → ∃ b o, R b o ∧ A = some ⟨b, o, Option.none⟩ ∧ IsVasR w R b o l) := by
  unfold IsVaR at h
  obtain ⟨h1, h2, h3, h4, h5⟩ := h
  exact ⟨h1, h2, h3, by omega, h5⟩
theorem IsVaR.len {w : World} {R : Nat → Nat → Prop} {v : Value} {k n : Int} {s : ByteArray} {l : List Va} {r : Int} (h : IsVaR w R v (.mk k n s l r)) : l.length * 64 ≤ 140737488351232 := by unfold IsVaR at h; exact h.2.2.2.1
theorem IsVasR.at {w : World} {R : Nat → Nat → Prop} {b : Nat} : ∀ {o : Nat} {l : List Va}, IsVasR w R b o l → ∀ (i : Nat) (hi : i < l.length), ∃ c0 c1 c2 c3 c4, At w b (o + i * 5) [c0, c1, c2, c3, c4] ∧ IsVaR w R (.agg #[c0, c1, c2, c3, c4]) l[i]
  | o, x :: l, h, i, hi => by
    unfold IsVasR at h
    cases i with
    | zero => obtain ⟨c0, c1, c2, c3, c4, h1, h2⟩ := h.1; exact ⟨c0, c1, c2, c3, c4, by simpa using h1, h2⟩
    | succ i =>
      obtain ⟨c0, c1, c2, c3, c4, h1, h2⟩ := IsVasR.at h.2 i (by simpa using hi)
      exact ⟨c0, c1, c2, c3, c4, by rw [show o + (i + 1) * 5 = o + 5 + i * 5 by omega]; exact h1, h2⟩
theorem IsVaR.cells {w : World} {R : Nat → Nat → Prop} {c0 c1 c2 c3 c4 : Value} {x : Va} (h : IsVaR w R (.agg #[c0, c1, c2, c3, c4]) x) :
    ∃ k n s A len cap r, c0 = .int .u8 k ∧ c1 = .int .i64 n ∧ c2 = .string s ∧ c3 = .slice A len cap ∧ c4 = .int .i64 r := by
  obtain ⟨k, n, s, l, r⟩ := x
  obtain ⟨h1, h2, h3, h4, A, cap, h5, h6, h7⟩ := h.form
  simp only [Value.agg.injEq, Array.mk.injEq, List.cons.injEq, and_true] at h6
  exact ⟨k, n, s, A, _, cap, r, h6.1, h6.2.1, h6.2.2.1, h6.2.2.2.1, h6.2.2.2.2⟩
theorem IsVasR.at2 {w : World} {R : Nat → Nat → Prop} {b o : Nat} {l : List Va} (h : IsVasR w R b o l) (i : Nat) (hi : i < l.length) :
    ∃ k n s A len cap r, At w b (o + i * 5) [.int .u8 k, .int .i64 n, .string s, .slice A len cap, .int .i64 r] ∧ IsVaR w R (.agg #[.int .u8 k, .int .i64 n, .string s, .slice A len cap, .int .i64 r]) l[i] := by
  obtain ⟨c0, c1, c2, c3, c4, h1, h2⟩ := h.at i hi
  obtain ⟨k, n, s, A, len, cap, r, rfl, rfl, rfl, rfl, rfl⟩ := h2.cells
  exact ⟨k, n, s, A, len, cap, r, h1, h2⟩
theorem At.five {w : World} {b o : Nat} {c0 c1 c2 c3 c4 : Value} (h : At w b o [c0, c1, c2, c3, c4]) :
    w.cell? ⟨b, o, Option.none⟩ = some c0 ∧ w.cell? ⟨b, o + 1, Option.none⟩ = some c1 ∧ w.cell? ⟨b, o + 2, Option.none⟩ = some c2 ∧ w.cell? ⟨b, o + 3, Option.none⟩ = some c3 ∧ w.cell? ⟨b, o + 4, Option.none⟩ = some c4 :=
  ⟨h 0 _ rfl, h 1 _ rfl, h 2 _ rfl, h 3 _ rfl, h 4 _ rfl⟩

/-- A block known whole. -/
def BlkN (w : World) (b : Nat) (T : TypeId) (cs : Array Value) : Prop := w.heap[b]? = some (.cells cs T (0, 0))
namespace BlkN
variable {w w' : World} {b : Nat} {T : TypeId} {cs : Array Value}
theorem lt (h : BlkN w b T cs) : b < w.heap.size := lt_of_block h
theorem cell (h : BlkN w b T cs) (j : Nat) {v : Value} (hv : cs[j]? = some v) : w.cell? ⟨b, j, Option.none⟩ = some v := by
  unfold BlkN at h
  simp [World.cell?, h, hv]
theorem free (h : BlkN w b T cs) (j : Nat) : w.frozen? ⟨b, j, Option.none⟩ = false := by
  unfold BlkN at h
  simp [World.frozen?, h]
theorem set (h : BlkN w b T cs) (j : Nat) (u : Value) : BlkN (w.setCell ⟨b, j, Option.none⟩ u) b T (cs.setIfInBounds j u) := by
  have hlt := h.lt
  unfold BlkN at h ⊢
  have h' : w.heap[b] = .cells cs T (0, 0) := by simpa [Array.getElem?_eq_getElem hlt] using h
  show (w.heap.modify b _)[b]? = _
  rw [Array.getElem?_eq_getElem (by simpa using hlt), Array.getElem_modify_self, h']
  rfl
theorem at_ {w : World} {b : Nat} (h : b = w.heap.size) (T : TypeId) (cs : Array Value) : BlkN (w.alloc (.cells cs T)) b T cs := by
  subst h
  show (w.heap.push _)[w.heap.size]? = _
  simp
theorem alloc (h : BlkN w b T cs) (o : Obj) : BlkN (w.alloc o) b T cs := (Below.heap_alloc _ _ _ h.lt).trans h
theorem setOther (h : BlkN w b T cs) {q : Addr} (hq : b ≠ q.block) (u : Value) : BlkN (w.setCell q u) b T cs := (Below.heap_setCell _ _ _ _ hq).trans h
theorem below (h : BlkN w b T cs) (hb : Below w.heap.size w w') : BlkN w' b T cs := (hb.block b h.lt).trans h
theorem drewN (h : BlkN w b T cs) (k : Nat) : BlkN (w.drewN k) b T cs := h
theorem upd {p : Nat} (h : Upd p w w') (hb : BlkN w b T cs) (hn : b ≠ p) : BlkN w' b T cs := (h.block b hb.lt hn).trans hb
end BlkN
theorem len0 {α : Type} (l : List α) : (((l.length : Nat) : Int) == 0) = l.isEmpty := by cases l <;> simp; omega
theorem len1 {α : Type} (l : List α) : (((l.length : Nat) : Int) == 0) = decide (l.length = 0) := by rw [Bool.eq_iff_iff]; simp
theorem Upd.drewN {p : Nat} {a w : World} (h : Upd p a w) (n : Nat) : Upd p a (w.drewN n) := ⟨h.os, h.tape, h.output, h.size, h.block⟩
theorem info34 : (Try.prog.info? 49).map (fun i => (i.zero, i.size, i.bytes)) = some (some (.agg #[.int .u8 0, .int .i64 0, .string ⟨#[]⟩, .slice Option.none 0 0, .int .i64 0]), 5, 64) := by kernel_rfl
def zeroV : Array Value := #[.int .u8 0, .int .i64 0, .string ⟨#[]⟩, .slice Option.none 0 0, .int .i64 0]
/-- A block that the call made: an array of values. -/
def Own34 (w : World) (lo : Nat) (b o : Nat) : Prop := lo ≤ b ∧ o = 0 ∧ ∃ cur, BlkN w b 49 cur
theorem Own34.below {w w' : World} {lo b o : Nat} (h : Own34 w lo b o) (hb : Below w.heap.size w w') : Own34 w' lo b o :=
  let ⟨h1, h2, cur, h3⟩ := h
  ⟨h1, h2, cur, h3.below hb⟩
theorem Own34.lt {w : World} {lo b o : Nat} (h : Own34 w lo b o) : b < w.heap.size := let ⟨_, _, _, h3⟩ := h; h3.lt
theorem Own34.low {w : World} {lo lo' b o : Nat} (h : Own34 w lo b o) (hl : lo' ≤ lo) : Own34 w lo' b o := ⟨Nat.le_trans hl h.1, h.2⟩
theorem IsVaR.below {w w' : World} {lo : Nat} {v : Value} {x : Va} (h : IsVaR w (Own34 w lo) v x) (hb : Below w.heap.size w w') : IsVaR w' (Own34 w' lo) v x :=
  (h.keep (fun b _o hr => hb.block b hr.lt)).mono (fun _b _o hr => hr.below hb)
theorem IsVasR.snoc {w : World} {R : Nat → Nat → Prop} {b : Nat} {c0 c1 c2 c3 c4 : Value} {x : Va} (hx : IsVaR w R (.agg #[c0, c1, c2, c3, c4]) x) : ∀ {o : Nat} {l : List Va}, IsVasR w R b o l → At w b (o + l.length * 5) [c0, c1, c2, c3, c4] → IsVasR w R b o (l ++ [x])
  | o, [], _, hat => by
    simp only [List.nil_append]
    unfold IsVasR
    refine ⟨⟨c0, c1, c2, c3, c4, by simpa using hat, hx⟩, ?_⟩
    unfold IsVasR; trivial
  | o, y :: l, h, hat => by
    simp only [List.cons_append]
    unfold IsVasR at h ⊢
    refine ⟨h.1, IsVasR.snoc hx h.2 ?_⟩
    rw [show o + 5 + l.length * 5 = o + (y :: l).length * 5 by simp only [List.length_cons]; omega]
    exact hat
theorem BlkN.cell_eq {w : World} {b : Nat} {T : TypeId} {cs : Array Value} (h : BlkN w b T cs) (j : Nat) : w.cell? ⟨b, j, Option.none⟩ = cs[j]? := by
  unfold BlkN at h
  simp [World.cell?, h]
theorem IsVaR.shape {w : World} {R : Nat → Nat → Prop} {v : Value} {x : Va} (h : IsVaR w R v x) : ∃ k n s A len cap r, v = .agg #[.int .u8 k, .int .i64 n, .string s, .slice A len cap, .int .i64 r] := by
  obtain ⟨k, n, s, l, r⟩ := x
  obtain ⟨h1, h2, h3, h4, A, cap, h5, h6, h7⟩ := h.form
  exact ⟨k, n, s, A, _, cap, r, h6⟩
theorem BlkN.some {w : World} {b : Nat} {T : TypeId} {cs : Array Value} (h : BlkN w b T cs) (j : Nat) (hj : j < cs.size) : ∃ u, w.cell? ⟨b, j, Option.none⟩ = Option.some u :=
  ⟨cs[j], by rw [h.cell_eq, Array.getElem?_eq_getElem hj]⟩
def zeroVa : Va := .mk 0 0 ⟨#[]⟩ [] 0
theorem IsVaR.zero (w : World) (R : Nat → Nat → Prop) : IsVaR w R (.agg #[.int .u8 0, .int .i64 0, .string ⟨#[]⟩, .slice Option.none 0 0, .int .i64 0]) zeroVa := by
  unfold zeroVa IsVaR
  exact ⟨by omega, by omega, by show 0 ≤ _; omega, by simp, Option.none, 0, by simp, rfl, fun h => absurd rfl h⟩
theorem grown_of_below {a w : World} (h : Below a.heap.size a w) (row : Option Nat) : a.grownBy w row := ⟨h.os, h.tape, h.output, h.size, fun i hi _ => h.block i hi⟩
theorem own_below {w w' : World} {base : Nat} {e : TypeId} {size : Nat} {v : Value} {n : Nat} {xs : List Value} (h : w.ownsRow base e size v n xs) (hb : Below w.heap.size w w') : w'.ownsRow base e size v n xs :=
  h.kept (grown_of_below hb Option.none) (by cases v.ownBlock <;> simp)
theorem run_append_row {P : Program} (w : World) (base : Nat) (t ty e : TypeId) (i : TypeInfo) (z : Value) (size bytes : Nat) (ht : P.underlying t = some (.slice e)) (hi : P.info? e = some i) (hz : i.zero = some z)
    (hsize : i.size = size) (hby : i.bytes = bytes) (hzs : z.cells.size = size) (hsz : 0 < size)
    (v : Value) (n : Nat) (xs : List Value) (hown : w.ownsRow base e size v n xs)
    (a : Addr) (m c : Nat) (news : List Value) (hl : news.length = m * size) (hnews : ∀ j u, news[j]? = some u → w.cell? (a.add j) = some u) (h1 : ∀ u ∈ news, u.oneCell' = true)
    (h63 : n + m ≤ maxLen) (hbytes : (n + m) * bytes ≤ 140737488355328) (hbase : base ≤ w.heap.size) :
    ∃ v' w', (Builtin.append_ #[t, t] ty #[v, .slice (some a) m c]).run P w = .ok v' w' ∧ w'.ownsRow base e size v' (n + m) (xs ++ news) ∧ w.grownBy w' v.ownBlock ∧
      (v'.ownBlock = v.ownBlock ∨ ∃ g, v'.ownBlock = some g ∧ w.heap.size ≤ g) := by
  have low : ∀ {w' : World} {v' : Value} {n' : Nat} {xs' : List Value}, w'.ownsRow w.heap.size e size v' n' xs' → w'.ownsRow base e size v' n' xs' := by
    rintro w' v' n' xs' ⟨h1, h2⟩
    exact ⟨h1, h2.imp id fun ⟨g, cap, cur, a1, a2, a3⟩ => ⟨g, cap, cur, a1, Nat.le_trans hbase a2, a3⟩⟩
  rcases hown.2 with ⟨rfl, rfl⟩ | ⟨g, cap, cur, rfl, hbg, hg, hnc, hcm, hcs, htake⟩
  · have hx : xs = [] := List.eq_nil_of_length_eq_zero (by simpa using hown.1)
    subst hx
    obtain ⟨v', w', r1, r2, r3, r4⟩ := run_append_own (P := P) w w.heap.size t ty e i z size bytes ht hi hz hsize hby hzs hsz (.slice Option.none 0 0) 0 [] (World.ownsRow_nil _ _ _ _) a m c news hl hnews h1 h63 hbytes (Nat.le_refl _)
    refine ⟨v', w', r1, low r2, r3, ?_⟩
    rcases r2.2 with ⟨rfl, _⟩ | ⟨g, cap, cur, rfl, h, _⟩
    · exact .inl rfl
    · exact .inr ⟨g, rfl, h⟩
  · by_cases hroom : n + m ≤ cap
    · obtain ⟨w', hrun, r1, r2⟩ := run_append_fits (P := P) w base t ty e i size ht hi hsize g n cap xs hown a m c news hl hnews h1 hroom
      exact ⟨_, w', hrun, r1, r2, .inl rfl⟩
    · obtain ⟨v', w', hrun, r1, r2⟩ := run_append_arg_grows (P := P) w t ty e i z size bytes ht hi hz hsize hby hzs hsz ⟨g, 0, Option.none⟩ n cap xs hown.1 (hown.cells (g := g) rfl) a m c news hl hnews (by omega) h63 hbytes
      refine ⟨v', w', hrun, low r1, ⟨r2.os, r2.tape, r2.output, r2.size, fun k hk _ => r2.block k hk (by simp)⟩, ?_⟩
      rcases r1.2 with ⟨rfl, h0⟩ | ⟨g', cap', cur', rfl, h, _⟩
      · omega
      · exact .inr ⟨g', rfl, h⟩
theorem wpList_append_row {P : Program} (w : World) {ops : Array Oper} {rest : List Oper} {o : Oper} {a : Act} {Q : Exit → Act → World → Prop} (hgd : o.guard = Option.none) (s x : Operand) (t : TypeId)
    (ho : o.op = .call { callee := .builtin .append, args := #[s, x], argTypes := #[t, t] })
    (base : Nat) (e : TypeId) (i : TypeInfo) (z : Value) (size bytes : Nat) (ht : P.underlying t = some (.slice e)) (hi : P.info? e = some i) (hz : i.zero = some z)
    (hsize : i.size = size) (hby : i.bytes = bytes) (hzs : z.cells.size = size) (hsz : 0 < size)
    (v : Value) (n : Nat) (xs : List Value) (hs : a.eval s = v) (hown : w.ownsRow base e size v n xs)
    (ad : Addr) (m c : Nat) (news : List Value) (hx : a.eval x = .slice (some ad) m c) (hl : news.length = m * size) (hnews : ∀ j u, news[j]? = some u → w.cell? (ad.add j) = some u) (h1 : ∀ u ∈ news, u.oneCell' = true)
    (h63 : n + m ≤ maxLen) (hbytes : (n + m) * bytes ≤ 140737488355328) (hbase : base ≤ w.heap.size)
    (h : ∀ v' w', w'.ownsRow base e size v' (n + m) (xs ++ news) → w.grownBy w' v.ownBlock → (v'.ownBlock = v.ownBlock ∨ ∃ g, v'.ownBlock = some g ∧ w.heap.size ≤ g) → wpList P ops Q rest (a.put o.dst v') w') : wpList P ops Q (o :: rest) a w := by
  refine wpList_plain hgd fun K hK => ?_
  obtain ⟨v', w', hr, h2, h3, h4⟩ := run_append_row (P := P) w base t o.type e i z size bytes ht hi hz hsize hby hzs hsz v n xs hown ad m c news hl hnews h1 h63 hbytes hbase
  unfold Oper.wp execOp
  simp only [ho, resolve, invoke, builtin, Sem.run_bind, Sem.run_pure, Result.andThen_ok, List.map_toArray, List.map_cons, List.map_nil, hs, hx, hr]
  exact hK _ _ (h v' w' h2 h3 h4)
/-- Where an element's lists may lie: in blocks of the call's own, elsewhere than the row. -/
def OffRow (w : World) (lo : Nat) (v : Value) (b o : Nat) : Prop := Own34 w lo b o ∧ v.ownBlock ≠ some b
/-- v is a row of the call's own, of these cells, that reads as these values. -/
def VRow (w : World) (lo : Nat) (v : Value) (vs : List Va) (xs : List Value) : Prop :=
  w.ownsRow lo 49 5 v vs.length xs ∧ ∀ (i : Nat) (hi : i < vs.length), ∃ c0 c1 c2 c3 c4, (∀ j u, [c0, c1, c2, c3, c4][j]? = some u → xs[i * 5 + j]? = some u) ∧ IsVaR w (OffRow w lo v) (.agg #[c0, c1, c2, c3, c4]) vs[i]
theorem VRow.nil (w : World) (lo : Nat) : VRow w lo (.slice Option.none 0 0) [] [] := ⟨World.ownsRow_nil _ _ _ _, fun i hi => absurd hi (by simp)⟩
theorem VRow.below {w w' : World} {lo : Nat} {v : Value} {vs : List Va} {xs : List Value} (h : VRow w lo v vs xs) (hb : Below w.heap.size w w') : VRow w' lo v vs xs := by
  obtain ⟨h1, h2⟩ := h
  refine ⟨own_below h1 hb, fun i hi => ?_⟩
  obtain ⟨c0, c1, c2, c3, c4, h3, h4⟩ := h2 i hi
  exact ⟨c0, c1, c2, c3, c4, h3, (h4.keep (fun b o hr => hb.block b hr.1.lt)).mono (fun b o hr => ⟨hr.1.below hb, hr.2⟩)⟩
theorem VRow.blk {w : World} {lo : Nat} {v : Value} {vs : List Va} {xs : List Value} (h : VRow w lo v vs xs) {g : Nat} (hg : v.ownBlock = some g) : lo ≤ g ∧ g < w.heap.size := by
  rcases h.1.2 with ⟨rfl, _⟩ | ⟨g', cap, cur, rfl, h1, h2, _⟩
  · cases hg
  · simp only [Value.ownBlock, Option.some.injEq] at hg
    subst hg
    exact ⟨h1, lt_of_block h2⟩
theorem VRow.push {w w' : World} {lo lo2 : Nat} {v v' : Value} {vs : List Va} {xs : List Value} {c0 c1 c2 c3 c4 : Value} {x : Va} (h : VRow w lo v vs xs) (hx : IsVaR w (Own34 w lo2) (.agg #[c0, c1, c2, c3, c4]) x) (hlo : lo ≤ lo2) (hlt : ∀ g, v.ownBlock = some g → g < lo2)
    (hown : w'.ownsRow lo 49 5 v' (vs.length + 1) (xs ++ [c0, c1, c2, c3, c4])) (hg : w.grownBy w' v.ownBlock) (hor : v'.ownBlock = v.ownBlock ∨ ∃ g, v'.ownBlock = some g ∧ w.heap.size ≤ g) : VRow w' lo v' (vs ++ [x]) (xs ++ [c0, c1, c2, c3, c4]) := by
  obtain ⟨h1, h2⟩ := h
  have hxl : xs.length = vs.length * 5 := h1.1
  have hk : ∀ b o, OffRow w lo v b o → w'.heap[b]? = w.heap[b]? ∧ OffRow w' lo v' b o := fun b o hr => by
    have e := hg.block b hr.1.lt (fun e => hr.2 e.symm)
    refine ⟨e, ⟨hr.1.1, hr.1.2.1, let ⟨cur, hc⟩ := hr.1.2.2; ⟨cur, e.trans hc⟩⟩, ?_⟩
    rcases hor with ho | ⟨g, ho, hgs⟩
    · rw [ho]; exact hr.2
    · rw [ho]; intro e2; injection e2 with e3; have := hr.1.lt; omega
  refine ⟨by rw [List.length_append]; exact hown, fun i hi => ?_⟩
  by_cases hi' : i < vs.length
  · obtain ⟨d0, d1, d2, d3, d4, h3, h4⟩ := h2 i hi'
    refine ⟨d0, d1, d2, d3, d4, fun j u hu => ?_, ?_⟩
    · have h5 := h3 j u hu
      have hl := (List.getElem?_eq_some_iff.1 h5).1
      rw [List.getElem?_append_left hl]; exact h5
    · rw [List.getElem_append_left hi']
      exact (h4.keep (fun b o hr => (hk b o hr).1)).mono (fun b o hr => (hk b o hr).2)
  · have hil : i = vs.length := by simp at hi; omega
    subst hil
    refine ⟨c0, c1, c2, c3, c4, fun j u hu => ?_, ?_⟩
    · rw [← hxl, List.getElem?_append_right (by omega)]
      rw [show xs.length + j - xs.length = j by omega]; exact hu
    · have hx' : IsVaR w (OffRow w lo v) (.agg #[c0, c1, c2, c3, c4]) x := hx.mono (fun b o hr => ⟨hr.low hlo, fun e => by have := hlt b e; have := hr.1; omega⟩)
      rw [List.getElem_append_right (by omega)]
      simp only [Nat.sub_self, List.getElem_singleton]
      exact (hx'.keep (fun b o hr => (hk b o hr).1)).mono (fun b o hr => (hk b o hr).2)
theorem IsVasR.of {w : World} {R : Nat → Nat → Prop} {b : Nat} : ∀ {o : Nat} {l : List Va}, (∀ (i : Nat) (hi : i < l.length), ∃ c0 c1 c2 c3 c4, At w b (o + i * 5) [c0, c1, c2, c3, c4] ∧ IsVaR w R (.agg #[c0, c1, c2, c3, c4]) l[i]) → IsVasR w R b o l
  | _, [], _ => by unfold IsVasR; trivial
  | o, x :: l, h => by
    unfold IsVasR
    refine ⟨?_, IsVasR.of fun i hi => ?_⟩
    · obtain ⟨c0, c1, c2, c3, c4, h1, h2⟩ := h 0 (by simp)
      exact ⟨c0, c1, c2, c3, c4, by simpa using h1, h2⟩
    · obtain ⟨c0, c1, c2, c3, c4, h1, h2⟩ := h (i + 1) (by simpa using hi)
      exact ⟨c0, c1, c2, c3, c4, by rw [show o + 5 + i * 5 = o + (i + 1) * 5 by omega]; exact h1, h2⟩
theorem VRow.list {w : World} {lo : Nat} {v : Value} {vs : List Va} {xs : List Value} (h : VRow w lo v vs xs) :
    ∃ A cap, v = .slice A vs.length cap ∧ vs.length ≤ cap ∧ (vs ≠ [] → ∃ b o, Own34 w lo b o ∧ A = some ⟨b, o, Option.none⟩ ∧ IsVasR w (Own34 w lo) b o vs) := by
  obtain ⟨h1, h2⟩ := h
  rcases h1.2 with ⟨rfl, h0⟩ | ⟨g, cap, cur, rfl, hb, hg, hc, _, hcs, htake⟩
  · exact ⟨Option.none, 0, by rw [h0], by omega, fun hne => absurd (List.length_eq_zero_iff.1 h0) hne⟩
  · refine ⟨_, cap, rfl, hc, fun _ => ⟨g, 0, ⟨hb, rfl, cur, hg⟩, rfl, IsVasR.of fun i hi => ?_⟩⟩
    obtain ⟨c0, c1, c2, c3, c4, h3, h4⟩ := h2 i hi
    refine ⟨c0, c1, c2, c3, c4, fun j u hu => ?_, h4.mono (fun b o hr => hr.1)⟩
    have hj : j < 5 := by have := (List.getElem?_eq_some_iff.1 hu).1; simpa using this
    rw [Nat.zero_add, h1.cellAt _ (by omega)]
    exact h3 j u hu
theorem Upd.grown {p : Nat} {a w w' : World} {row : Option Nat} (h : Upd p a w) (hg : w.grownBy w' row) (hr : ∀ g, row = some g → a.heap.size ≤ g) : Upd p a w' :=
  ⟨hg.os.trans h.os, hg.tape.trans h.tape, hg.output.trans h.output, Nat.le_trans h.size hg.size, fun k hk hn => (hg.block k (Nat.lt_of_lt_of_le hk h.size) (fun e => by have := hr k e.symm; omega)).trans (h.block k hk hn)⟩
theorem own_upd {p : Nat} {w w' : World} {base : Nat} {e : TypeId} {size : Nat} {v : Value} {n : Nat} {xs : List Value} (h : w.ownsRow base e size v n xs) (hu : Upd p w w') (hp : p < base) : w'.ownsRow base e size v n xs := by
  refine ⟨h.1, ?_⟩
  rcases h.2 with h2 | ⟨g, cap, cur, rfl, hb, hg, r⟩
  · exact .inl h2
  · exact .inr ⟨g, cap, cur, rfl, hb, (hu.block g (lt_of_block hg) (by omega)).trans hg, r⟩
theorem VRow.upd {p : Nat} {w w' : World} {lo : Nat} {v : Value} {vs : List Va} {xs : List Value} (h : VRow w lo v vs xs) (hu : Upd p w w') (hp : p < lo) : VRow w' lo v vs xs := by
  obtain ⟨h1, h2⟩ := h
  refine ⟨own_upd h1 hu hp, fun i hi => ?_⟩
  obtain ⟨c0, c1, c2, c3, c4, h3, h4⟩ := h2 i hi
  have hk : ∀ b o, OffRow w lo v b o → w'.heap[b]? = w.heap[b]? := fun b o hr => hu.block b hr.1.lt (by have := hr.1.1; omega)
  exact ⟨c0, c1, c2, c3, c4, h3, (h4.keep hk).mono (fun b o hr => ⟨⟨hr.1.1, hr.1.2.1, let ⟨cur, hc⟩ := hr.1.2.2; ⟨cur, (hk b o hr).trans hc⟩⟩, hr.2⟩)⟩
theorem add_lit (g j : Nat) : (⟨g, 0, Option.none⟩ : Addr).add j = ⟨g, j, Option.none⟩ := by unfold Addr.add; split <;> simp_all
theorem row_new (w : World) (cs : List Value) (T : TypeId) : ∀ j u, cs[j]? = some u → (w.alloc (.cells cs.toArray T)).cell? ((⟨w.heap.size, 0, Option.none⟩ : Addr).add j) = some u := by
  intro j u hu
  rw [add_lit, (BlkN.at_ (w := w) rfl T cs.toArray).cell_eq]
  simpa using hu
theorem bnext {a b c : World} (h : Below a.heap.size a b) (k : Below b.heap.size b c) : Below a.heap.size a c := h.trans (k.mono h.size)
end Go.Proofs.Ythafojadcodkoaa
