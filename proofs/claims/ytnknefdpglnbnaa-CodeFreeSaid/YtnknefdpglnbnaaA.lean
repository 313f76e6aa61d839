/- Plain data of the laws on code: expressions, values, statements as trees, and what it is for a Go value to read as one in a world. The first contracts of package code: MayName. -/
import Derived.Test.YtnknefdpglnbnaaRows
import Derived.WalkKit
import Derived.Lib.Hide
import Derived.WalkSpells
import Derived.WalkLawsBesides
import Derived.Laws.IdiomStrings
import Derived.Laws.Strings
namespace Go.Proofs.Ytnknefdpglnbnaa
open Go.RowKit

inductive Ex where
  | mk (k n : Int) (s : ByteArray) (l : List Ex)
inductive Va where
  | mk (k n : Int) (s : ByteArray) (l : List Va) (r : Int)
inductive St where
  | mk (op : Int) (nm sec : ByteArray) (ab wh : Int) (a b : Ex) (t e c : List St) (ws : List ByteArray)

theorem Ex.ind {P : Ex → Prop} (h : ∀ k n s l, (∀ x ∈ l, P x) → P (.mk k n s l)) : ∀ x, P x
  | .mk k n s l => h k n s l (fun x _ => Ex.ind h x)
theorem Va.ind {P : Va → Prop} (h : ∀ k n s l r, (∀ x ∈ l, P x) → P (.mk k n s l r)) : ∀ x, P x
  | .mk k n s l r => h k n s l r (fun x _ => Va.ind h x)
theorem St.ind {P : St → Prop} (h : ∀ op nm sec ab wh a b t e c ws, (∀ x ∈ t, P x) → (∀ x ∈ e, P x) → (∀ x ∈ c, P x) → P (.mk op nm sec ab wh a b t e c ws)) : ∀ x, P x
  | .mk op nm sec ab wh a b t e c ws => h op nm sec ab wh a b t e c ws (fun x _ => St.ind h x) (fun x _ => St.ind h x) (fun x _ => St.ind h x)

/-- The cells from an address on hold these values. -/
def At (w : World) (b o : Nat) (cs : List Value) : Prop := ∀ j v, cs[j]? = some v → w.cell? ⟨b, o + j, Option.none⟩ = some v

mutual
/-- v reads as the expression; the lists lie at places of R. -/
def IsExR (w : World) (R : Nat → Nat → Prop) : Value → Ex → Prop
  | v, .mk k n s l => 0 ≤ k ∧ k < 256 ∧ s.size ≤ 140737488351232 ∧ l.length * 56 ≤ 140737488351232 ∧ ∃ A cap, l.length ≤ cap ∧ v = .agg #[.int .u8 k, .int .i64 n, .string s, .slice A l.length cap] ∧
      (l ≠ [] → ∃ b o, R b o ∧ A = some ⟨b, o, Option.none⟩ ∧ IsExsR w R b o l)
def IsExsR (w : World) (R : Nat → Nat → Prop) (b o : Nat) : List Ex → Prop
  | [] => True
  | x :: l => (∃ c0 c1 c2 c3, At w b o [c0, c1, c2, c3] ∧ IsExR w R (.agg #[c0, c1, c2, c3]) x) ∧ IsExsR w R b (o + 4) l
end
/-- .. all lists in blocks below B. -/
abbrev IsEx (w : World) (B : Nat) : Value → Ex → Prop := IsExR w (fun b _ => b < B)
abbrev IsExs (w : World) (B : Nat) : Nat → Nat → List Ex → Prop := IsExsR w (fun b _ => b < B)
/-! ### Worlds that grow -/
/-- A block of one cell. -/
def Blk (w : World) (b : Nat) (T : TypeId) (v : Value) : Prop := w.heap[b]? = some (.cells #[v] T (0, 0))
theorem Blk.cell {w : World} {b : Nat} {T : TypeId} {v : Value} (h : Blk w b T v) : w.cell? ⟨b, 0, Option.none⟩ = some v := cell_of_one h
theorem Blk.free {w : World} {b : Nat} {T : TypeId} {v : Value} (h : Blk w b T v) : w.frozen? ⟨b, 0, Option.none⟩ = false := free_of_one h
theorem Blk.lt {w : World} {b : Nat} {T : TypeId} {v : Value} (h : Blk w b T v) : b < w.heap.size := lt_of_block h
theorem Blk.set {w : World} {b : Nat} {T : TypeId} {v : Value} (h : Blk w b T v) (u : Value) : Blk (w.setCell ⟨b, 0, Option.none⟩ u) b T u := one_setCell h
theorem Blk.new (w : World) (T : TypeId) (v : Value) : Blk (w.alloc (.cells #[v] T)) w.heap.size T v := by
  show (w.heap.push _)[w.heap.size]? = _
  simp
/-- w' is w with new blocks and other contents in block p alone. -/
structure Upd (p : Nat) (w w' : World) : Prop where
  os : w'.os = w.os
  tape : w'.tape = w.tape
  output : w'.output = w.output
  size : w.heap.size ≤ w'.heap.size
  block : ∀ k, k < w.heap.size → k ≠ p → w'.heap[k]? = w.heap[k]?
namespace Upd
variable {p : Nat} {a w w' : World}
theorem refl (p : Nat) (w : World) : Upd p w w := ⟨rfl, rfl, rfl, Nat.le_refl _, fun _ _ _ => rfl⟩
theorem trans (h : Upd p a w) (k : Upd p w w') : Upd p a w' :=
  ⟨k.os.trans h.os, k.tape.trans h.tape, k.output.trans h.output, Nat.le_trans h.size k.size, fun i hi hn => (k.block i (Nat.lt_of_lt_of_le hi h.size) hn).trans (h.block i hi hn)⟩
theorem drew (h : Upd p a w) : Upd p a w.drew := ⟨h.os, h.tape, h.output, h.size, h.block⟩
theorem alloc (h : Upd p a w) (o : Obj) : Upd p a (w.alloc o) :=
  h.trans ⟨rfl, rfl, rfl, by simp, fun k hk _ => Below.heap_alloc _ _ _ hk⟩
theorem set (h : Upd p a w) (o : Nat) (u : Value) : Upd p a (w.setCell ⟨p, o, Option.none⟩ u) :=
  h.trans ⟨rfl, rfl, rfl, by simp [World.setCell], fun k _ hn => Below.heap_setCell _ _ _ _ hn⟩
/-- A store into a block that is new. -/
theorem setNew (h : Upd p a w) {q : Addr} (hq : a.heap.size ≤ q.block) (u : Value) : Upd p a (w.setCell q u) :=
  ⟨h.os, h.tape, h.output, by simpa [World.setCell] using h.size, fun k hk hn => (Below.heap_setCell _ _ _ _ (by omega)).trans (h.block k hk hn)⟩
theorem below (h : Upd p a w) (hb : Below w.heap.size w w') : Upd p a w' :=
  ⟨hb.os.trans h.os, hb.tape.trans h.tape, hb.output.trans h.output, Nat.le_trans h.size hb.size, fun k hk hn => (hb.block k (Nat.lt_of_lt_of_le hk h.size)).trans (h.block k hk hn)⟩
theorem ofBelow (h : Below w.heap.size w w') (p : Nat) : Upd p w w' := (refl p w).below h
/-- .. and the block is new: all that was there is as it was. -/
theorem toBelow (h : Upd p w w') (hp : a.heap.size ≤ p) (hb : Below a.heap.size a w) : Below a.heap.size a w' :=
  ⟨h.os.trans hb.os, h.tape.trans hb.tape, h.output.trans hb.output, Nat.le_trans hb.size h.size, fun k hk => (h.block k (Nat.lt_of_lt_of_le hk hb.size) (by omega)).trans (hb.block k hk)⟩
theorem keep (h : Upd p w w') {B : Nat} (hB : B ≤ p) (hs : B ≤ w.heap.size) : ∀ b, b < B → w'.heap[b]? = w.heap[b]? := fun b hb => h.block b (by omega) (by omega)
theorem blk (h : Upd p w w') {b : Nat} {T : TypeId} {v : Value} (hb : Blk w b T v) (hn : b ≠ p) : Blk w' b T v := (h.block b hb.lt hn).trans hb
end Upd
theorem Blk.below {w w' : World} {b : Nat} {T : TypeId} {v : Value} (h : Blk w b T v) (hb : Below w.heap.size w w') : Blk w' b T v := (hb.block b h.lt).trans h
theorem Blk.alloc {w : World} {b : Nat} {T : TypeId} {v : Value} (h : Blk w b T v) (o : Obj) : Blk (w.alloc o) b T v := (Below.heap_alloc _ _ _ h.lt).trans h
theorem Blk.setOther {w : World} {b : Nat} {T : TypeId} {v : Value} (h : Blk w b T v) {q : Addr} (hq : b ≠ q.block) (u : Value) : Blk (w.setCell q u) b T v := (Below.heap_setCell _ _ _ _ hq).trans h

theorem At.keep {w w' : World} {B b o : Nat} {cs : List Value} (h : At w b o cs) (hb : b < B) (hk : ∀ b, b < B → w'.heap[b]? = w.heap[b]?) : At w' b o cs :=
  fun j v hv => (World.cell?_of_block (w := w) (hk b hb)).trans (h j v hv)
mutual
theorem IsExR.keep {w w' : World} {R : Nat → Nat → Prop} (hk : ∀ b o, R b o → w'.heap[b]? = w.heap[b]?) : ∀ {v : Value} {x : Ex}, IsExR w R v x → IsExR w' R v x
  | v, .mk k n s l, h => by
    unfold IsExR at h ⊢
    obtain ⟨h1, h2, h3, h4, A, cap, h5, h6, h7⟩ := h
    refine ⟨h1, h2, h3, h4, A, cap, h5, h6, fun hl => ?_⟩
    obtain ⟨b, o, hb, hA, hx⟩ := h7 hl
    exact ⟨b, o, hb, hA, IsExsR.keep hk (hk b o hb) hx⟩
theorem IsExsR.keep {w w' : World} {R : Nat → Nat → Prop} (hk : ∀ b o, R b o → w'.heap[b]? = w.heap[b]?) {b : Nat} (hb : w'.heap[b]? = w.heap[b]?) : ∀ {o : Nat} {l : List Ex}, IsExsR w R b o l → IsExsR w' R b o l
  | _, [], _ => by unfold IsExsR; trivial
  | _, x :: l, h => by
    unfold IsExsR at h ⊢
    obtain ⟨⟨c0, c1, c2, c3, h1, h2⟩, h3⟩ := h
    exact ⟨⟨c0, c1, c2, c3, fun j v hv => (World.cell?_of_block (w := w) hb).trans (h1 j v hv), IsExR.keep hk h2⟩, IsExsR.keep hk hb h3⟩
end
theorem IsEx.keep {w w' : World} {B : Nat} (hk : ∀ b, b < B → w'.heap[b]? = w.heap[b]?) {v : Value} {x : Ex} (h : IsEx w B v x) : IsEx w' B v x := IsExR.keep (fun b _ hb => hk b hb) h
theorem IsExs.keep {w w' : World} {B : Nat} (hk : ∀ b, b < B → w'.heap[b]? = w.heap[b]?) {b : Nat} (hb : b < B) {o : Nat} {l : List Ex} (h : IsExs w B b o l) : IsExs w' B b o l := IsExsR.keep (fun b _ hb => hk b hb) (hk b hb) h
mutual
theorem IsExR.mono {w : World} {R R' : Nat → Nat → Prop} (hk : ∀ b o, R b o → R' b o) : ∀ {v : Value} {x : Ex}, IsExR w R v x → IsExR w R' v x
  | v, .mk k n s l, h => by
    unfold IsExR at h ⊢
    obtain ⟨h1, h2, h3, h4, A, cap, h5, h6, h7⟩ := h
    refine ⟨h1, h2, h3, h4, A, cap, h5, h6, fun hl => ?_⟩
    obtain ⟨b, o, hb, hA, hx⟩ := h7 hl
    exact ⟨b, o, hk b o hb, hA, IsExsR.mono hk hx⟩
theorem IsExsR.mono {w : World} {R R' : Nat → Nat → Prop} (hk : ∀ b o, R b o → R' b o) {b : Nat} : ∀ {o : Nat} {l : List Ex}, IsExsR w R b o l → IsExsR w R' b o l
  | _, [], _ => by unfold IsExsR; trivial
  | _, x :: l, h => by
    unfold IsExsR at h ⊢
    obtain ⟨⟨c0, c1, c2, c3, h1, h2⟩, h3⟩ := h
    exact ⟨⟨c0, c1, c2, c3, h1, IsExR.mono hk h2⟩, IsExsR.mono hk h3⟩
end
theorem IsExR.form {w : World} {R : Nat → Nat → Prop} {v : Value} {k n : Int} {s : ByteArray} {l : List Ex} (h : IsExR w R v (.mk k n s l)) :
    0 ≤ k ∧ k < 256 ∧ s.size ≤ 140737488351232 ∧ l.length ≤ 140737488351232 ∧ ∃ A cap, l.length ≤ cap ∧ v = .agg #[.int .u8 k, .int .i64 n, .string s, .slice A l.length cap] ∧
      (l ≠ [] → ∃ b o, R b o ∧ A = some ⟨b, o, Option.none⟩ ∧ IsExsR w R b o l) := by
  unfold IsExR at h
  obtain ⟨h1, h2, h3, h4, h5⟩ := h
  exact ⟨h1, h2, h3, by omega, h5⟩
theorem IsExR.len {w : World} {R : Nat → Nat → Prop} {v : Value} {k n : Int} {s : ByteArray} {l : List Ex} (h : IsExR w R v (.mk k n s l)) : l.length * 56 ≤ 140737488351232 := by unfold IsExR at h; exact h.2.2.2.1
theorem IsExsR.at {w : World} {R : Nat → Nat → Prop} {b : Nat} : ∀ {o : Nat} {l : List Ex}, IsExsR w R b o l → ∀ (i : Nat) (hi : i < l.length), ∃ c0 c1 c2 c3, At w b (o + i * 4) [c0, c1, c2, c3] ∧ IsExR w R (.agg #[c0, c1, c2, c3]) l[i]
  | o, x :: l, h, i, hi => by
    unfold IsExsR at h
    cases i with
    | zero => obtain ⟨c0, c1, c2, c3, h1, h2⟩ := h.1; exact ⟨c0, c1, c2, c3, by simpa using h1, h2⟩
    | succ i =>
      obtain ⟨c0, c1, c2, c3, h1, h2⟩ := IsExsR.at h.2 i (by simpa using hi)
      exact ⟨c0, c1, c2, c3, by rw [show o + (i + 1) * 4 = o + 4 + i * 4 by omega]; exact h1, h2⟩
theorem IsExR.cells {w : World} {R : Nat → Nat → Prop} {c0 c1 c2 c3 : Value} {x : Ex} (h : IsExR w R (.agg #[c0, c1, c2, c3]) x) :
    ∃ k n s A len cap, c0 = .int .u8 k ∧ c1 = .int .i64 n ∧ c2 = .string s ∧ c3 = .slice A len cap := by
  obtain ⟨k, n, s, l⟩ := x
  obtain ⟨h1, h2, h3, h4, A, cap, h5, h6, h7⟩ := h.form
  simp only [Value.agg.injEq, Array.mk.injEq, List.cons.injEq, and_true] at h6
  exact ⟨k, n, s, A, _, cap, h6.1, h6.2.1, h6.2.2.1, h6.2.2.2⟩
theorem IsExsR.at2 {w : World} {R : Nat → Nat → Prop} {b o : Nat} {l : List Ex} (h : IsExsR w R b o l) (i : Nat) (hi : i < l.length) :
    ∃ k n s A len cap, At w b (o + i * 4) [.int .u8 k, .int .i64 n, .string s, .slice A len cap] ∧ IsExR w R (.agg #[.int .u8 k, .int .i64 n, .string s, .slice A len cap]) l[i] := by
  obtain ⟨c0, c1, c2, c3, h1, h2⟩ := h.at i hi
  obtain ⟨k, n, s, A, len, cap, rfl, rfl, rfl, rfl⟩ := h2.cells
  exact ⟨k, n, s, A, len, cap, h1, h2⟩
theorem bcell {W w1 : World} (hb : Below W.heap.size W w1) : (∀ b o, b < W.heap.size → w1.cell? ⟨b, o, none⟩ = W.cell? ⟨b, o, none⟩) ∧ (∀ b o, b < W.heap.size → w1.frozen? ⟨b, o, none⟩ = W.frozen? ⟨b, o, none⟩) :=
  ⟨fun b o h => hb.cell (p := ⟨b, o, none⟩) h, fun b o h => hb.frozen (p := ⟨b, o, none⟩) h⟩
theorem ret_bool {a b : Bool} (h : a = b) : Ending.returned (.bool a) = .returned (.bool b) := by rw [h]
theorem ret_int {k : IntKind} {a b : Int} (h : a = b) : Ending.returned (.int k a) = .returned (.int k b) := by rw [h]
end Go.Proofs.Ytnknefdpglnbnaa
namespace Go.Proofs.Ytnknefdpglnbnaa
open Go.RowKit

def lowC (b : Nat) : Bool := decide (97 ≤ b) && decide (b ≤ 122)
def digC (b : Nat) : Bool := decide (48 ≤ b) && decide (b ≤ 57)
def lowDig (b : UInt8) : Bool := lowC b.toNat || digC b.toNat
def headOk (l : List UInt8) : Bool := match l with | [] => false | b :: _ => lowC b.toNat
def mayN (s : ByteArray) : Bool := decide (s.size ≤ 32) && headOk s.data.toList && s.data.toList.all lowDig
/-- What []byte(s) lays. -/
theorem bytes_new (w : World) (s : ByteArray) : ∃ cap W, (convert 9 77 (.string s)).run Try.prog w = .ok (.slice (some ⟨w.heap.size, 0, Option.none⟩) s.size cap) W ∧ Below w.heap.size w W ∧
    ∀ (j : Nat) (h : j < s.data.size), W.cell? ⟨w.heap.size, j, Option.none⟩ = some (.int .u8 ((s.data[j].toNat : Nat) : Int)) := by
  refine ⟨_, _, run_bytes_of_string w 9 77 5 s Try.underlying9 Try.underlying77 Try.underlying5, (Below.refl _ w).drew.alloc (by simp) _, fun j h => ?_⟩
  exact (World.cell?_alloc_mark w.drew _ _ _ _).trans (bytesRow_at s _ j h)
theorem all_take_succ (l : List UInt8) (k : Nat) (h : k < l.length) : (l.take (k + 1)).all lowDig = ((l.take k).all lowDig && lowDig l[k]) := by
  rw [List.take_succ_eq_append_getElem h, List.all_append]; simp
theorem all_take_false (l : List UInt8) (k : Nat) (h : k < l.length) (hf : lowDig l[k] = false) : l.all lowDig = false := by
  rw [List.all_eq_false]; exact ⟨l[k], List.getElem_mem h, by rw [hf]; exact Bool.false_ne_true⟩
theorem mayN_long (s : ByteArray) (h : 32 < s.size) : mayN s = false := by
  have : decide (s.size ≤ 32) = false := decide_eq_false (by omega)
  simp [mayN, this]
theorem mayN_head (s : ByteArray) (h : headOk s.data.toList = false) : mayN s = false := by simp [mayN, h]
theorem mayN_all (s : ByteArray) (h : s.data.toList.all lowDig = false) : mayN s = false := by unfold mayN; rw [h, Bool.and_false]
theorem headOk_at (s : ByteArray) (h : 0 < s.data.size) : headOk s.data.toList = lowC s.data[0].toNat := by
  obtain ⟨⟨l⟩⟩ := s
  cases l with
  | nil => simp at h
  | cons b t => rfl
set_option maxRecDepth 100000 in
set_option maxHeartbeats 400000 in
theorem mayName_any (s : ByteArray) (w : World) :
    Calls Try.prog 38 #[.string s] w fun e w' => e = .returned (.bool (mayN s)) ∧ Below w.heap.size w w' := by
  obtain ⟨cap, W, hconv, hB, hcells⟩ := bytes_new w s
  cases he : s.toList.isEmpty
  · have hpos : 0 < s.size := by
      rw [ByteArray.toList_eq] at he
      obtain ⟨⟨l⟩⟩ := s
      cases l with
      | nil => cases he
      | cons b t => show 0 < (b :: t).length; simp
    have HH := Lib.hid (headOk_at s hpos)
    by_cases hl : 32 < s.size
    · have HM := Lib.hid (mayN_long s hl)
      go_enter Try.func38, Try.ntmps38
      go_wp2
      go_ret
      exact ⟨by rw [HM.out]; rfl, Below.refl _ _⟩
    · obtain ⟨c, hc⟩ : ∃ c, c = s[0].toNat := ⟨_, rfl⟩
      have HC := Lib.hid hc
      by_cases h1 : c < 97
      · have HM : Hid (mayN s = false) := Lib.hid (mayN_head s (by rw [HH.out]; show lowC s[0].toNat = false; rw [← HC.out]; simp [lowC]; omega))
        rw [hc] at h1
        go_enter Try.func38, Try.ntmps38
        go_wp2
        go_ret
        exact ⟨by rw [HM.out]; rfl, Below.refl _ _⟩
      · by_cases h2 : 122 < c
        · have HM : Hid (mayN s = false) := Lib.hid (mayN_head s (by rw [HH.out]; show lowC s[0].toNat = false; rw [← HC.out]; simp [lowC]; omega))
          rw [hc] at h1 h2
          go_enter Try.func38, Try.ntmps38
          go_wp2
          go_ret
          exact ⟨by rw [HM.out]; rfl, Below.refl _ _⟩
        · have HM : Hid (headOk s.data.toList = true) := Lib.hid (by rw [HH.out]; show lowC s[0].toNat = true; rw [← HC.out]; simp [lowC]; omega)
          rw [hc] at h1 h2
          go_enter Try.func38, Try.ntmps38
          go_wp2
          clear h1 h2 hconv
          go_loop [25] (fun i => ∃ k : Nat, k ≤ s.size ∧ i = .int .i64 k ∧ (s.data.toList.take k).all lowDig = true) (fun i => s.size - (intOf i).toNat)
          case atStart => exact ⟨0, by omega, rfl, rfl⟩
          case round =>
            obtain ⟨k, hk, rfl, hall⟩ := hrel
            have HA := Lib.hid hall
            clear hall
            by_cases hlt : k < s.size
            · have hcell := hcells k hlt
              have HS := Lib.hid (all_take_succ s.data.toList k (by simpa using hlt))
              have HF := Lib.hid (all_take_false s.data.toList k (by simpa using hlt))
              have HCs := Lib.hid hcells
              clear hcells
              obtain ⟨b, hb⟩ : ∃ b, b = s.data[k] := ⟨_, rfl⟩
              have HB := Lib.hid hb
              rw [← hb] at hcell
              have hb' : (b.toNat : Int) < 256 := by have := b.toNat_lt; omega
              have hb0 : (0 : Int) ≤ b.toNat := by omega
              clear hb
              rcases (show (b.toNat : Int) < 48 ∨ (57 < (b.toNat : Int) ∧ (b.toNat : Int) < 97) ∨ 122 < (b.toNat : Int) ∨ (48 ≤ (b.toNat : Int) ∧ (b.toNat : Int) ≤ 57) ∨ (97 ≤ (b.toNat : Int) ∧ (b.toNat : Int) ≤ 122) from by omega) with h | ⟨h, h'⟩ | h | ⟨h, h'⟩ | ⟨h, h'⟩
              iterate 3
                · go_wp2
                  go_ret
                  exact ⟨by rw [mayN_all s (HF.out (by show lowDig s.data[k] = false; rw [← HB.out]; simp [lowDig, lowC, digC]; omega))]; rfl, hB⟩
              iterate 2
                · go_wp2
                  go_round
                  case rel => exact ⟨k + 1, by omega, by go_num, by rw [HS.out, HA.out, Bool.true_and]; show lowDig s.data[k] = true; rw [← HB.out]; simp [lowDig, lowC, digC]; omega⟩
                  case measure => simp [intOf]; omega
            · obtain rfl : k = s.size := by omega
              have HT : Hid (mayN s = true) := Lib.hid (by
                have h := HA.out
                rw [List.take_of_length_le (by simp)] at h
                simp only [mayN, HM.out, h, Bool.and_true, decide_eq_true_eq]; omega)
              go_wp2
              go_ret
              exact ⟨by rw [HT.out]; rfl, hB⟩
  · have HM : Hid (mayN s = false) := Lib.hid (mayN_head s (by
      rw [ByteArray.toList_eq] at he
      rw [List.isEmpty_iff.1 he]; rfl))
    go_enter Try.func38, Try.ntmps38
    go_wp2
    go_ret
    exact ⟨by rw [HM.out]; rfl, Below.refl _ _⟩
end Go.Proofs.Ytnknefdpglnbnaa
