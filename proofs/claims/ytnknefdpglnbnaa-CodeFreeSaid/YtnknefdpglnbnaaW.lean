/- What it is for a Go value to read as a plain value (api.Value); contracts of package value: take, measure, May, Parts. Contracts of package value's own, Own; of package code's Get. -/
import Derived.Test.YtnknefdpglnbnaaE
import Derived.BigQuiet
import Derived.Laws.MakeOwn
namespace Go.Proofs.Ytnknefdpglnbnaa
open Go.RowKit

mutual
/-- v reads as the value; the lists lie at places of R. -/
def IsVaR (w : World) (R : Nat → Nat → Prop) : Value → Va → Prop
  | v, .mk k n s l r => 0 ≤ k ∧ k < 256 ∧ s.size ≤ 140737488351232 ∧ l.length * 64 ≤ 140737488351232 ∧ ∃ A cap, l.length ≤ cap ∧ v = .agg #[.int .u8 k, .int .i64 n, .string s, .slice A l.length cap, .int .i64 r] ∧
      (l ≠ [] → ∃ b o, R b o ∧ A = some ⟨b, o, Option.none⟩ ∧ IsVasR w R b o l)
def IsVasR (w : World) (R : Nat → Nat → Prop) (b o : Nat) : List Va → Prop
  | [] => True
  | x :: l => (∃ c0 c1 c2 c3 c4, At w b o [c0, c1, c2, c3, c4] ∧ IsVaR w R (.agg #[c0, c1, c2, c3, c4]) x) ∧ IsVasR w R b (o + 5) l
end
/-- .. all lists in blocks below B. -/
abbrev IsVa (w : World) (B : Nat) : Value → Va → Prop := IsVaR w (fun b _ => b < B)
abbrev IsVas (w : World) (B : Nat) : Nat → Nat → List Va → Prop := IsVasR w (fun b _ => b < B)
mutual
theorem IsVaR.keep {w w' : World} {R : Nat → Nat → Prop} (hk : ∀ b o, R b o → w'.heap[b]? = w.heap[b]?) : ∀ {v : Value} {x : Va}, IsVaR w R v x → IsVaR w' R v x
  | v, .mk k n s l r, h => by
    unfold IsVaR at h ⊢
    obtain ⟨h1, h2, h3, h4, A, cap, h5, h6, h7⟩ := h
    refine ⟨h1, h2, h3, h4, A, cap, h5, h6, fun hl => ?_⟩
    obtain ⟨b, o, hb, hA, hx⟩ := h7 hl
    exact ⟨b, o, hb, hA, IsVasR.keep hk (hk b o hb) hx⟩
theorem IsVasR.keep {w w' : World} {R : Nat → Nat → Prop} (hk : ∀ b o, R b o → w'.heap[b]? = w.heap[b]?) {b : Nat} (hb : w'.heap[b]? = w.heap[b]?) : ∀ {o : Nat} {l : List Va}, IsVasR w R b o l → IsVasR w' R b o l
  | _, [], _ => by unfold IsVasR; trivial
  | _, x :: l, h => by
    unfold IsVasR at h ⊢
    obtain ⟨⟨c0, c1, c2, c3, c4, h1, h2⟩, h3⟩ := h
    exact ⟨⟨c0, c1, c2, c3, c4, fun j v hv => (World.cell?_of_block (w := w) hb).trans (h1 j v hv), IsVaR.keep hk h2⟩, IsVasR.keep hk hb h3⟩
end
theorem IsVa.keep {w w' : World} {B : Nat} (hk : ∀ b, b < B → w'.heap[b]? = w.heap[b]?) {v : Value} {x : Va} (h : IsVa w B v x) : IsVa w' B v x := IsVaR.keep (fun b _ hb => hk b hb) h
theorem IsVas.keep {w w' : World} {B : Nat} (hk : ∀ b, b < B → w'.heap[b]? = w.heap[b]?) {b : Nat} (hb : b < B) {o : Nat} {l : List Va} (h : IsVas w B b o l) : IsVas w' B b o l := IsVasR.keep (fun b _ hb => hk b hb) (hk b hb) h
mutual
theorem IsVaR.mono {w : World} {R R' : Nat → Nat → Prop} (hk : ∀ b o, R b o → R' b o) : ∀ {v : Value} {x : Va}, IsVaR w R v x → IsVaR w R' v x
  | v, .mk k n s l r, h => by
    unfold IsVaR at h ⊢
    obtain ⟨h1, h2, h3, h4, A, cap, h5, h6, h7⟩ := h
    refine ⟨h1, h2, h3, h4, A, cap, h5, h6, fun hl => ?_⟩
    obtain ⟨b, o, hb, hA, hx⟩ := h7 hl
    exact ⟨b, o, hk b o hb, hA, IsVasR.mono hk hx⟩
theorem IsVasR.mono {w : World} {R R' : Nat → Nat → Prop} (hk : ∀ b o, R b o → R' b o) {b : Nat} : ∀ {o : Nat} {l : List Va}, IsVasR w R b o l → IsVasR w R' b o l
  | _, [], _ => by unfold IsVasR; trivial
  | _, x :: l, h => by
    unfold IsVasR at h ⊢
    obtain ⟨⟨c0, c1, c2, c3, c4, h1, h2⟩, h3⟩ := h
    exact ⟨⟨c0, c1, c2, c3, c4, h1, IsVaR.mono hk h2⟩, IsVasR.mono hk h3⟩
end
theorem IsVaR.form {w : World} {R : Nat → Nat → Prop} {v : Value} {k n : Int} {s : ByteArray} {l : List Va} {r : Int} (h : IsVaR w R v (.mk k n s l r)) :
    0 ≤ k ∧ k < 256 ∧ s.size ≤ 140737488351232 ∧ l.length ≤ 140737488351232 ∧ ∃ A cap, l.length ≤ cap ∧ v = .agg #[.int .u8 k, .int .i64 n, .string s, .slice A l.length cap, .int .i64 r] ∧
      (l ≠ [] → ∃ b o, R b o ∧ A = some ⟨b, o, Option.none⟩ ∧ IsVasR w R b o l) := by
  unfold IsVaR at h
  obtain ⟨h1, h2, h3, h4, h5⟩ := h
  exact ⟨h1, h2, h3, by omega, h5⟩
theorem IsVaR.len {w : World} {R : Nat → Nat → Prop} {v : Value} {k n : Int} {s : ByteArray} {l : List Va} {r : Int} (h : IsVaR w R v (.mk k n s l r)) : l.length * 64 ≤ 140737488351232 := by unfold IsVaR at h; exact h.2.2.2.1
theorem IsVasR.at {w : World} {R : Nat → Nat → Prop} {b : Nat} : ∀ {o : Nat} {l : List Va}, IsVasR w R b o l → ∀ (i : Nat) (hi : i < l.length), ∃ c0 c1 c2 c3 c4, At w b (o + i * 5) [c0, c1, c2, c3, c4] ∧ IsVaR w R (.agg #[c0, c1, c2, c3, c4]) l[i]
  | o, x :: l, h, i, hi => by
    unfold IsVasR at h
    cases i with
    | zero => obtain ⟨c0, c1, c2, c3, c4, h1, h2⟩ := h.1; exact ⟨c0, c1, c2, c3, c4, by simpa using h1, h2⟩
    | succ i =>
      obtain ⟨c0, c1, c2, c3, c4, h1, h2⟩ := IsVasR.at h.2 i (by simpa using hi)
      exact ⟨c0, c1, c2, c3, c4, by rw [show o + (i + 1) * 5 = o + 5 + i * 5 by omega]; exact h1, h2⟩
theorem IsVaR.cells {w : World} {R : Nat → Nat → Prop} {c0 c1 c2 c3 c4 : Value} {x : Va} (h : IsVaR w R (.agg #[c0, c1, c2, c3, c4]) x) :
    ∃ k n s A len cap r, c0 = .int .u8 k ∧ c1 = .int .i64 n ∧ c2 = .string s ∧ c3 = .slice A len cap ∧ c4 = .int .i64 r := by
  obtain ⟨k, n, s, l, r⟩ := x
  obtain ⟨h1, h2, h3, h4, A, cap, h5, h6, h7⟩ := h.form
  simp only [Value.agg.injEq, Array.mk.injEq, List.cons.injEq, and_true] at h6
  exact ⟨k, n, s, A, _, cap, r, h6.1, h6.2.1, h6.2.2.1, h6.2.2.2.1, h6.2.2.2.2⟩
theorem IsVasR.at2 {w : World} {R : Nat → Nat → Prop} {b o : Nat} {l : List Va} (h : IsVasR w R b o l) (i : Nat) (hi : i < l.length) :
    ∃ k n s A len cap r, At w b (o + i * 5) [.int .u8 k, .int .i64 n, .string s, .slice A len cap, .int .i64 r] ∧ IsVaR w R (.agg #[.int .u8 k, .int .i64 n, .string s, .slice A len cap, .int .i64 r]) l[i] := by
  obtain ⟨c0, c1, c2, c3, c4, h1, h2⟩ := h.at i hi
  obtain ⟨k, n, s, A, len, cap, r, rfl, rfl, rfl, rfl, rfl⟩ := h2.cells
  exact ⟨k, n, s, A, len, cap, r, h1, h2⟩
theorem At.five {w : World} {b o : Nat} {c0 c1 c2 c3 c4 : Value} (h : At w b o [c0, c1, c2, c3, c4]) :
    w.cell? ⟨b, o, Option.none⟩ = some c0 ∧ w.cell? ⟨b, o + 1, Option.none⟩ = some c1 ∧ w.cell? ⟨b, o + 2, Option.none⟩ = some c2 ∧ w.cell? ⟨b, o + 3, Option.none⟩ = some c3 ∧ w.cell? ⟨b, o + 4, Option.none⟩ = some c4 :=
  ⟨h 0 _ rfl, h 1 _ rfl, h 2 _ rfl, h 3 _ rfl, h 4 _ rfl⟩

/-- A block known whole. -/
def BlkN (w : World) (b : Nat) (T : TypeId) (cs : Array Value) : Prop := w.heap[b]? = some (.cells cs T (0, 0))
namespace BlkN
variable {w w' : World} {b : Nat} {T : TypeId} {cs : Array Value}
theorem lt (h : BlkN w b T cs) : b < w.heap.size := lt_of_block h
theorem cell (h : BlkN w b T cs) (j : Nat) {v : Value} (hv : cs[j]? = some v) : w.cell? ⟨b, j, Option.none⟩ = some v := by
  unfold BlkN at h
  simp [World.cell?, h, hv]
theorem free (h : BlkN w b T cs) (j : Nat) : w.frozen? ⟨b, j, Option.none⟩ = false := by
  unfold BlkN at h
  simp [World.frozen?, h]
theorem set (h : BlkN w b T cs) (j : Nat) (u : Value) : BlkN (w.setCell ⟨b, j, Option.none⟩ u) b T (cs.setIfInBounds j u) := by
  have hlt := h.lt
  unfold BlkN at h ⊢
  have h' : w.heap[b] = .cells cs T (0, 0) := by simpa [Array.getElem?_eq_getElem hlt] using h
  show (w.heap.modify b _)[b]? = _
  rw [Array.getElem?_eq_getElem (by simpa using hlt), Array.getElem_modify_self, h']
  rfl
theorem at_ {w : World} {b : Nat} (h : b = w.heap.size) (T : TypeId) (cs : Array Value) : BlkN (w.alloc (.cells cs T)) b T cs := by
  subst h
  show (w.heap.push _)[w.heap.size]? = _
  simp
theorem alloc (h : BlkN w b T cs) (o : Obj) : BlkN (w.alloc o) b T cs := (Below.heap_alloc _ _ _ h.lt).trans h
theorem setOther (h : BlkN w b T cs) {q : Addr} (hq : b ≠ q.block) (u : Value) : BlkN (w.setCell q u) b T cs := (Below.heap_setCell _ _ _ _ hq).trans h
theorem below (h : BlkN w b T cs) (hb : Below w.heap.size w w') : BlkN w' b T cs := (hb.block b h.lt).trans h
theorem drewN (h : BlkN w b T cs) (k : Nat) : BlkN (w.drewN k) b T cs := h
theorem upd {p : Nat} (h : Upd p w w') (hb : BlkN w b T cs) (hn : b ≠ p) : BlkN w' b T cs := (h.block b hb.lt hn).trans hb
end BlkN

mutual
/-- What is left of the parts behind a value; none: it may not be. -/
def takeV : Va → Nat → Nat → Option Nat
  | .mk k n s l r, parts, nest =>
    match parts with
    | 0 => Option.none
    | q + 1 =>
      if k == 0 then (if n == 0 && s.toList.isEmpty && r == 0 && l.isEmpty then some q else Option.none)
      else if k == 1 then (if s.toList.isEmpty && r == 0 && l.isEmpty then some q else Option.none)
      else if k == 2 then (if decide ((s.size : Int) ≤ 256) && n == 0 && r == 0 && l.isEmpty then some q else Option.none)
      else if k == 4 then (if decide (1 ≤ r) && n == 0 && s.toList.isEmpty && l.isEmpty then some q else Option.none)
      else if k == 3 then (match nest with
        | 0 => Option.none
        | m + 1 => if q < l.length then Option.none else match takeVs l q m with
          | Option.none => Option.none
          | some q' => if n == 0 && s.toList.isEmpty && r == 0 then some q' else Option.none)
      else Option.none
def takeVs : List Va → Nat → Nat → Option Nat
  | [], parts, _ => some parts
  | x :: l, parts, nest => match takeV x parts nest with
    | Option.none => Option.none
    | some q => takeVs l q nest
end
/-- What take leaves. -/
def TakeP (p : Nat) (w : World) (o : Option Nat) (nest : Nat) (e : Ending) (w' : World) : Prop :=
  e = .returned (.bool o.isSome) ∧ (∀ q : Nat, o = some q → BlkN w' p 152 #[.int .i64 q, .int .i64 nest]) ∧ Upd p w w'
def TakeC (x : Va) : Prop := ∀ (w : World) (B : Nat) (v : Value) (p parts nest : Nat), IsVa w B v x → B ≤ p → BlkN w p 152 #[.int .i64 parts, .int .i64 nest] → parts ≤ 512 → nest ≤ 16 →
  Calls Try.prog 134 #[.pointer (some ⟨p, 0, Option.none⟩), v] w (TakeP p w (takeV x parts nest) nest)
theorem len0 {α : Type} (l : List α) : (((l.length : Nat) : Int) == 0) = l.isEmpty := by cases l <;> simp; omega
theorem len1 {α : Type} (l : List α) : (((l.length : Nat) : Int) == 0) = decide (l.length = 0) := by rw [Bool.eq_iff_iff]; simp
theorem some_ite {α : Type} (c : Prop) [Decidable c] (a : α) : (if c then some a else Option.none).isSome = decide c := by split <;> simp [*]
theorem takeV_plain (k n : Int) (s : ByteArray) (l : List Va) (r : Int) (q nest q' : Nat) (hk : ¬ k = 3) (h : takeV (.mk k n s l r) (q + 1) nest = some q') : q' = q := by
  unfold takeV at h
  by_cases h0 : k = 0
  · simp [h0] at h; exact h.2.symm
  · by_cases h1 : k = 1
    · simp [h1] at h; exact h.2.symm
    · by_cases h2 : k = 2
      · simp [h2] at h; exact h.2.symm
      · by_cases h4 : k = 4
        · simp [h4] at h; exact h.2.symm
        · simp [h0, h1, h2, hk, h4] at h
theorem Upd.drewN {p : Nat} {a w : World} (h : Upd p a w) (n : Nat) : Upd p a (w.drewN n) := ⟨h.os, h.tape, h.output, h.size, h.block⟩
theorem take_end {x : Va} {parts nest q : Nat} {b : Bool} {w : World} {p : Nat} (hb : b = (takeV x parts nest).isSome) (hq : ∀ q', takeV x parts nest = some q' → q' = q) (hp : BlkN w p 152 #[.int .i64 parts, .int .i64 nest]) (o1 o2 : Obj) :
    TakeP p w (takeV x parts nest) nest (.returned (.bool b)) (((w.setCell ⟨p, 0, Option.none⟩ (.int .i64 q)).alloc o1).alloc o2) := by
  refine ⟨by rw [hb], fun q' h => ?_, (((Upd.refl p w).set 0 _).alloc _).alloc _⟩
  rw [hq q' h]
  exact ((hp.set 0 (.int .i64 q)).alloc _).alloc _
set_option maxRecDepth 100000 in
set_option maxHeartbeats 1000000 in
theorem take_zero (k n : Int) (s : ByteArray) (l : List Va) (r : Int) (A : Option Addr) (cap : Nat) (w : World) (p parts nest : Nat) (_h4 : l.length ≤ 140737488351232) (hp : BlkN w p 152 #[.int .i64 parts, .int .i64 nest]) (h512 : parts ≤ 512) (_hn : nest ≤ 16) (hz : parts = 0) :
    Calls Try.prog 134 #[.pointer (some ⟨p, 0, Option.none⟩), .agg #[.int .u8 k, .int .i64 n, .string s, .slice A l.length cap, .int .i64 r]] w (TakeP p w (takeV (.mk k n s l r) parts nest) nest) := by
  have hc0 := hp.cell 0 rfl
  have hf0 := hp.free 0
  have hc1 := hp.cell 1 rfl
  have hf1 := hp.free 1
  obtain ⟨l0, l1, l2, l3, l4⟩ := lts hp.lt
  have HP := Lib.hid hp
  clear hp
  subst hz
  go_enter Try.func134, Try.ntmps134
  go_wp2_with fail
  go_ret
  exact ⟨by simp [takeV], fun q h => by simp [takeV] at h, (Upd.refl p w).alloc _⟩
set_option maxRecDepth 100000 in
set_option maxHeartbeats 1000000 in
theorem take_k0 (k n : Int) (s : ByteArray) (l : List Va) (r : Int) (A : Option Addr) (cap : Nat) (w : World) (p parts nest : Nat) (_h4 : l.length ≤ 140737488351232) (hp : BlkN w p 152 #[.int .i64 parts, .int .i64 nest]) (h512 : parts ≤ 512) (_hn : nest ≤ 16) (hz : 0 < parts) (hk : k = 0) :
    Calls Try.prog 134 #[.pointer (some ⟨p, 0, Option.none⟩), .agg #[.int .u8 k, .int .i64 n, .string s, .slice A l.length cap, .int .i64 r]] w (TakeP p w (takeV (.mk k n s l r) parts nest) nest) := by
  have hc0 := hp.cell 0 rfl
  have hf0 := hp.free 0
  have hc1 := hp.cell 1 rfl
  have hf1 := hp.free 1
  obtain ⟨l0, l1, l2, l3, l4⟩ := lts hp.lt
  have HP := Lib.hid hp
  clear hp
  subst hk
  obtain ⟨q, rfl⟩ : ∃ q, parts = q + 1 := ⟨parts - 1, by omega⟩
  go_enter Try.func134, Try.ntmps134
  go_wp2_with fail
  all_goals
    go_ret
    exact take_end (by first | (simp [takeV, len1, some_ite, *]; done) | (simp [takeV, len1, some_ite, *]; intro h; omega)) (fun q' h => takeV_plain _ _ _ _ _ _ _ _ (by omega) h) HP.out _ _
set_option maxRecDepth 100000 in
set_option maxHeartbeats 1000000 in
theorem take_k1 (k n : Int) (s : ByteArray) (l : List Va) (r : Int) (A : Option Addr) (cap : Nat) (w : World) (p parts nest : Nat) (_h4 : l.length ≤ 140737488351232) (hp : BlkN w p 152 #[.int .i64 parts, .int .i64 nest]) (h512 : parts ≤ 512) (_hn : nest ≤ 16) (hz : 0 < parts) (hk : k = 1) :
    Calls Try.prog 134 #[.pointer (some ⟨p, 0, Option.none⟩), .agg #[.int .u8 k, .int .i64 n, .string s, .slice A l.length cap, .int .i64 r]] w (TakeP p w (takeV (.mk k n s l r) parts nest) nest) := by
  have hc0 := hp.cell 0 rfl
  have hf0 := hp.free 0
  have hc1 := hp.cell 1 rfl
  have hf1 := hp.free 1
  obtain ⟨l0, l1, l2, l3, l4⟩ := lts hp.lt
  have HP := Lib.hid hp
  clear hp
  subst hk
  obtain ⟨q, rfl⟩ : ∃ q, parts = q + 1 := ⟨parts - 1, by omega⟩
  go_enter Try.func134, Try.ntmps134
  go_wp2_with fail
  all_goals
    go_ret
    exact take_end (by first | (simp [takeV, len1, some_ite, *]; done) | (simp [takeV, len1, some_ite, *]; intro h; omega)) (fun q' h => takeV_plain _ _ _ _ _ _ _ _ (by omega) h) HP.out _ _
set_option maxRecDepth 100000 in
set_option maxHeartbeats 1000000 in
theorem take_k2 (k n : Int) (s : ByteArray) (l : List Va) (r : Int) (A : Option Addr) (cap : Nat) (w : World) (p parts nest : Nat) (_h4 : l.length ≤ 140737488351232) (hp : BlkN w p 152 #[.int .i64 parts, .int .i64 nest]) (h512 : parts ≤ 512) (_hn : nest ≤ 16) (hz : 0 < parts) (hk : k = 2) (hs3 : s.size ≤ 140737488351232) :
    Calls Try.prog 134 #[.pointer (some ⟨p, 0, Option.none⟩), .agg #[.int .u8 k, .int .i64 n, .string s, .slice A l.length cap, .int .i64 r]] w (TakeP p w (takeV (.mk k n s l r) parts nest) nest) := by
  have hc0 := hp.cell 0 rfl
  have hf0 := hp.free 0
  have hc1 := hp.cell 1 rfl
  have hf1 := hp.free 1
  obtain ⟨l0, l1, l2, l3, l4⟩ := lts hp.lt
  have HP := Lib.hid hp
  clear hp
  subst hk
  obtain ⟨q, rfl⟩ : ∃ q, parts = q + 1 := ⟨parts - 1, by omega⟩
  go_enter Try.func134, Try.ntmps134
  go_wp2_with fail
  all_goals
    go_ret
    exact take_end (by first | (simp [takeV, len1, some_ite, *]; done) | (simp [takeV, some_ite, *]; intro h; omega)) (fun q' h => takeV_plain _ _ _ _ _ _ _ _ (by omega) h) HP.out _ _
set_option maxRecDepth 100000 in
set_option maxHeartbeats 1000000 in
theorem take_k4 (k n : Int) (s : ByteArray) (l : List Va) (r : Int) (A : Option Addr) (cap : Nat) (w : World) (p parts nest : Nat) (_h4 : l.length ≤ 140737488351232) (hp : BlkN w p 152 #[.int .i64 parts, .int .i64 nest]) (h512 : parts ≤ 512) (_hn : nest ≤ 16) (hz : 0 < parts) (hk : k = 4) :
    Calls Try.prog 134 #[.pointer (some ⟨p, 0, Option.none⟩), .agg #[.int .u8 k, .int .i64 n, .string s, .slice A l.length cap, .int .i64 r]] w (TakeP p w (takeV (.mk k n s l r) parts nest) nest) := by
  have hc0 := hp.cell 0 rfl
  have hf0 := hp.free 0
  have hc1 := hp.cell 1 rfl
  have hf1 := hp.free 1
  obtain ⟨l0, l1, l2, l3, l4⟩ := lts hp.lt
  have HP := Lib.hid hp
  clear hp
  subst hk
  obtain ⟨q, rfl⟩ : ∃ q, parts = q + 1 := ⟨parts - 1, by omega⟩
  go_enter Try.func134, Try.ntmps134
  go_wp2_with fail
  all_goals
    go_ret
    exact take_end (by first | (simp [takeV, len1, some_ite, *]; done) | (simp [takeV, some_ite, *]; intro h; omega)) (fun q' h => takeV_plain _ _ _ _ _ _ _ _ (by omega) h) HP.out _ _
set_option maxRecDepth 100000 in
set_option maxHeartbeats 1000000 in
theorem take_kx (k n : Int) (s : ByteArray) (l : List Va) (r : Int) (A : Option Addr) (cap : Nat) (w : World) (p parts nest : Nat) (_h4 : l.length ≤ 140737488351232) (hp : BlkN w p 152 #[.int .i64 parts, .int .i64 nest]) (h512 : parts ≤ 512) (_hn : nest ≤ 16) (hz : 0 < parts) (hk0 : ¬ k = 0) (hk1 : ¬ k = 1) (hk2 : ¬ k = 2) (hk3 : ¬ k = 3) (hk4 : ¬ k = 4) :
    Calls Try.prog 134 #[.pointer (some ⟨p, 0, Option.none⟩), .agg #[.int .u8 k, .int .i64 n, .string s, .slice A l.length cap, .int .i64 r]] w (TakeP p w (takeV (.mk k n s l r) parts nest) nest) := by
  have hc0 := hp.cell 0 rfl
  have hf0 := hp.free 0
  have hc1 := hp.cell 1 rfl
  have hf1 := hp.free 1
  obtain ⟨l0, l1, l2, l3, l4⟩ := lts hp.lt
  have HP := Lib.hid hp
  clear hp
  obtain ⟨q, rfl⟩ : ∃ q, parts = q + 1 := ⟨parts - 1, by omega⟩
  go_enter Try.func134, Try.ntmps134
  go_wp2_with fail
  all_goals
    go_ret
    exact take_end (by first | (simp [takeV, *]; done) | (simp [takeV, len1, some_ite, *]; intro h; omega)) (fun q' h => takeV_plain _ _ _ _ _ _ _ _ hk3 h) HP.out _ _
set_option maxRecDepth 100000 in
set_option maxHeartbeats 1000000 in
theorem take_k3n (k n : Int) (s : ByteArray) (l : List Va) (r : Int) (A : Option Addr) (cap : Nat) (w : World) (p parts nest : Nat) (_h4 : l.length ≤ 140737488351232) (hp : BlkN w p 152 #[.int .i64 parts, .int .i64 nest]) (h512 : parts ≤ 512) (hn : nest ≤ 16) (hz : 0 < parts) (hk : k = 3) (hn0 : nest = 0) :
    Calls Try.prog 134 #[.pointer (some ⟨p, 0, Option.none⟩), .agg #[.int .u8 k, .int .i64 n, .string s, .slice A l.length cap, .int .i64 r]] w (TakeP p w (takeV (.mk k n s l r) parts nest) nest) := by
  have hc0 := hp.cell 0 rfl
  have hf0 := hp.free 0
  have hc1 := hp.cell 1 rfl
  have hf1 := hp.free 1
  obtain ⟨l0, l1, l2, l3, l4⟩ := lts hp.lt
  have HP := Lib.hid hp
  clear hp
  subst hk hn0
  obtain ⟨q, rfl⟩ : ∃ q, parts = q + 1 := ⟨parts - 1, by omega⟩
  go_enter Try.func134, Try.ntmps134
  go_wp2_with fail
  go_quiet (fail)
  go_wp2_with fail
  go_ret
  exact ⟨by simp [takeV], fun q' h => by simp [takeV] at h, ((((Upd.refl p w).set 0 _).alloc _).alloc _).drewN _⟩
set_option maxRecDepth 100000 in
set_option maxHeartbeats 1000000 in
theorem take_k3g (k n : Int) (s : ByteArray) (l : List Va) (r : Int) (A : Option Addr) (cap : Nat) (w : World) (p q m : Nat) (_h4 : l.length ≤ 140737488351232) (hp : BlkN w p 152 #[.int .i64 ((q + 1 : Nat) : Int), .int .i64 ((m + 1 : Nat) : Int)]) (h512 : q ≤ 511) (hn : m ≤ 15) (hk : k = 3) (hg : q < l.length) :
    Calls Try.prog 134 #[.pointer (some ⟨p, 0, Option.none⟩), .agg #[.int .u8 k, .int .i64 n, .string s, .slice A l.length cap, .int .i64 r]] w (TakeP p w (takeV (.mk k n s l r) (q + 1) (m + 1)) (m + 1)) := by
  have hc0 := hp.cell 0 rfl
  have hf0 := hp.free 0
  have hc1 := hp.cell 1 rfl
  have hf1 := hp.free 1
  obtain ⟨l0, l1, l2, l3, l4⟩ := lts hp.lt
  have HP := Lib.hid hp
  clear hp
  subst hk
  have gl : (q : Int) < l.length := by omega
  have gq : ((((q : Nat) : Int) + 1) == 0) = false := by rw [beq_eq_false_iff_ne]; omega
  have gm : ((((m : Nat) : Int) + 1) == 0) = false := by rw [beq_eq_false_iff_ne]; omega
  go_enter Try.func134, Try.ntmps134
  go_wp2_with fail
  go_quiet (fail)
  go_wp2_with fail
  go_ret
  exact ⟨by simp [takeV, hg], fun q' h => by simp [takeV, hg] at h, ((((Upd.refl p w).set 0 _).alloc _).alloc _).drewN _⟩
theorem takeVs_take (l : List Va) (m : Nat) : ∀ (q i : Nat) (h : i < l.length), takeVs (l.take (i + 1)) q m = (takeVs (l.take i) q m).bind (fun q' => takeV l[i] q' m) := by
  induction l with
  | nil => intro q i h; simp at h
  | cons x l ih =>
    intro q i h
    cases i with
    | zero => simp [takeVs]; cases takeV x q m <;> rfl
    | succ i =>
      simp only [List.take_succ_cons, takeVs, List.getElem_cons_succ]
      cases takeV x q m with
      | none => rfl
      | some q' => exact ih q' i (by simpa using h)
theorem takeVs_stop (l : List Va) (m : Nat) : ∀ (q i : Nat), takeVs (l.take i) q m = Option.none → takeVs l q m = Option.none := by
  induction l with
  | nil => intro q i h; simpa using h
  | cons x l ih =>
    intro q i h
    cases i with
    | zero => simp [takeVs] at h
    | succ i =>
      simp only [List.take_succ_cons, takeVs] at h ⊢
      cases hx : takeV x q m with
      | none => rfl
      | some q' => simp only [hx] at h; exact ih q' i h
mutual
theorem takeV_le : ∀ (x : Va) (q m q' : Nat), takeV x q m = some q' → q' < q
  | .mk k n s l r, q, m, q', h => by
    cases q with
    | zero => unfold takeV at h; cases h
    | succ q =>
      by_cases hk : k = 3
      · subst hk
        unfold takeV at h
        cases m with
        | zero => simp at h
        | succ m =>
          simp only [show ((3 : Int) == 0) = false from rfl, show ((3 : Int) == 1) = false from rfl, show ((3 : Int) == 2) = false from rfl, show ((3 : Int) == 4) = false from rfl, show ((3 : Int) == 3) = true from rfl, if_true, Bool.false_eq_true, if_false] at h
          split at h
          · cases h
          · split at h
            · cases h
            · rename_i q2 h2
              split at h
              · simp at h; subst h; have := takeVs_le l q m q2 h2; omega
              · cases h
      · have := takeV_plain k n s l r q m q' hk h; omega
theorem takeVs_le : ∀ (l : List Va) (q m q' : Nat), takeVs l q m = some q' → q' ≤ q
  | [], q, m, q', h => by simp [takeVs] at h; omega
  | x :: l, q, m, q', h => by
    unfold takeVs at h
    split at h
    · cases h
    · rename_i q1 h1
      have a := takeV_le x q m q1 h1
      have b := takeVs_le l q1 m q' h
      omega
end
theorem takeV_list (n : Int) (s : ByteArray) (l : List Va) (r : Int) (q m : Nat) (hg : ¬ q < l.length) : takeV (.mk 3 n s l r) (q + 1) (m + 1) = (takeVs l q m).bind (fun q' => if n == 0 && s.toList.isEmpty && r == 0 then some q' else Option.none) := by
  unfold takeV
  simp only [show ((3 : Int) == 0) = false from rfl, show ((3 : Int) == 1) = false from rfl, show ((3 : Int) == 2) = false from rfl, show ((3 : Int) == 4) = false from rfl, show ((3 : Int) == 3) = true from rfl, if_true, Bool.false_eq_true, if_false, hg]
  cases takeVs l q m <;> rfl
set_option maxRecDepth 100000 in
set_option maxHeartbeats 2000000 in
theorem take_k3 (k n : Int) (s : ByteArray) (l : List Va) (r : Int) (A : Option Addr) (cap : Nat) (w : World) (p q m : Nat) (h4 : l.length ≤ 140737488351232) (hp : BlkN w p 152 #[.int .i64 ((q + 1 : Nat) : Int), .int .i64 ((m + 1 : Nat) : Int)]) (h512 : q ≤ 511) (hn : m ≤ 15) (hk : k = 3) (hg : ¬ q < l.length) (IH : ∀ x ∈ l, TakeC x) (B : Nat) (hB : B ≤ p) (h7 : l ≠ [] → ∃ b o, b < B ∧ A = some ⟨b, o, Option.none⟩ ∧ IsVas w B b o l) :
    Calls Try.prog 134 #[.pointer (some ⟨p, 0, Option.none⟩), .agg #[.int .u8 k, .int .i64 n, .string s, .slice A l.length cap, .int .i64 r]] w (TakeP p w (takeV (.mk k n s l r) (q + 1) (m + 1)) (m + 1)) := by
  have hc0 := hp.cell 0 rfl
  have hf0 := hp.free 0
  have hc1 := hp.cell 1 rfl
  have hf1 := hp.free 1
  obtain ⟨l0, l1, l2, l3, l4⟩ := lts hp.lt
  have HP := Lib.hid hp
  clear hp
  subst hk
  have gl : (l.length : Int) ≤ q := by omega
  have HI := Lib.hid IH
  have H7 := Lib.hid h7
  have HE := Lib.hid (takeV_list n s l r q m hg)
  clear IH h7
  have gq : ((((q : Nat) : Int) + 1) == 0) = false := by rw [beq_eq_false_iff_ne]; omega
  have gm : ((((m : Nat) : Int) + 1) == 0) = false := by rw [beq_eq_false_iff_ne]; omega
  go_enter Try.func134, Try.ntmps134
  go_wp2_with fail
  go_quiet (fail)
  go_wp2_with fail
  have hW : Upd p w (((((w.setCell ⟨p, 0, Option.none⟩ (.int .i64 q)).alloc (.cells #[.int .u8 3, .int .i64 n, .string s, .slice A l.length cap, .int .i64 r] 34)).alloc (.cells #[.int .u8 3, .int .i64 n, .string s, .slice A l.length cap, .int .i64 r] 34)).drewN nq).setCell ⟨p, 1, Option.none⟩ (.int .i64 m)) :=
    ((((((Upd.refl p w).set 0 _).alloc _).alloc _).drewN _).set 1 _)
  have hP : BlkN (((((w.setCell ⟨p, 0, Option.none⟩ (.int .i64 q)).alloc (.cells #[.int .u8 3, .int .i64 n, .string s, .slice A l.length cap, .int .i64 r] 34)).alloc (.cells #[.int .u8 3, .int .i64 n, .string s, .slice A l.length cap, .int .i64 r] 34)).drewN nq).setCell ⟨p, 1, Option.none⟩ (.int .i64 m)) p 152 #[.int .i64 q, .int .i64 m] :=
    ((((HP.out.set 0 (.int .i64 q)).alloc _).alloc _).drewN nq).set 1 (.int .i64 m)
  have hC : BlkN (((((w.setCell ⟨p, 0, Option.none⟩ (.int .i64 q)).alloc (.cells #[.int .u8 3, .int .i64 n, .string s, .slice A l.length cap, .int .i64 r] 34)).alloc (.cells #[.int .u8 3, .int .i64 n, .string s, .slice A l.length cap, .int .i64 r] 34)).drewN nq).setCell ⟨p, 1, Option.none⟩ (.int .i64 m)) (w.heap.size + 1) 34 #[.int .u8 3, .int .i64 n, .string s, .slice A l.length cap, .int .i64 r] :=
    (((BlkN.at_ (by simp) _ _).drewN nq).setOther (by simp; omega) _)
  have HW := Lib.hid hW
  have HPP := Lib.hid hP
  have HCC := Lib.hid hC
  clear hW hP hC hc0 hc1 hf0 hf1
  go_loopw [68] (fun i wr => ∃ k : Nat, k ≤ l.length ∧ i = .int .i64 k ∧ ∃ qi : Nat, takeVs (l.take k) q m = some qi ∧ BlkN wr p 152 #[.int .i64 qi, .int .i64 m] ∧ BlkN wr (w.heap.size + 1) 34 #[.int .u8 3, .int .i64 n, .string s, .slice A l.length cap, .int .i64 r] ∧ Upd p w wr) (fun i _ => l.length - (intOf i).toNat)
  case atStart => exact ⟨0, by omega, rfl, q, by simp [takeVs], HPP.out, HCC.out, HW.out⟩
  case round =>
    obtain ⟨k, hk, rfl, qi, ht, hpr, hcr, hu⟩ := hrel
    have HT := Lib.hid ht
    have HPR := Lib.hid hpr
    have HCR := Lib.hid hcr
    have HU := Lib.hid hu
    have hqi := takeVs_le _ _ _ _ ht
    clear ht hpr hcr hu
    by_cases hlt : k < l.length
    · obtain ⟨b, o, hbB, hA, hx⟩ := H7.out (by rintro rfl; simp at hlt)
      subst hA
      obtain ⟨k', n', s', A', len', cap', r', hat, hx1⟩ := hx.at2 k hlt
      have hat' := hat.keep hbB (HU.out.keep hB (Nat.le_trans hB (Nat.le_of_lt HP.out.lt)))
      obtain ⟨e0, e1, e2, e3, e4⟩ := hat'.five
      have HX1 := Lib.hid (IsVa.keep (w' := wr.alloc (.cells #[.int .u8 k', .int .i64 n', .string s', .slice A' len' cap', .int .i64 r'] 34)) ((HU.out.alloc _).keep hB (Nat.le_trans hB (Nat.le_of_lt HP.out.lt))) hx1)
      clear hat hat' hx hx1
      have hsz := HU.out.size
      go_wp2_with fail
      refine (HI.out _ (List.getElem_mem hlt) _ B _ p qi m HX1.out hB (HPR.out.alloc _) (by omega) (by omega)).mono ?_
      rintro e w1 ⟨rfl, hb1, hu1⟩
      have HS := Lib.hid (takeVs_take l m q k hlt)
      have HB1 := Lib.hid hb1
      have HU1 := Lib.hid hu1
      clear hb1 hu1 e0 e1 e2 e3 e4
      cases hr : takeV l[k] qi m with
      | none =>
        have HR : Hid (takeVs l q m = Option.none) := Lib.hid (takeVs_stop l m q (k + 1) (by rw [HS.out, HT.out]; exact hr))
        go_wp2
        go_ret
        refine ⟨by rw [HE.out, HR.out]; rfl, (fun q' h => by rw [HE.out, HR.out] at h; cases h), (HU.out.alloc _).trans HU1.out⟩
      | some q2 =>
        have HR := Lib.hid hr
        clear hr
        go_wp2
        go_roundw
        case rel => exact ⟨k + 1, by omega, by go_num, q2, by rw [HS.out, HT.out]; exact HR.out, HB1.out q2 HR.out, (HCR.out.alloc _).upd HU1.out (by omega), (HU.out.alloc _).trans HU1.out⟩
        case measure => simp [intOf]; omega
    · obtain rfl : k = l.length := by omega
      have g0 := HPR.out.cell 0 rfl
      have g1 := HPR.out.cell 1 rfl
      have f1 := HPR.out.free 1
      have d0 := HCR.out.cell 0 rfl
      have d1 := HCR.out.cell 1 rfl
      have d2 := HCR.out.cell 2 rfl
      have d3 := HCR.out.cell 3 rfl
      have d4 := HCR.out.cell 4 rfl
      have z3 := HCR.out.free 3
      have hT : Hid (takeVs l q m = some qi) := Lib.hid (by have := HT.out; rwa [List.take_length] at this)
      have hB1 : BlkN ((wr.setCell ⟨p, 1, Option.none⟩ (.int .i64 ((m : Int) + 1))).setCell ⟨w.heap.size + 1, 3, Option.none⟩ (.slice Option.none 0 0)) p 152 #[.int .i64 qi, .int .i64 ((m + 1 : Nat) : Int)] := (HPR.out.set 1 (.int .i64 ((m : Int) + 1))).setOther (by simp; omega) _
      have hU1 : Upd p w ((wr.setCell ⟨p, 1, Option.none⟩ (.int .i64 ((m : Int) + 1))).setCell ⟨w.heap.size + 1, 3, Option.none⟩ (.slice Option.none 0 0)) := (HU.out.set 1 _).setNew (by simp) _
      have HB1 := Lib.hid hB1
      have HU1 := Lib.hid hU1
      clear hB1 hU1
      go_wp2_with fail
      all_goals
        go_ret
        refine ⟨by rw [HE.out, hT.out]; simp [*], fun q' h => ?_, HU1.out⟩
        have hq : q' = qi := by
          rw [HE.out, hT.out] at h
          simp only [Option.bind_some] at h
          split at h
          · exact (Option.some.inj h).symm
          · cases h
        subst hq
        exact HB1.out
theorem take_any (x : Va) : TakeC x := by
  induction x using Va.ind with
  | h k n s l r IH =>
    intro w B v p parts nest h hB hp h512 hn
    obtain ⟨h1, h2, h3, h4, A, cap, h5, rfl, h7⟩ := h.form
    by_cases hz : parts = 0
    · exact take_zero k n s l r A cap w p parts nest h4 hp h512 hn hz
    have hz : 0 < parts := by omega
    by_cases hk0 : k = 0
    · exact take_k0 k n s l r A cap w p parts nest h4 hp h512 hn hz hk0
    by_cases hk1 : k = 1
    · exact take_k1 k n s l r A cap w p parts nest h4 hp h512 hn hz hk1
    by_cases hk2 : k = 2
    · exact take_k2 k n s l r A cap w p parts nest h4 hp h512 hn hz hk2 h3
    by_cases hk4 : k = 4
    · exact take_k4 k n s l r A cap w p parts nest h4 hp h512 hn hz hk4
    by_cases hk3 : k = 3
    · cases nest with
      | zero => exact take_k3n k n s l r A cap w p parts 0 h4 hp h512 hn hz hk3 rfl
      | succ m =>
        obtain ⟨q, rfl⟩ : ∃ q, parts = q + 1 := ⟨parts - 1, by omega⟩
        by_cases hg : q < l.length
        · exact take_k3g k n s l r A cap w p q m h4 hp (by omega) (by omega) hk3 hg
        · exact take_k3 k n s l r A cap w p q m h4 hp (by omega) (by omega) hk3 hg IH B hB h7
    · exact take_kx k n s l r A cap w p parts nest h4 hp h512 hn hz hk0 hk1 hk2 hk3 hk4
/-- How many parts; 0: it may not be. -/
def measV (x : Va) : Nat := match takeV x 512 16 with | Option.none => 0 | some q => 512 - q
def mayV (x : Va) : Bool := (takeV x 512 16).isSome
theorem measV_pos (x : Va) : decide (0 < measV x) = mayV x := by
  unfold measV mayV
  cases h : takeV x 512 16 with
  | none => simp
  | some q => have := takeV_le x 512 16 q h; simp; omega
theorem measV_le (x : Va) : measV x ≤ 512 := by
  unfold measV; split <;> omega
set_option maxRecDepth 100000 in
set_option maxHeartbeats 400000 in
theorem measure_any {B : Nat} {v : Value} {x : Va} (w : World) (h : IsVa w B v x) (hB : B ≤ w.heap.size) :
    Calls Try.prog 108 #[v] w fun e w' => e = .returned (.int .i64 (measV x)) ∧ Below w.heap.size w w' := by
  have HH := Lib.hid h
  obtain ⟨k, n, s, l, r⟩ := x
  obtain ⟨h1, h2, h3, h4, A, cap, h5, rfl, h7⟩ := h.form
  clear h h7
  obtain ⟨y, hy⟩ : ∃ y, y = Va.mk k n s l r := ⟨_, rfl⟩
  rw [← hy] at HH ⊢
  clear hy
  have HM : Hid (measV y = match takeV y 512 16 with | Option.none => 0 | some q => 512 - q) := rfl
  have HL := Lib.hid (takeV_le y 512 16)
  have HB : Below w.heap.size w ((w.alloc (.cells #[.int .u8 k, .int .i64 n, .string s, .slice A l.length cap, .int .i64 r] 34)).alloc (.cells #[.int .i64 512, .int .i64 16] 152)) := ((Below.refl _ _).alloc (Nat.le_refl _) _).alloc (by simp) _
  have HBB := Lib.hid HB
  clear HB
  go_enter Try.func108, Try.ntmps108
  go_wp2_with fail
  refine (take_any y _ B _ (w.heap.size + 1) 512 16 (HH.out.keep (fun b hb => HBB.out.block b (by omega))) (by omega) (BlkN.at_ (by simp) _ _) (by omega) (by omega)).mono ?_
  rintro e w1 ⟨rfl, hb, hu⟩
  have HU := Lib.hid hu
  have HR := Lib.hid hb
  clear hb hu
  cases ht : takeV y 512 16 with
  | none =>
    have HT := Lib.hid ht
    clear ht
    go_wp2
    go_ret
    exact ⟨by rw [HM.out, HT.out]; rfl, HU.out.toBelow (by omega) HBB.out⟩
  | some q =>
    have hq := HL.out q ht
    have hc := (HR.out q ht).cell 0 rfl
    have HT := Lib.hid ht
    clear ht
    go_wp2
    go_ret
    exact ⟨ret_int (by rw [HM.out, HT.out]; simp only; omega), HU.out.toBelow (by omega) HBB.out⟩
set_option maxRecDepth 100000 in
set_option maxHeartbeats 400000 in
theorem vmay_any {B : Nat} {v : Value} {x : Va} (w : World) (h : IsVa w B v x) (hB : B ≤ w.heap.size) :
    Calls Try.prog 64 #[v] w fun e w' => e = .returned (.bool (mayV x)) ∧ Below w.heap.size w w' := by
  have HH := Lib.hid h
  obtain ⟨k, n, s, l, r⟩ := x
  obtain ⟨h1, h2, h3, h4, A, cap, h5, rfl, h7⟩ := h.form
  clear h h7
  obtain ⟨y, hy⟩ : ∃ y, y = Va.mk k n s l r := ⟨_, rfl⟩
  rw [← hy] at HH ⊢
  clear hy
  have HP := Lib.hid (measV_pos y)
  have HB : Below w.heap.size w (w.alloc (.cells #[.int .u8 k, .int .i64 n, .string s, .slice A l.length cap, .int .i64 r] 34)) := (Below.refl _ _).alloc (Nat.le_refl _) _
  have HBB := Lib.hid HB
  clear HB
  go_enter Try.func64, Try.ntmps64
  go_wp2_with fail
  refine (measure_any (B := B) (x := y) _ (HH.out.keep (fun b hb => HBB.out.block b (by omega))) (by simp; omega)).mono ?_
  rintro e w1 ⟨rfl, hb⟩
  have HB1 := Lib.hid (HBB.out.trans (hb.mono (by simp)))
  clear hb
  go_wp2
  go_ret
  exact ⟨ret_bool (by rw [← HP.out]), HB1.out⟩
set_option maxRecDepth 100000 in
set_option maxHeartbeats 400000 in
theorem vparts_any {B : Nat} {v : Value} {x : Va} (w : World) (h : IsVa w B v x) (hB : B ≤ w.heap.size) :
    Calls Try.prog 107 #[v] w fun e w' => e = .returned (.int .i64 (measV x)) ∧ Below w.heap.size w w' := by
  have HH := Lib.hid h
  obtain ⟨k, n, s, l, r⟩ := x
  obtain ⟨h1, h2, h3, h4, A, cap, h5, rfl, h7⟩ := h.form
  clear h h7
  obtain ⟨y, hy⟩ : ∃ y, y = Va.mk k n s l r := ⟨_, rfl⟩
  rw [← hy] at HH ⊢
  clear hy
  have HP := Lib.hid (measV_pos y)
  have HB : Below w.heap.size w (w.alloc (.cells #[.int .u8 k, .int .i64 n, .string s, .slice A l.length cap, .int .i64 r] 34)) := (Below.refl _ _).alloc (Nat.le_refl _) _
  have HBB := Lib.hid HB
  clear HB
  go_enter Try.func107, Try.ntmps107
  go_wp2_with fail
  refine (measure_any (B := B) (x := y) _ (HH.out.keep (fun b hb => HBB.out.block b (by omega))) (by simp; omega)).mono ?_
  rintro e w1 ⟨rfl, hb⟩
  have HB1 := Lib.hid (HBB.out.trans (hb.mono (by simp)))
  clear hb
  go_wp2
  go_ret
  exact ⟨rfl, HB1.out⟩
end Go.Proofs.Ytnknefdpglnbnaa
namespace Go.Proofs.Ytnknefdpglnbnaa
open Go.RowKit

theorem run_make_rowN {P : Program} (t e : TypeId) (i : TypeInfo) (z : Value) (ht : P.underlying t = some (.slice e)) (hi : P.info? e = some i) (hz : i.zero = some z)
    (kl kc : IntKind) (n c : Nat) (hnc : n ≤ c) (hbytes : i.bytes * c ≤ 281474976710656) (h63 : c ≤ 9223372036854775807) (w : World) :
    (Instr.makeSlice t (.int kl (n : Int)) (.int kc (c : Int))).run P w = .ok (.slice (some ⟨w.heap.size, 0, Option.none⟩) n c) (w.alloc (.cells (madeCells z.cells (c * i.size)) e)) := by
  have hb : (i.bytes : Int) * (c : Int) ≤ 281474976710656 := by
    have h : ((i.bytes * c : Nat) : Int) ≤ 281474976710656 := by omega
    rwa [Int.natCast_mul] at h
  have hr := run_make (P := P) w t e i z ht hi hz kl kc n c (by omega) (by omega) hb (by omega)
  simp only [Int.toNat_natCast] at hr
  exact hr
theorem info34 : (Try.prog.info? 34).map (fun i => (i.zero, i.size, i.bytes)) = some (some (.agg #[.int .u8 0, .int .i64 0, .string ⟨#[]⟩, .slice Option.none 0 0, .int .i64 0]), 5, 64) := by kernel_rfl
def zeroV : Array Value := #[.int .u8 0, .int .i64 0, .string ⟨#[]⟩, .slice Option.none 0 0, .int .i64 0]
def madeV (n : Nat) : Array Value := madeCells zeroV (n * 5)
theorem madeV_size (n : Nat) : (madeV n).size = n * 5 := size_madeCells _ _
theorem make34 (n : Nat) (hn : n * 64 ≤ 140737488351232) (w : World) :
    (Instr.makeSlice 31 (.int .i64 (n : Int)) (.int .i64 (n : Int))).run Try.prog w = .ok (.slice (some ⟨w.heap.size, 0, Option.none⟩) n n) (w.alloc (.cells (madeV n) 34)) := by
  obtain ⟨i0, hi, hz0, hz1, hz2⟩ := info_parts info34
  have h := run_make_rowN (P := Try.prog) 31 34 i0 _ Try.underlying31 hi hz0 .i64 .i64 n n (Nat.le_refl _) (by rw [hz2]; omega) (by omega) w
  rw [hz1] at h
  exact h

/-- A block that the call made: an array of values. -/
def Own34 (w : World) (lo : Nat) (b o : Nat) : Prop := lo ≤ b ∧ o = 0 ∧ ∃ cur, BlkN w b 34 cur
theorem Own34.below {w w' : World} {lo b o : Nat} (h : Own34 w lo b o) (hb : Below w.heap.size w w') : Own34 w' lo b o :=
  let ⟨h1, h2, cur, h3⟩ := h
  ⟨h1, h2, cur, h3.below hb⟩
theorem Own34.lt {w : World} {lo b o : Nat} (h : Own34 w lo b o) : b < w.heap.size := let ⟨_, _, _, h3⟩ := h; h3.lt
theorem Own34.low {w : World} {lo lo' b o : Nat} (h : Own34 w lo b o) (hl : lo' ≤ lo) : Own34 w lo' b o := ⟨Nat.le_trans hl h.1, h.2⟩
theorem IsVaR.below {w w' : World} {lo : Nat} {v : Value} {x : Va} (h : IsVaR w (Own34 w lo) v x) (hb : Below w.heap.size w w') : IsVaR w' (Own34 w' lo) v x :=
  (h.keep (fun b _o hr => hb.block b hr.lt)).mono (fun _b _o hr => hr.below hb)
theorem IsVasR.snoc {w : World} {R : Nat → Nat → Prop} {b : Nat} {c0 c1 c2 c3 c4 : Value} {x : Va} (hx : IsVaR w R (.agg #[c0, c1, c2, c3, c4]) x) : ∀ {o : Nat} {l : List Va}, IsVasR w R b o l → At w b (o + l.length * 5) [c0, c1, c2, c3, c4] → IsVasR w R b o (l ++ [x])
  | o, [], _, hat => by
    simp only [List.nil_append]
    unfold IsVasR
    refine ⟨⟨c0, c1, c2, c3, c4, by simpa using hat, hx⟩, ?_⟩
    unfold IsVasR; trivial
  | o, y :: l, h, hat => by
    simp only [List.cons_append]
    unfold IsVasR at h ⊢
    refine ⟨h.1, IsVasR.snoc hx h.2 ?_⟩
    rw [show o + 5 + l.length * 5 = o + (y :: l).length * 5 by simp only [List.length_cons]; omega]
    exact hat
theorem IsVasR.keepCells {w w' : World} {R : Nat → Nat → Prop} (hk : ∀ b o, R b o → w'.heap[b]? = w.heap[b]?) {b : Nat} : ∀ {o : Nat} {l : List Va}, (∀ m, m < l.length * 5 → w'.cell? ⟨b, o + m, Option.none⟩ = w.cell? ⟨b, o + m, Option.none⟩) → IsVasR w R b o l → IsVasR w' R b o l
  | _, [], _, _ => by unfold IsVasR; trivial
  | o, x :: l, hc, h => by
    unfold IsVasR at h ⊢
    obtain ⟨⟨c0, c1, c2, c3, c4, h1, h2⟩, h3⟩ := h
    refine ⟨⟨c0, c1, c2, c3, c4, fun j v hv => ?_, h2.keep hk⟩, IsVasR.keepCells hk (fun m hm => ?_) h3⟩
    · have hj : j < 5 := by
        have := (List.getElem?_eq_some_iff.1 hv).1
        simpa using this
      exact (hc j (by simp only [List.length_cons]; omega)).trans (h1 j v hv)
    · have := hc (5 + m) (by simp only [List.length_cons]; omega)
      rwa [show o + (5 + m) = o + 5 + m by omega] at this
/-- A store of a value, cell by cell. -/
def set5 (w : World) (g o : Nat) (c0 c1 c2 c3 c4 : Value) : World :=
  ((((w.setCell ⟨g, o, Option.none⟩ c0).setCell ⟨g, o + 1, Option.none⟩ c1).setCell ⟨g, o + 2, Option.none⟩ c2).setCell ⟨g, o + 3, Option.none⟩ c3).setCell ⟨g, o + 4, Option.none⟩ c4
theorem set5_other (w : World) (g o : Nat) (c0 c1 c2 c3 c4 : Value) {k : Nat} (hk : k ≠ g) : (set5 w g o c0 c1 c2 c3 c4).heap[k]? = w.heap[k]? := by
  unfold set5
  rw [Below.heap_setCell _ _ _ _ hk, Below.heap_setCell _ _ _ _ hk, Below.heap_setCell _ _ _ _ hk, Below.heap_setCell _ _ _ _ hk, Below.heap_setCell _ _ _ _ hk]
theorem set5_blk {w : World} {g o : Nat} {T : TypeId} {cur : Array Value} (h : BlkN w g T cur) (c0 c1 c2 c3 c4 : Value) :
    BlkN (set5 w g o c0 c1 c2 c3 c4) g T (((((cur.setIfInBounds o c0).setIfInBounds (o + 1) c1).setIfInBounds (o + 2) c2).setIfInBounds (o + 3) c3).setIfInBounds (o + 4) c4) :=
  ((((h.set o c0).set (o + 1) c1).set (o + 2) c2).set (o + 3) c3).set (o + 4) c4
theorem BlkN.cell_eq {w : World} {b : Nat} {T : TypeId} {cs : Array Value} (h : BlkN w b T cs) (j : Nat) : w.cell? ⟨b, j, Option.none⟩ = cs[j]? := by
  unfold BlkN at h
  simp [World.cell?, h]
/-- Block g is a row of n values, of which the first ones read as xs; what they hold lies behind g. -/
def Made (w : World) (g n : Nat) (xs : List Va) : Prop := ∃ cur, BlkN w g 34 cur ∧ cur.size = n * 5 ∧ IsVasR w (Own34 w (g + 1)) g 0 xs
theorem Made.lt {w : World} {g n : Nat} {xs : List Va} (h : Made w g n xs) : g < w.heap.size := let ⟨_, h1, _⟩ := h; h1.lt
theorem Made.below {w w' : World} {g n : Nat} {xs : List Va} (h : Made w g n xs) (hb : Below w.heap.size w w') : Made w' g n xs := by
  obtain ⟨cur, h1, h2, h3⟩ := h
  exact ⟨cur, h1.below hb, h2, (h3.keep (fun b o hr => hb.block b hr.lt) (hb.block g h1.lt)).mono (fun b o hr => hr.below hb)⟩
theorem Made.store {w : World} {g n : Nat} {xs : List Va} {c0 c1 c2 c3 c4 : Value} {x : Va} (h : Made w g n xs) (hn : xs.length < n) (hx : IsVaR w (Own34 w (g + 1)) (.agg #[c0, c1, c2, c3, c4]) x) :
    Made (set5 w g (xs.length * 5) c0 c1 c2 c3 c4) g n (xs ++ [x]) := by
  obtain ⟨cur, h1, h2, h3⟩ := h
  have hb := set5_blk (o := xs.length * 5) h1 c0 c1 c2 c3 c4
  have hO : ∀ b o, Own34 w (g + 1) b o → (set5 w g (xs.length * 5) c0 c1 c2 c3 c4).heap[b]? = w.heap[b]? := fun b o hr => set5_other _ _ _ _ _ _ _ _ (by have := hr.1; omega)
  have hR : ∀ b o, Own34 w (g + 1) b o → Own34 (set5 w g (xs.length * 5) c0 c1 c2 c3 c4) (g + 1) b o := fun b o hr => ⟨hr.1, hr.2.1, let ⟨cur, hc⟩ := hr.2.2; ⟨cur, (hO b o hr).trans hc⟩⟩
  refine ⟨_, hb, by simpa using h2, IsVasR.snoc ((hx.keep hO).mono hR) ((IsVasR.keepCells hO (fun m hm => ?_) h3).mono hR) ?_⟩
  · simp only [Nat.zero_add]
    rw [hb.cell_eq, h1.cell_eq]
    repeat rw [Array.getElem?_setIfInBounds_ne (by omega)]
  · intro j v hv
    rw [hb.cell_eq, Nat.zero_add]
    have hs : xs.length * 5 + 5 ≤ cur.size := by omega
    match j, hv with
    | 0, hv => rw [← hv]; simp only [Nat.add_zero]; repeat rw [Array.getElem?_setIfInBounds_ne (by omega)]
               rw [Array.getElem?_setIfInBounds_self_of_lt (by first | omega | (simp only [Array.size_setIfInBounds]; omega))]; rfl
    | 1, hv => rw [← hv]; repeat rw [Array.getElem?_setIfInBounds_ne (by omega)]
               rw [Array.getElem?_setIfInBounds_self_of_lt (by first | omega | (simp only [Array.size_setIfInBounds]; omega))]; rfl
    | 2, hv => rw [← hv]; repeat rw [Array.getElem?_setIfInBounds_ne (by omega)]
               rw [Array.getElem?_setIfInBounds_self_of_lt (by first | omega | (simp only [Array.size_setIfInBounds]; omega))]; rfl
    | 3, hv => rw [← hv]; repeat rw [Array.getElem?_setIfInBounds_ne (by omega)]
               rw [Array.getElem?_setIfInBounds_self_of_lt (by first | omega | (simp only [Array.size_setIfInBounds]; omega))]; rfl
    | 4, hv => rw [← hv]; repeat rw [Array.getElem?_setIfInBounds_ne (by omega)]
               rw [Array.getElem?_setIfInBounds_self_of_lt (by first | omega | (simp only [Array.size_setIfInBounds]; omega))]; rfl
    | j + 5, hv => simp at hv
theorem IsVaR.shape {w : World} {R : Nat → Nat → Prop} {v : Value} {x : Va} (h : IsVaR w R v x) : ∃ k n s A len cap r, v = .agg #[.int .u8 k, .int .i64 n, .string s, .slice A len cap, .int .i64 r] := by
  obtain ⟨k, n, s, l, r⟩ := x
  obtain ⟨h1, h2, h3, h4, A, cap, h5, h6, h7⟩ := h.form
  exact ⟨k, n, s, A, _, cap, r, h6⟩
theorem BlkN.some {w : World} {b : Nat} {T : TypeId} {cs : Array Value} (h : BlkN w b T cs) (j : Nat) (hj : j < cs.size) : ∃ u, w.cell? ⟨b, j, Option.none⟩ = Option.some u :=
  ⟨cs[j], by rw [h.cell_eq, Array.getElem?_eq_getElem hj]⟩
def OwnC (x : Va) : Prop := ∀ (w : World) (B : Nat) (v : Value), IsVa w B v x → B ≤ w.heap.size →
  Calls Try.prog 122 #[v] w fun e w' => ∃ v', e = .returned v' ∧ IsVaR w' (Own34 w' w.heap.size) v' x ∧ Below w.heap.size w w'
theorem take_snoc_get {α : Type} (l : List α) (j : Nat) (h : j < l.length) : l.take (j + 1) = l.take j ++ [l[j]] := List.take_succ_eq_append_getElem h
theorem Made.start {w : World} {n : Nat} : Made (w.alloc (.cells (madeV n) 34)) w.heap.size n [] :=
  ⟨madeV n, BlkN.at_ rfl _ _, madeV_size n, by unfold IsVasR; trivial⟩
theorem Made.blk_other {w w' : World} {g n : Nat} {xs : List Va} (h : Made w g n xs) (hb : ∀ b, g ≤ b → b < w.heap.size → w'.heap[b]? = w.heap[b]?) : Made w' g n xs := by
  obtain ⟨cur, h1, h2, h3⟩ := h
  have hk : ∀ b o, Own34 w (g + 1) b o → w'.heap[b]? = w.heap[b]? := fun b o hr => hb b (by have := hr.1; omega) hr.lt
  exact ⟨cur, (hb g (Nat.le_refl _) h1.lt).trans h1, h2, (h3.keep hk (hb g (Nat.le_refl _) h1.lt)).mono (fun b o hr => ⟨hr.1, hr.2.1, let ⟨cur, hc⟩ := hr.2.2; ⟨cur, (hk b o hr).trans hc⟩⟩)⟩
set_option maxRecDepth 100000 in
set_option maxHeartbeats 1000000 in
theorem own_step (k n : Int) (s : ByteArray) (l : List Va) (r : Int) (IH : ∀ x ∈ l, OwnC x) (hne : l ≠ []) : OwnC (.mk k n s l r) := by
  intro w B v h hB
  obtain ⟨h1, h2, h3, h4, A, cap, h5, rfl, h7⟩ := h.form
  have hlen := IsVaR.len h
  obtain ⟨b, o, hbB, rfl, hx⟩ := h7 hne
  have hmk := fun W => make34 l.length hlen W
  have hpos : ((l.length : Int) == 0) = false := by rw [len1]; simpa using hne
  have HI := Lib.hid IH
  have HX := Lib.hid hx
  clear IH h7 h hx
  go_enter Try.func122, Try.ntmps122
  go_wp2_with fail
  clear hmk
  have hW : Below w.heap.size w (((w.alloc (.cells #[.int .u8 k, .int .i64 n, .string s, .slice (some ⟨b, o, Option.none⟩) l.length cap, .int .i64 r] 34)).alloc (.cells zeroV 34)).alloc (.cells (madeV l.length) 34)) :=
    (((Below.refl _ _).alloc (Nat.le_refl _) _).alloc (by simp) _).alloc (by simp; omega) _
  have hB0 : BlkN (((w.alloc (.cells #[.int .u8 k, .int .i64 n, .string s, .slice (some ⟨b, o, Option.none⟩) l.length cap, .int .i64 r] 34)).alloc (.cells zeroV 34)).alloc (.cells (madeV l.length) 34)) w.heap.size 34 #[.int .u8 k, .int .i64 n, .string s, .slice (some ⟨b, o, Option.none⟩) l.length cap, .int .i64 r] :=
    ((BlkN.at_ rfl _ _).alloc _).alloc _
  have hB1 : BlkN (((w.alloc (.cells #[.int .u8 k, .int .i64 n, .string s, .slice (some ⟨b, o, Option.none⟩) l.length cap, .int .i64 r] 34)).alloc (.cells zeroV 34)).alloc (.cells (madeV l.length) 34)) (w.heap.size + 1) 34 zeroV :=
    (BlkN.at_ (by simp) _ _).alloc _
  have hM : Made (((w.alloc (.cells #[.int .u8 k, .int .i64 n, .string s, .slice (some ⟨b, o, Option.none⟩) l.length cap, .int .i64 r] 34)).alloc (.cells zeroV 34)).alloc (.cells (madeV l.length) 34)) (w.heap.size + 1 + 1) l.length [] := by
    have := @Made.start ((w.alloc (.cells #[.int .u8 k, .int .i64 n, .string s, .slice (some ⟨b, o, Option.none⟩) l.length cap, .int .i64 r] 34)).alloc (.cells zeroV 34)) l.length
    simpa using this
  have HW := Lib.hid hW
  have HB0 := Lib.hid hB0
  have HB1 := Lib.hid hB1
  have HM := Lib.hid hM
  clear hW hB0 hB1 hM
  go_loopw [19] (fun i wr => ∃ k' : Nat, k' ≤ l.length ∧ i = .int .i64 k' ∧ Below w.heap.size w wr ∧ BlkN wr w.heap.size 34 #[.int .u8 k, .int .i64 n, .string s, .slice (some ⟨b, o, Option.none⟩) l.length cap, .int .i64 r] ∧ BlkN wr (w.heap.size + 1) 34 zeroV ∧ Made wr (w.heap.size + 1 + 1) l.length (l.take k')) (fun i _ => l.length - (intOf i).toNat)
  case atStart => exact ⟨0, by omega, rfl, HW.out, HB0.out, HB1.out, by rw [List.take_zero]; exact HM.out⟩
  case round =>
    obtain ⟨j, hj, rfl, hu, hb0, hb1, hm⟩ := hrel
    have HU := Lib.hid hu
    have HC0 := Lib.hid hb0
    have HC1 := Lib.hid hb1
    have HMR := Lib.hid hm
    have hgl := hm.lt
    clear hb0 hb1 hm
    by_cases hlt : j < l.length
    · obtain ⟨k', n', s', A', len', cap', r', hat, hx1⟩ := HX.out.at2 j hlt
      have hat' := hat.keep hbB (fun b hb => hu.block b (by omega))
      obtain ⟨e0, e1, e2, e3, e4⟩ := hat'.five
      have HX1 := Lib.hid (IsVa.keep (w' := wr.alloc (.cells #[.int .u8 k', .int .i64 n', .string s', .slice A' len' cap', .int .i64 r'] 34)) (fun b hb => (hu.alloc hu.size _).block b (by omega)) hx1)
      have hsz := hu.size
      have HA := Lib.hid ((Below.refl wr.heap.size wr).alloc (Nat.le_refl _) (.cells #[.int .u8 k', .int .i64 n', .string s', .slice A' len' cap', .int .i64 r'] 34))
      clear hat hat' hu hx1
      go_wp2_with fail
      refine (HI.out _ (List.getElem_mem hlt) _ B _ HX1.out (by simp; omega)).mono ?_
      rintro e w1 ⟨v', rfl, hv', hb1⟩
      clear e0 e1 e2 e3 e4
      have HB1' := Lib.hid (HA.out.trans (hb1.mono (by simp)))
      have hmm := (HMR.out.below HB1'.out)
      obtain ⟨cur, hcur, hcs, hcx⟩ := hmm
      obtain ⟨k2, n2, s2, A2, len2, cap2, r2, rfl⟩ := hv'.shape
      obtain ⟨u0, hu0⟩ := hcur.some (j * 5) (by omega)
      obtain ⟨u1, hu1⟩ := hcur.some (j * 5 + 1) (by omega)
      obtain ⟨u2, hu2⟩ := hcur.some (j * 5 + 2) (by omega)
      obtain ⟨u3, hu3⟩ := hcur.some (j * 5 + 3) (by omega)
      obtain ⟨u4, hu4⟩ := hcur.some (j * 5 + 4) (by omega)
      have z0 := hcur.free (j * 5)
      have z1 := hcur.free (j * 5 + 1)
      have z2 := hcur.free (j * 5 + 2)
      have z3 := hcur.free (j * 5 + 3)
      have z4 := hcur.free (j * 5 + 4)
      have HV' := Lib.hid hv'
      have HM1 : Hid (Made (set5 w1 (w.heap.size + 1 + 1) (j * 5) (.int .u8 k2) (.int .i64 n2) (.string s2) (.slice A2 len2 cap2) (.int .i64 r2)) (w.heap.size + 1 + 1) l.length (l.take (j + 1))) := Lib.hid (by
        have hl : (l.take j).length = j := by rw [List.length_take]; omega
        have := (HMR.out.below HB1'.out).store (by omega) (HV'.out.mono (fun b o hr => hr.low (by simp; omega)))
        rw [hl] at this
        rw [take_snoc_get l j hlt]
        exact this)
      have HBB : Hid (Below w.heap.size w (set5 w1 (w.heap.size + 1 + 1) (j * 5) (.int .u8 k2) (.int .i64 n2) (.string s2) (.slice A2 len2 cap2) (.int .i64 r2))) := Lib.hid (by
        unfold set5
        exact (((((HU.out.trans (HB1'.out.mono hsz)).setCell (by simp; omega) _).setCell (by simp; omega) _).setCell (by simp; omega) _).setCell (by simp; omega) _).setCell (by simp; omega) _)
      have HD0 := Lib.hid ((set5_other w1 (w.heap.size + 1 + 1) (j * 5) (.int .u8 k2) (.int .i64 n2) (.string s2) (.slice A2 len2 cap2) (.int .i64 r2) (k := w.heap.size) (by omega)).trans (HC0.out.below HB1'.out))
      have HD1 := Lib.hid ((set5_other w1 (w.heap.size + 1 + 1) (j * 5) (.int .u8 k2) (.int .i64 n2) (.string s2) (.slice A2 len2 cap2) (.int .i64 r2) (k := w.heap.size + 1) (by omega)).trans (HC1.out.below HB1'.out))
      clear hv' hb1 hcx hcur
      go_wp2_with fail
      go_roundw
      case rel => exact ⟨j + 1, by omega, by go_num, HBB.out, HD0.out, HD1.out, HM1.out⟩
      case measure => simp [intOf]; omega
    · obtain rfl : j = l.length := by omega
      have c0 := HC0.out.cell 0 rfl
      have c1 := HC0.out.cell 1 rfl
      have c2 := HC0.out.cell 2 rfl
      have c3 := HC0.out.cell 3 rfl
      have c4 := HC0.out.cell 4 rfl
      have f3 := HC0.out.free 3
      have d0 := HC1.out.cell 0 rfl
      have d1 := HC1.out.cell 1 rfl
      have d2 := HC1.out.cell 2 rfl
      have d3 := HC1.out.cell 3 rfl
      have d4 := HC1.out.cell 4 rfl
      have x0 := HC1.out.free 0
      have x1 := HC1.out.free 1
      have x2 := HC1.out.free 2
      have x3 := HC1.out.free 3
      have x4 := HC1.out.free 4
      clear hu
      go_wp2_with fail
      have hne3 : ¬ w.heap.size + 1 = w.heap.size := by omega
      have HR : BlkN (set5 (wr.setCell ⟨w.heap.size, 3, Option.none⟩ (.slice (some ⟨w.heap.size + 1 + 1, 0, Option.none⟩) l.length l.length)) (w.heap.size + 1) 0 (.int .u8 k) (.int .i64 n) (.string s) (.slice (some ⟨w.heap.size + 1 + 1, 0, Option.none⟩) l.length l.length) (.int .i64 r)) (w.heap.size + 1) 34 #[.int .u8 k, .int .i64 n, .string s, .slice (some ⟨w.heap.size + 1 + 1, 0, Option.none⟩) l.length l.length, .int .i64 r] :=
        set5_blk (o := 0) (HC1.out.setOther (by simp) _) _ _ _ _ _
      have HMF : Made (set5 (wr.setCell ⟨w.heap.size, 3, Option.none⟩ (.slice (some ⟨w.heap.size + 1 + 1, 0, Option.none⟩) l.length l.length)) (w.heap.size + 1) 0 (.int .u8 k) (.int .i64 n) (.string s) (.slice (some ⟨w.heap.size + 1 + 1, 0, Option.none⟩) l.length l.length) (.int .i64 r)) (w.heap.size + 1 + 1) l.length l := by
        have := HMR.out.blk_other (w' := set5 (wr.setCell ⟨w.heap.size, 3, Option.none⟩ (.slice (some ⟨w.heap.size + 1 + 1, 0, Option.none⟩) l.length l.length)) (w.heap.size + 1) 0 (.int .u8 k) (.int .i64 n) (.string s) (.slice (some ⟨w.heap.size + 1 + 1, 0, Option.none⟩) l.length l.length) (.int .i64 r)) (fun b hb _ => by
          rw [set5_other _ _ _ _ _ _ _ _ (by omega), Below.heap_setCell _ _ _ _ (by simp; omega)])
        rwa [List.take_length] at this
      have HBF : Below w.heap.size w (set5 (wr.setCell ⟨w.heap.size, 3, Option.none⟩ (.slice (some ⟨w.heap.size + 1 + 1, 0, Option.none⟩) l.length l.length)) (w.heap.size + 1) 0 (.int .u8 k) (.int .i64 n) (.string s) (.slice (some ⟨w.heap.size + 1 + 1, 0, Option.none⟩) l.length l.length) (.int .i64 r)) := by
        unfold set5
        exact (((((HU.out.setCell (by simp) _).setCell (by simp) _).setCell (by simp) _).setCell (by simp) _).setCell (by simp) _).setCell (by simp) _
      generalize hWF : set5 (wr.setCell ⟨w.heap.size, 3, Option.none⟩ (.slice (some ⟨w.heap.size + 1 + 1, 0, Option.none⟩) l.length l.length)) (w.heap.size + 1) 0 (.int .u8 k) (.int .i64 n) (.string s) (.slice (some ⟨w.heap.size + 1 + 1, 0, Option.none⟩) l.length l.length) (.int .i64 r) = WF at HR HMF HBF
      have hW2 : (((((wr.setCell ⟨w.heap.size, 3, Option.none⟩ (.slice (some ⟨w.heap.size + 1 + 1, 0, Option.none⟩) l.length l.length)).setCell ⟨w.heap.size + 1, 0, Option.none⟩ (.int .u8 k)).setCell ⟨w.heap.size + 1, 1, Option.none⟩ (.int .i64 n)).setCell ⟨w.heap.size + 1, 2, Option.none⟩ (.string s)).setCell ⟨w.heap.size + 1, 3, Option.none⟩ (.slice (some ⟨w.heap.size + 1 + 1, 0, Option.none⟩) l.length l.length)).setCell ⟨w.heap.size + 1, 4, Option.none⟩ (.int .i64 r) = WF := hWF
      rw [hW2]
      clear hW2 hWF
      have y0 := HR.cell 0 rfl
      have y1 := HR.cell 1 rfl
      have y2 := HR.cell 2 rfl
      have y3 := HR.cell 3 rfl
      have y4 := HR.cell 4 rfl
      refine bodyPost_ret (v := .agg #[.int .u8 k, .int .i64 n, .string s, .slice (some ⟨w.heap.size + 1 + 1, 0, Option.none⟩) l.length l.length, .int .i64 r]) (by simp [results, Try.results122, go_sem, y0, y1, y2, y3, y4]) rfl ⟨_, rfl, ?_, HBF⟩
      unfold IsVaR
      refine ⟨h1, h2, h3, hlen, some ⟨w.heap.size + 1 + 1, 0, Option.none⟩, l.length, Nat.le_refl _, rfl, fun _ => ⟨_, _, ?_, rfl, ?_⟩⟩
      · obtain ⟨cur, hq, _, _⟩ := HMF
        exact ⟨by omega, rfl, cur, hq⟩
      · obtain ⟨cur, _, _, hq⟩ := HMF
        exact hq.mono (fun b o hr => hr.low (by omega))
theorem own_nil (k n : Int) (s : ByteArray) (r : Int) : OwnC (.mk k n s [] r) := by
  intro w B v h hB
  obtain ⟨h1, h2, h3, h4, A, cap, h5, rfl, h7⟩ := h.form
  clear h7 h
  go_enter Try.func122, Try.ntmps122
  go_wp2_with fail
  refine bodyPost_ret (v := .agg #[.int .u8 k, .int .i64 n, .string s, .slice Option.none 0 0, .int .i64 r]) (by simp [results, Try.results122, go_sem]) rfl ⟨_, rfl, ?_, ((Below.refl _ _).alloc (Nat.le_refl _) _).alloc (by simp) _⟩
  unfold IsVaR
  exact ⟨h1, h2, h3, by simp, Option.none, 0, by simp, rfl, fun h => absurd rfl h⟩
theorem own_any (x : Va) : OwnC x := by
  induction x using Va.ind with
  | h k n s l r IH =>
    by_cases hl : l = []
    · subst hl; exact own_nil k n s r
    · exact own_step k n s l r IH hl
def zeroVa : Va := .mk 0 0 ⟨#[]⟩ [] 0
theorem IsVaR.zero (w : World) (R : Nat → Nat → Prop) : IsVaR w R (.agg #[.int .u8 0, .int .i64 0, .string ⟨#[]⟩, .slice Option.none 0 0, .int .i64 0]) zeroVa := by
  unfold zeroVa IsVaR
  exact ⟨by omega, by omega, by show 0 ≤ _; omega, by simp, Option.none, 0, by simp, rfl, fun h => absurd rfl h⟩
def ownX (x : Va) : Va := if mayV x then x else zeroVa
def ownE (x : Va) : Int := if mayV x then 0 else 2
theorem ownXE_no {x : Va} (h : mayV x = false) : ownX x = zeroVa ∧ ownE x = 2 := by simp [ownX, ownE, h]
theorem ownXE_yes {x : Va} (h : mayV x = true) : ownX x = x ∧ ownE x = 0 := by simp [ownX, ownE, h]
set_option maxRecDepth 100000 in
set_option maxHeartbeats 1000000 in
theorem Own_any {B : Nat} {v : Value} {x : Va} (w : World) (h : IsVa w B v x) (hB : B ≤ w.heap.size) :
    Calls Try.prog 85 #[v] w fun e w' => ∃ v', e = .returned (.tuple #[v', .int .i64 (ownE x)]) ∧ IsVaR w' (Own34 w' w.heap.size) v' (ownX x) ∧ Below w.heap.size w w' := by
  have HH := Lib.hid h
  obtain ⟨k, n, s, l, r⟩ := x
  obtain ⟨h1, h2, h3, h4, A, cap, h5, rfl, h7⟩ := h.form
  clear h h7
  obtain ⟨y, hy⟩ : ∃ y, y = Va.mk k n s l r := ⟨_, rfl⟩
  rw [← hy] at HH ⊢
  clear hy
  have HB : Below w.heap.size w ((w.alloc (.cells #[.int .u8 k, .int .i64 n, .string s, .slice A l.length cap, .int .i64 r] 34)).alloc (.cells zeroV 34)) := ((Below.refl _ _).alloc (Nat.le_refl _) _).alloc (by simp) _
  have HBB := Lib.hid HB
  have HN0 : Hid (BlkN ((w.alloc (.cells #[.int .u8 k, .int .i64 n, .string s, .slice A l.length cap, .int .i64 r] 34)).alloc (.cells zeroV 34)) w.heap.size 34 #[.int .u8 k, .int .i64 n, .string s, .slice A l.length cap, .int .i64 r]) := Lib.hid ((BlkN.at_ rfl _ _).alloc _)
  have HN1 : Hid (BlkN ((w.alloc (.cells #[.int .u8 k, .int .i64 n, .string s, .slice A l.length cap, .int .i64 r] 34)).alloc (.cells zeroV 34)) (w.heap.size + 1) 34 zeroV) := Lib.hid (BlkN.at_ (by simp) _ _)
  clear HB
  go_enter Try.func85, Try.ntmps85
  go_wp2_with fail
  refine (vmay_any (B := B) (x := y) _ (HH.out.keep (fun b hb => HBB.out.block b (by omega))) (by simp; omega)).mono ?_
  rintro e w1 ⟨rfl, hb⟩
  have hsz : w.heap.size + 1 + 1 ≤ w1.heap.size := by have := hb.size; simp at this; omega
  have HB1 := Lib.hid (HBB.out.trans (hb.mono (by simp; omega)))
  have HC0 := Lib.hid (HN0.out.below hb)
  have HC1 := Lib.hid (HN1.out.below hb)
  have c0 := HC0.out.cell 0 rfl
  have c1 := HC0.out.cell 1 rfl
  have c2 := HC0.out.cell 2 rfl
  have c3 := HC0.out.cell 3 rfl
  have c4 := HC0.out.cell 4 rfl
  have d0 := HC1.out.cell 0 rfl
  have d1 := HC1.out.cell 1 rfl
  have d2 := HC1.out.cell 2 rfl
  have d3 := HC1.out.cell 3 rfl
  have d4 := HC1.out.cell 4 rfl
  have x0 := HC1.out.free 0
  have x1 := HC1.out.free 1
  have x2 := HC1.out.free 2
  have x3 := HC1.out.free 3
  have x4 := HC1.out.free 4
  clear hb
  cases hm : mayV y
  · have HM := Lib.hid hm
    clear hm
    go_wp2_with fail
    have HR : BlkN (set5 w1 (w.heap.size + 1) 0 (.int .u8 0) (.int .i64 0) (.string ⟨#[]⟩) (.slice Option.none 0 0) (.int .i64 0)) (w.heap.size + 1) 34 zeroV :=
      set5_blk (o := 0) HC1.out _ _ _ _ _
    have HBF : Below w.heap.size w (set5 w1 (w.heap.size + 1) 0 (.int .u8 0) (.int .i64 0) (.string ⟨#[]⟩) (.slice Option.none 0 0) (.int .i64 0)) := by
      unfold set5
      exact ((((HB1.out.setCell (by simp) _).setCell (by simp) _).setCell (by simp) _).setCell (by simp) _).setCell (by simp) _
    generalize hWF : set5 w1 (w.heap.size + 1) 0 (.int .u8 0) (.int .i64 0) (.string ⟨#[]⟩) (.slice Option.none 0 0) (.int .i64 0) = WF at HR HBF
    have hW2 : ((((w1.setCell ⟨w.heap.size + 1, 0, Option.none⟩ (.int .u8 0)).setCell ⟨w.heap.size + 1, 1, Option.none⟩ (.int .i64 0)).setCell ⟨w.heap.size + 1, 2, Option.none⟩ (.string ⟨#[]⟩)).setCell ⟨w.heap.size + 1, 3, Option.none⟩ (.slice Option.none 0 0)).setCell ⟨w.heap.size + 1, 4, Option.none⟩ (.int .i64 0) = WF := hWF
    rw [hW2]
    clear hW2 hWF
    have y0 := HR.cell 0 rfl
    have y1 := HR.cell 1 rfl
    have y2 := HR.cell 2 rfl
    have y3 := HR.cell 3 rfl
    have y4 := HR.cell 4 rfl
    refine bodyPost_ret (v := .tuple #[.agg #[.int .u8 0, .int .i64 0, .string ⟨#[]⟩, .slice Option.none 0 0, .int .i64 0], .int .i64 2]) (by simp [results, Try.results85, go_sem, y0, y1, y2, y3, y4, zeroV]) rfl ⟨_, by rw [(ownXE_no HM.out).2], ?_, HBF⟩
    rw [(ownXE_no HM.out).1]
    exact IsVaR.zero _ _
  · have HM := Lib.hid hm
    clear hm
    go_wp2_with fail
    refine (own_any y _ B _ (HH.out.keep (fun b hb => HB1.out.block b (by omega))) (by omega)).mono ?_
    rintro e w2 ⟨v', rfl, hv', hb2⟩
    obtain ⟨k2, n2, s2, A2, len2, cap2, r2, rfl⟩ := hv'.shape
    have HB2 := Lib.hid (HB1.out.trans (hb2.mono (by omega)))
    have HD1 := Lib.hid (HC1.out.below hb2)
    clear c0 c1 c2 c3 c4 d0 d1 d2 d3 d4 x0 x1 x2 x3 x4
    have d0 := HD1.out.cell 0 rfl
    have d1 := HD1.out.cell 1 rfl
    have d2 := HD1.out.cell 2 rfl
    have d3 := HD1.out.cell 3 rfl
    have d4 := HD1.out.cell 4 rfl
    have x0 := HD1.out.free 0
    have x1 := HD1.out.free 1
    have x2 := HD1.out.free 2
    have x3 := HD1.out.free 3
    have x4 := HD1.out.free 4
    have HV := Lib.hid hv'
    have hsz2 := hb2.size
    clear hb2 hv'
    go_wp2_with fail
    have HR : BlkN (set5 w2 (w.heap.size + 1) 0 (.int .u8 k2) (.int .i64 n2) (.string s2) (.slice A2 len2 cap2) (.int .i64 r2)) (w.heap.size + 1) 34 #[.int .u8 k2, .int .i64 n2, .string s2, .slice A2 len2 cap2, .int .i64 r2] :=
      set5_blk (o := 0) HD1.out _ _ _ _ _
    have HBF : Below w.heap.size w (set5 w2 (w.heap.size + 1) 0 (.int .u8 k2) (.int .i64 n2) (.string s2) (.slice A2 len2 cap2) (.int .i64 r2)) := by
      unfold set5
      exact ((((HB2.out.setCell (by simp) _).setCell (by simp) _).setCell (by simp) _).setCell (by simp) _).setCell (by simp) _
    have HVF : IsVaR (set5 w2 (w.heap.size + 1) 0 (.int .u8 k2) (.int .i64 n2) (.string s2) (.slice A2 len2 cap2) (.int .i64 r2)) (Own34 (set5 w2 (w.heap.size + 1) 0 (.int .u8 k2) (.int .i64 n2) (.string s2) (.slice A2 len2 cap2) (.int .i64 r2)) w.heap.size) (.agg #[.int .u8 k2, .int .i64 n2, .string s2, .slice A2 len2 cap2, .int .i64 r2]) y := by
      have hk : ∀ b o, Own34 w2 w1.heap.size b o → (set5 w2 (w.heap.size + 1) 0 (.int .u8 k2) (.int .i64 n2) (.string s2) (.slice A2 len2 cap2) (.int .i64 r2)).heap[b]? = w2.heap[b]? := fun b o hr => set5_other _ _ _ _ _ _ _ _ (by have := hr.1; omega)
      exact (HV.out.keep hk).mono (fun b o hr => ⟨by have := hr.1; omega, hr.2.1, let ⟨cur, hc⟩ := hr.2.2; ⟨cur, (hk b o hr).trans hc⟩⟩)
    generalize hWF : set5 w2 (w.heap.size + 1) 0 (.int .u8 k2) (.int .i64 n2) (.string s2) (.slice A2 len2 cap2) (.int .i64 r2) = WF at HR HBF HVF
    have hW2 : ((((w2.setCell ⟨w.heap.size + 1, 0, Option.none⟩ (.int .u8 k2)).setCell ⟨w.heap.size + 1, 1, Option.none⟩ (.int .i64 n2)).setCell ⟨w.heap.size + 1, 2, Option.none⟩ (.string s2)).setCell ⟨w.heap.size + 1, 3, Option.none⟩ (.slice A2 len2 cap2)).setCell ⟨w.heap.size + 1, 4, Option.none⟩ (.int .i64 r2) = WF := hWF
    rw [hW2]
    clear hW2 hWF
    have y0 := HR.cell 0 rfl
    have y1 := HR.cell 1 rfl
    have y2 := HR.cell 2 rfl
    have y3 := HR.cell 3 rfl
    have y4 := HR.cell 4 rfl
    refine bodyPost_ret (v := .tuple #[.agg #[.int .u8 k2, .int .i64 n2, .string s2, .slice A2 len2 cap2, .int .i64 r2], .int .i64 0]) (by simp [results, Try.results85, go_sem, y0, y1, y2, y3, y4]) rfl ⟨_, by rw [(ownXE_yes HM.out).2], ?_, HBF⟩
    rw [(ownXE_yes HM.out).1]
    exact HVF
end Go.Proofs.Ytnknefdpglnbnaa
