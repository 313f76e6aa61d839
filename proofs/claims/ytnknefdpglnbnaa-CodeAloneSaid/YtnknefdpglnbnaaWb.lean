/- A range over a function whose rounds are told data in memory: what is handed to a round is known there, and the round may write it over. -/
import Derived.RangeFuncWrites
import Derived.RangeFuncCalls
import Derived.WalkKit
namespace Go.Told
open Go Go.RowKit

/-- What a round leaves: the blocks from n on, up to lo, are as they were. -/
structure KpX (n lo : Nat) (A B : World) : Prop where
  os : B.os = A.os
  tape : B.tape = A.tape
  output : B.output = A.output
  size : A.heap.size ≤ B.heap.size
  block : ∀ b, n ≤ b → b < lo → B.heap[b]? = A.heap[b]?
theorem KpX.trans {n lo : Nat} {A B C : World} (h : KpX n lo A B) (k : KpX n lo B C) : KpX n lo A C := ⟨k.os.trans h.os, k.tape.trans h.tape, k.output.trans h.output, Nat.le_trans h.size k.size, fun b h1 h2 => (k.block b h1 h2).trans (h.block b h1 h2)⟩
theorem KpX.mono {n m lo : Nat} {A B : World} (h : KpX n lo A B) (hm : n ≤ m) : KpX m lo A B := ⟨h.os, h.tape, h.output, h.size, fun b h1 h2 => h.block b (by omega) h2⟩
theorem KpX.put {n lo l : Nat} {W : World} {o : Obj} (o' : Obj) (hl : W.heap[l]? = some o) (hn : l < n) : KpX n lo W (W.putObj l o') := by
  have g := grownBy_putObj' W l o'
  have hlt := (Array.getElem?_eq_some_iff.1 hl).1
  refine ⟨g.os, g.tape, g.output, g.size, fun b h1 h2 => ?_⟩
  exact World.putObj_heap_other (by omega)
theorem below_put {n l : Nat} {W : World} {o : Obj} (o' : Obj) (hl : W.heap[l]? = some o) (hn : n ≤ l) : Below n W (W.putObj l o') :=
  (Below.refl n W).grown (grownBy_putObj' W l o') (by have := (Array.getElem?_eq_some_iff.1 hl).1; omega) (fun k e => by cases e; omega)

variable {α : Type} {P : Program}
/-- The iterator's contract. -/
def SeqTold (m : Nat) (P : Program) (g : Nat) (lb : Array Value) (encs : α → Array Value) (lo : α → Nat) (Dt : List α → α → World → Prop) (S Sp : List α → Prop) (w : World) : Prop :=
  ∀ (l : Nat) (J Jx : List α → World → Prop) (W : World), Below w.heap.size w W → (∀ s A B, J s A → Below W.heap.size A B → J s B) → (∀ s A B, Jx s A → Below W.heap.size A B → Jx s B) →
    (∀ pre x W1, J pre W1 → W.heap.size ≤ lo x → lo x ≤ W1.heap.size → Dt pre x W1 → YieldAt Fence.wide (m - 1) P l (encs x) W1 fun e W' =>
      (e = .returned (.bool true) ∧ J (pre ++ [x]) W' ∧ KpX W.heap.size (lo x) W1 W') ∨ (e = .returned (.bool false) ∧ Jx (pre ++ [x]) W')) →
    J [] W →
    CallsIn Fence.wide m P g (#[.func (.yield l) #[] #[]] ++ lb) W fun e W' => (∃ v, e = .returned v) ∧ ((∃ xs, S xs ∧ J xs W') ∨ (∃ pre, Sp pre ∧ Jx pre W'))
/-- How a round may be left. -/
def post (n : Nat) (lo : Nat) (I : List α → World → Prop) (Ix : Code → List α → World → Prop) (xs : List α) (W : World) : Exit → Act → World → Prop
  | .normal, _, W' => KpX n lo W W' ∧ I xs W'
  | .ret, _, W' => KpX n lo W W' ∧ Ix .ret xs W'
  | .exit id, _, W' => KpX n lo W W' ∧ Ix (.exit id) xs W'
  | .goto t, _, W' => KpX n lo W W' ∧ Ix (.goto t) xs W'
  | .panic _, _, _ => False
  | .outgrown, _, _ => False
theorem rangeFunc_told {m : Nat} {g : Operand} {ps : Array Tmp} {assign body : Code} {Q : Exit → Act → World → Prop} {a : Act} {w : World}
    (h1 : 1 ≤ m) {gf : Nat} {lb : Array Value} (hg : a.eval g = .func (.func gf) #[] lb) (eg : ∀ args w, (callFunc gf args).run P w = .ok (.enter gf args) w)
    {encs : α → Array Value} {lo : α → Nat} {Dt : List α → α → World → Prop} {S Sp : List α → Prop} {w0 : World} (hseq : SeqTold (m - 1) P gf lb encs lo Dt S Sp w0) (hb0 : Below w0.heap.size w0 w) (hps : ∀ x, (encs x).size = ps.size)
    (hDt : ∀ pre x A B, Dt pre x A → A.heap.size ≤ B.heap.size → (∀ b, lo x ≤ b → b < A.heap.size → B.heap[b]? = A.heap[b]?) → Dt pre x B)
    (I : List α → World → Prop) (Ix : Code → List α → World → Prop) (hI : ∀ s A B, I s A → Below w.heap.size A B → I s B) (hIx : ∀ c s A B, Ix c s A → Below w.heap.size A B → Ix c s B) (h0 : I [] w)
    (Ax : α → Act → World → World → Prop) (hAx : ∀ x a W A B, Ax x a W A → A.heap.size ≤ B.heap.size → (∀ b, W.heap.size ≤ b → b < A.heap.size → B.heap[b]? = A.heap[b]?) → Ax x a W B)
    (hassign : ∀ (l : Nat) (x : α) (W : World) (K : Act → World → Prop), (∀ a' W', Ax x a' W W' → Below W.heap.size W W' → K a' W') →
      assign.wpIn (Fence.wide.inRound l) (m - 1 - 1) P (Exit.then K (fun _ _ _ => False)) { tmps := (ps.zip (encs x)).foldl (fun t (p, v) => t.setIfInBounds p v) a.tmps, defers := [] } W)
    (hbody : ∀ (l : Nat) (pre : List α) (x : α) (a' : Act) (W0 W : World), I pre W → w.heap.size + 2 ≤ lo x → lo x ≤ W0.heap.size → W0.heap.size ≤ W.heap.size → Dt pre x W → Ax x a' W0 W → body.wpIn (Fence.wide.inRound l) (m - 1 - 1) P (post w.heap.size (lo x) I Ix (pre ++ [x]) W) a' W)
    (hdone : ∀ (D : Nat) (xs : List α) (W : World), w.heap.size ≤ D → S xs → I xs W → W.heap[D]? = some (.deferred (some [])) → Q .normal { a with defers := { target := .collected D, args := #[] } :: a.defers } W)
    (hstop : ∀ (D : Nat) (c : Code) (pre : List α) (W : World), w.heap.size ≤ D → Sp pre → Ix c pre W → W.heap[D]? = some (.deferred (some [])) → c.wpIn Fence.wide m P Q { a with defers := { target := .collected D, args := #[] } :: a.defers } W) :
    (Code.rangeFunc g ps assign body).wpIn Fence.wide m P Q a w := by
  refine wpIn_rangeFunc fun fn hfn => ?_
  obtain ⟨rcd, hrec⟩ : ∃ rcd : LoopState → Option Code → Loop, rcd = fun st pe => { state := st, pending := pe, fn, tmps := a.tmps, params := ps, assign, body, defers := w.heap.size } := ⟨_, rfl⟩
  obtain ⟨V, hV⟩ : ∃ V, V = (w.alloc (.deferred (some []))).alloc (.loop (rcd .ready none)) := ⟨_, rfl⟩
  have hVs : V.heap.size = w.heap.size + 2 := by rw [hV]; simp
  have hVL : V.heap[w.heap.size + 1]? = some (.loop (rcd .ready none)) := by
    have := World.alloc_heap_new (w.alloc (.deferred (some []))) (.loop (rcd .ready none))
    rw [World.size_alloc] at this
    rw [hV]; exact this
  have hVD : V.heap[w.heap.size]? = some (.deferred (some [])) := by
    rw [hV]; exact (Below.heap_alloc _ _ _ (by simp)).trans (World.alloc_heap_new w _)
  have hVb : Below w.heap.size w V := by rw [hV]; exact ((Below.refl _ w).alloc (Nat.le_refl _) _).alloc (by simp) _
  refine ⟨w.heap.size + 1, [{ target := .collected w.heap.size, args := #[] }], V, { target := .fn (.func gf) lb, args := #[.func (.yield (w.heap.size + 1)) #[] #[]] }, V, gf,
    #[.func (.yield (w.heap.size + 1)) #[] #[]] ++ lb, V, ?_, ?_, ?_, ?_, fun _ => h1, ?_⟩
  · rw [hV, hrec]; exact run_enterLoop_outer _ _ _ _ _
  · simp only [resolve, hg]
    simp [go_sem]
  · intro _ _; trivial
  · simp [invoke, go_sem, eg]
  · -- a block of the loop's own lies as it lay
    have low : ∀ {A B : World} {b : Nat} {o : Obj}, A.heap[b]? = some o → b < V.heap.size → Below V.heap.size A B → B.heap[b]? = some o := fun h hb hB => (hB.block _ hb).trans h
    refine (hseq (w.heap.size + 1)
      (fun pre W => I pre W ∧ W.heap[w.heap.size + 1]? = some (.loop (rcd .ready none)) ∧ W.heap[w.heap.size]? = some (.deferred (some [])))
      (fun pre W => ∃ c, Ix c pre W ∧ W.heap[w.heap.size + 1]? = some (.loop (rcd .done (some c))) ∧ W.heap[w.heap.size]? = some (.deferred (some [])))
      V (hb0.trans (hVb.mono hb0.size))
      (fun s A B hs hB => ⟨hI s A B hs.1 (hB.mono (by omega)), low hs.2.1 (by omega) hB, low hs.2.2 (by omega) hB⟩)
      (fun s A B hs hB => by
        obtain ⟨c, hc, hl, hk⟩ := hs
        exact ⟨c, hIx c s A B hc (hB.mono (by omega)), low hl (by omega) hB, low hk (by omega) hB⟩)
      ?_ ⟨hI _ _ _ h0 hVb, hVL, hVD⟩).mono ?_
    · rintro pre x W ⟨hi, hl, hk⟩ hlo hlo2 hd
      have hy := run_yield (P := P) (args := encs x) hl (by rw [hrec]; exact hps x)
      rw [hrec] at hy
      refine ⟨fn, _, assign, body, hy, roundIn_of_wpIn hfn (hassign _ x W _ fun a' W' hax hbW => ?_)⟩
      have hl1 : W'.heap[w.heap.size + 1]? = some (.loop (rcd .ready none)) := (hbW.block _ (Array.getElem?_eq_some_iff.1 hl).1).trans hl
      have hk1 : W'.heap[w.heap.size]? = some (.deferred (some [])) := (hbW.block _ (Array.getElem?_eq_some_iff.1 hk).1).trans hk
      refine ⟨_, run_beginRound hl1 (by rw [hrec]), ?_⟩
      obtain ⟨U, hU⟩ : ∃ U, U = W'.putObj (w.heap.size + 1) (.loop { rcd .ready none with state := .busy }) := ⟨_, rfl⟩
      rw [← hU]
      have hlt := (Array.getElem?_eq_some_iff.1 hl1).1
      have hWl := (Array.getElem?_eq_some_iff.1 hl).1
      have hUb : ∀ b, b ≠ w.heap.size + 1 → U.heap[b]? = W'.heap[b]? := fun b hb => by rw [hU]; exact World.putObj_heap_other hb
      have hUB : Below w.heap.size W' U := by rw [hU]; exact below_put _ hl1 (by omega)
      have hUs := hUB.size
      have hWs := hbW.size
      have hlU : U.heap[w.heap.size + 1]? = some (.loop { rcd .ready none with state := .busy }) := by rw [hU]; exact World.putObj_heap_same hlt
      have hkU : U.heap[w.heap.size]? = some (.deferred (some [])) := (hUb _ (by omega)).trans hk1
      have hKU : KpX V.heap.size (lo x) W U := (⟨hbW.os, hbW.tape, hbW.output, hbW.size, fun b _ h2 => hbW.block b (by omega)⟩ : KpX V.heap.size (lo x) W W').trans (by rw [hU]; exact KpX.put _ hl1 (by omega))
      refine wpIn_mono (hbody _ pre x a' W U (hI _ _ _ (hI _ _ _ hi (hbW.mono (by omega))) hUB) (by omega) hlo2 (by omega)
        (hDt pre x W U hd (by omega) (fun b h1 h2 => (hUb b (by omega)).trans (hbW.block b h2)))
        (hAx x a' W W' U hax hUs (fun b h1 _ => hUb b (by omega)))) ?_
      have fin : ∀ (jump : Option Code) (X : World), KpX w.heap.size (lo x) U X →
          (Instr.endRound (w.heap.size + 1) jump).run P X = .ok (.bool jump.isNone) (X.putObj (w.heap.size + 1) (.loop (rcd (if jump.isNone then .ready else .done) jump))) ∧
          (X.putObj (w.heap.size + 1) (.loop (rcd (if jump.isNone then .ready else .done) jump))).heap[w.heap.size + 1]? = some (.loop (rcd (if jump.isNone then .ready else .done) jump)) ∧
          (X.putObj (w.heap.size + 1) (.loop (rcd (if jump.isNone then .ready else .done) jump))).heap[w.heap.size]? = some (.deferred (some [])) ∧
          Below w.heap.size X (X.putObj (w.heap.size + 1) (.loop (rcd (if jump.isNone then .ready else .done) jump))) ∧ KpX V.heap.size (lo x) W (X.putObj (w.heap.size + 1) (.loop (rcd (if jump.isNone then .ready else .done) jump))) := fun jump X hx => by
        have hl3 : X.heap[w.heap.size + 1]? = some (.loop { rcd .ready none with state := .busy }) := (hx.block _ (by omega) (by omega)).trans hlU
        have := run_endRound (P := P) jump hl3
        rw [hrec] at this hl3 ⊢
        exact ⟨this, World.putObj_heap_same (Array.getElem?_eq_some_iff.1 hl3).1, (World.putObj_heap_other (by omega)).trans ((hx.block _ (by omega) (by omega)).trans hkU), below_put _ hl3 (by omega), (hKU.trans (hx.mono (by omega))).trans (KpX.put _ hl3 (by omega))⟩
      rintro e a3 X hp
      cases e with
      | normal =>
        obtain ⟨hk3, hi3⟩ := hp
        obtain ⟨hr, hl4, hk4, hb4, hx4⟩ := fin none X hk3
        exact ⟨_, _, hr, .inl ⟨rfl, ⟨hI _ _ _ hi3 hb4, hl4, hk4⟩, hx4⟩⟩
      | ret =>
        obtain ⟨hk3, hi3⟩ := hp
        obtain ⟨hr, hl4, hk4, hb4, _⟩ := fin (some .ret) X hk3
        exact ⟨_, _, hr, .inr ⟨rfl, .ret, hIx _ _ _ _ hi3 hb4, hl4, hk4⟩⟩
      | exit id =>
        obtain ⟨hk3, hi3⟩ := hp
        obtain ⟨hr, hl4, hk4, hb4, _⟩ := fin (some (.exit id)) X hk3
        exact ⟨_, _, hr, .inr ⟨rfl, .exit id, hIx _ _ _ _ hi3 hb4, hl4, hk4⟩⟩
      | goto t =>
        obtain ⟨hk3, hi3⟩ := hp
        obtain ⟨hr, hl4, hk4, hb4, _⟩ := fin (some (.goto t)) X hk3
        exact ⟨_, _, hr, .inr ⟨rfl, .goto t, hIx _ _ _ _ hi3 hb4, hl4, hk4⟩⟩
      | panic ch => exact hp.elim
      | outgrown => exact hp.elim
    · rintro e W2 ⟨⟨v, rfl⟩, (⟨xs, hS, hi, hl, hk⟩ | ⟨pre, hSp, c, hi, hl, hk⟩)⟩
      · exact ⟨none, _, by have := run_endLoop (P := P) hl (by rw [hrec]; simp); rw [hrec] at this; exact this, hdone _ xs _ (Nat.le_refl _) hS (hI _ _ _ hi (below_put _ hl (by omega))) ((World.putObj_heap_other (by omega)).trans hk)⟩
      · exact ⟨some c, _, by have := run_endLoop (P := P) hl (by rw [hrec]; simp); rw [hrec] at this; exact this, hstop _ c pre _ (Nat.le_refl _) hSp (hIx _ _ _ _ hi (below_put _ hl (by omega))) ((World.putObj_heap_other (by omega)).trans hk)⟩
end Go.Told
