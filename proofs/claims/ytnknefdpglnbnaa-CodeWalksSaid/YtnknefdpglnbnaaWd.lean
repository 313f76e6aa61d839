/- The function that Each tells statements by: a copy of each is handed to yield. Each: what it hands back tells a loop the code's statements, each a copy of its own, in the order of the walk. -/
import Derived.Test.YtnknefdpglnbnaaWb
import Derived.Test.YtnknefdpglnbnaaDe
import Derived.RangeFuncIn
import Derived.RangeFuncBound
import Derived.Test.YtnknefdpglnbnaaZk
namespace Go.Told
open Go Go.RowKit
variable {P : Program} {ops : Array Oper} {Q : Exit → Act → World → Prop} {n : Nat}

theorem op_wide {i : Nat} {o : Oper} {K : Act → World → Prop} {a : Act} {w : World} (hi : ops[i]? = some o) (hg : o.guard = none)
    (h : o.uponIn Fence.wide n P a K Q ((execOp a.eval o).run P w)) : wpOpIn Fence.wide n P ops Q i K a w := by
  unfold wpOpIn
  simp only [hi, Region.wanted, hg, if_true]
  refine ⟨fun _ _ => trivial, ?_⟩
  rw [Fence.wide_round, Oper.semAt_none]
  exact h
theorem op_value {i : Nat} {o : Oper} {K : Act → World → Prop} {a : Act} {w w' : World} {v : Value} (hi : ops[i]? = some o) (hg : o.guard = none)
    (hr : (execOp a.eval o).run P w = .ok (.value v) w') (h : K (a.put o.dst v) w') : wpOpIn Fence.wide n P ops Q i K a w :=
  op_wide hi hg (by rw [hr]; exact h)
theorem op_enter {i : Nat} {o : Oper} {K : Act → World → Prop} {a : Act} {w w' : World} {f : FuncId} {args : Array Value} {R : Ending → World → Prop} (hi : ops[i]? = some o) (hg : o.guard = none)
    (hr : (execOp a.eval o).run P w = .ok (.enter f args) w') (hc : Calls P f args w' R) (h : ∀ e w'', R e w'' → ∃ v, e = .returned v ∧ K (a.put o.dst v) w'') : wpOpIn Fence.wide n P ops Q i K a w :=
  op_wide hi hg (by
    rw [hr]
    refine ⟨fun h => (by cases h), CallsIn.mono (callsIn_wide.2 hc) fun e w'' he => ?_⟩
    obtain ⟨v, rfl, hk⟩ := h e w'' he
    exact hk)
theorem round_any {m k l : Nat} {f : FuncId} {tmps : Array Value} {assign body : Code} {w : World} {R : Ending → World → Prop} (h : RoundIn Fence.wide m P l f tmps assign body w R) : RoundIn Fence.wide k P l f tmps assign body w R :=
  ⟨h.1, fun c cs _ => h.2 c cs (room_wide _)⟩
theorem op_yield {i : Nat} {o : Oper} {K : Act → World → Prop} {a : Act} {w : World} {l m : Nat} {args : Array Value} {R : Ending → World → Prop} (hi : ops[i]? = some o) (hg : o.guard = none)
    (hr : (execOp a.eval o).run P w = (Instr.yield l args).run P w) (hy : YieldAt Fence.wide m P l args w R) (h : ∀ e w'', R e w'' → ∃ v, e = .returned v ∧ K (a.put o.dst v) w'') : wpOpIn Fence.wide n P ops Q i K a w :=
  op_wide hi hg (by
    obtain ⟨fn, tmps, assign, body, h1, h2⟩ := hy
    rw [hr, h1]
    refine ⟨fun h => (by cases h), RoundIn.mono (round_any h2) fun e w'' he => ?_⟩
    obtain ⟨v, rfl, hk⟩ := h e w'' he
    exact hk)
theorem exec_yield {o : Oper} {c : Call} {a : Act} {w : World} {l : Nat} {f : Operand} (hop : o.op = .call c) (hf : c.callee = .value f) (hv : a.eval f = .func (.yield l) #[] #[]) :
    (execOp a.eval o).run P w = (Instr.yield l (c.args.map a.eval)).run P w := by
  simp [execOp, hop, resolve, hf, hv, invoke, Deferred.ofValue]
theorem exec_load {o : Oper} {T : TypeId} {p : Operand} {a : Act} {w : World} {q : Addr} {v : Value} (hop : o.op = .load T p) (hp : a.eval p = .pointer (some q)) (hl : (loadVar T q).run P w = .ok v w) :
    (execOp a.eval o).run P w = .ok (.value v) w := by
  simp [execOp, hop, hp, Instr.loadAt, Instr.sureAddr, hl, Result.andThen]
theorem exec_call {o : Oper} {c : Call} {a : Act} {w : World} {f : FuncId} (hop : o.op = .call c) (hf : c.callee = .value (.func f)) (hcf : ∀ args w, (callFunc f args).run P w = .ok (.enter f args) w) :
    (execOp a.eval o).run P w = .ok (.enter f (c.args.map a.eval)) w := by
  have hv : a.eval (.func f) = .func (.func f) #[] #[] := rfl
  simp [execOp, hop, resolve, hf, hv, invoke, Deferred.ofValue, hcf]
theorem op_call {i : Nat} {o : Oper} {c : Call} {K : Act → World → Prop} {a : Act} {w : World} {f : FuncId} {args : Array Value} {R : Ending → World → Prop} (hi : ops[i]? = some o) (hg : o.guard = none) (hop : o.op = .call c) (hf : c.callee = .value (.func f))
    (hcf : ∀ args w, (callFunc f args).run P w = .ok (.enter f args) w) (ha : c.args.map a.eval = args) (hc : Calls P f args w R) (h : ∀ e w'', R e w'' → ∃ v, e = .returned v ∧ K (a.put o.dst v) w'') : wpOpIn Fence.wide n P ops Q i K a w :=
  op_enter hi hg (exec_call hop hf hcf) (ha ▸ hc) h
theorem op_round {i : Nat} {o : Oper} {c : Call} {f : Operand} {K : Act → World → Prop} {a : Act} {w : World} {l m : Nat} {args : Array Value} {R : Ending → World → Prop} (hi : ops[i]? = some o) (hg : o.guard = none) (hop : o.op = .call c) (hf : c.callee = .value f)
    (hv : a.eval f = .func (.yield l) #[] #[]) (ha : c.args.map a.eval = args) (hy : YieldAt Fence.wide m P l args w R) (h : ∀ e w'', R e w'' → ∃ v, e = .returned v ∧ K (a.put o.dst v) w'') : wpOpIn Fence.wide n P ops Q i K a w :=
  op_yield hi hg (exec_yield hop hf hv) (ha ▸ hy) h
theorem one_ready {md : Region.Mode} {fuel i : Nat} {listed : Array Bool} {a : Act} {w : World} (hr : Region.ready md ops listed = [i]) (h : wpOpIn Fence.wide n P ops Q i (wpAnyIn Fence.wide n P md ops Q fuel (listed.setIfInBounds i true)) a w) :
    wpAnyIn Fence.wide n P md ops Q (fuel + 1) listed a w :=
  wpAnyIn_all hr (by simp) (by intro j hj; rw [List.mem_singleton] at hj; subst hj; exact h)
theorem two_ready {md : Region.Mode} {fuel i j : Nat} {listed : Array Bool} {a : Act} {w : World} (hr : Region.ready md ops listed = [i, j]) (h : wpOpIn Fence.wide n P ops Q i (wpAnyIn Fence.wide n P md ops Q fuel (listed.setIfInBounds i true)) a w)
    (k : wpOpIn Fence.wide n P ops Q j (wpAnyIn Fence.wide n P md ops Q fuel (listed.setIfInBounds j true)) a w) : wpAnyIn Fence.wide n P md ops Q (fuel + 1) listed a w :=
  wpAnyIn_all hr (by simp) (by
    intro x hx
    rcases List.mem_cons.1 hx with rfl | hx
    · exact h
    · rw [List.mem_singleton] at hx; subst hx; exact k)
theorem KpX.low {n lo lo' : Nat} {A B : World} (h : KpX n lo A B) (hl : lo' ≤ lo) : KpX n lo' A B := ⟨h.os, h.tape, h.output, h.size, fun b h1 h2 => h.block b h1 (by omega)⟩
theorem KpX.of_below {n lo m : Nat} {A B : World} (h : Below m A B) (hl : lo ≤ m) : KpX n lo A B := ⟨h.os, h.tape, h.output, h.size, fun b _ h2 => h.block b (by omega)⟩
end Go.Told
namespace Go.Proofs.Ytnknefdpglnbnaa
open Go Go.RowKit Go.Told

/-- What a round is told: how deep; the statement as it stands in memory, what it reads as; where the memory begins that is its own. -/
abbrev TX : Type := Int × SV × St × Nat
abbrev encT (x : TX) : Array Value := #[.int .i64 x.1, .agg x.2.1.arr]
abbrev keyT (x : TX) : Int × St := (x.1, x.2.2.1)
abbrev loT (x : TX) : Nat := x.2.2.2
/-- No more than 512 have come; it stands so deep; it is known in memory, in blocks of its own. -/
def DtT (pre : List TX) (x : TX) (w : World) : Prop := (pre.length ≤ 512 ∧ 0 ≤ x.1 ∧ x.1 ≤ 513) ∧ IsStR w (OwnU (loT x) w) x.2.1 x.2.2.1
theorem DtT.stay {pre : List TX} {x : TX} {A B : World} (h : DtT pre x A) (_hs : A.heap.size ≤ B.heap.size) (hb : ∀ b, loT x ≤ b → b < A.heap.size → B.heap[b]? = A.heap[b]?) : DtT pre x B := by
  have hk : ∀ b o, OwnU (loT x) A b o → B.heap[b]? = A.heap[b]? := fun b o h => hb b h.1 h.lt
  exact ⟨h.1, IsStR.mono (fun b o h => h.of (hk b o h)) (IsStR.keep hk h.2)⟩
theorem cf92 : ∀ args w, (callFunc 92 args).run Try.prog w = .ok (.enter 92 args) w := fun args w => by go_simp
set_option maxRecDepth 100000 in
set_option maxHeartbeats 1000000 in
/-- What Each tells by: a copy of the statement is handed to yield. -/
theorem tell92 {n0 m l q1 : Nat} {J Jx : List TX → World → Prop} (hJ : ∀ s A B, J s A → Below n0 A B → J s B)
    (hY : ∀ pre x W1, J pre W1 → n0 ≤ loT x → loT x ≤ W1.heap.size → DtT pre x W1 → YieldAt Fence.wide m Try.prog l (encT x) W1 fun e W' => (e = .returned (.bool true) ∧ J (pre ++ [x]) W' ∧ KpX n0 (loT x) W1 W') ∨ (e = .returned (.bool false) ∧ Jx (pre ++ [x]) W'))
    (k d : Int) (x : St) (s : SV) (pre : List TX) (w : World) (hj : J pre w) (hq : Blk w q1 115 (.func (.yield l) #[] #[])) (hn : n0 ≤ w.heap.size) (B : Nat) (hB : B ≤ w.heap.size) (hs : IsSt w B s x) (hpl : pre.length ≤ 512 ∧ 0 ≤ d ∧ d ≤ 513) :
    Calls Try.prog 92 #[.int .i64 k, .int .i64 d, .agg s.arr, .pointer (some ⟨q1, 0, Option.none⟩)] w fun e w' => ∃ ok : Bool, e = .returned (.bool ok) ∧
      (ok = true → ∃ t : TX, keyT t = (d, x) ∧ J (pre ++ [t]) w' ∧ KpX n0 w.heap.size w w') ∧ (ok = false → ∃ t : TX, keyT t = (d, x) ∧ Jx (pre ++ [t]) w') := by
  have hqc := hq.cell
  have hql := hq.lt
  obtain ⟨i0, hi, hz0, hz1, hz2⟩ := info_parts info58
  refine (callsIn_wide (n := 0)).1 ?_
  refine callsIn_of_wp Try.func92 rfl trivial ?_
  simp only [Try.ntmps92, List.size_toArray, List.length_cons, List.length_nil, Nat.reduceAdd, Nat.reduceSub, Array.replicate_succ, Array.replicate_zero, List.push_toArray, List.append_toArray, List.nil_append, List.cons_append]
  refine wpIn_seq (wpIn_wide.2 ?_)
  go_wp2
  have hl0 : ∀ w' : World, w'.cell? ⟨q1, 0, Option.none⟩ = some (.func (.yield l) #[] #[]) → (loadVar 115 ⟨q1, 0, Option.none⟩).run Try.prog w' = .ok (.func (.yield l) #[] #[]) w' := by
    intro w' h
    go_simp
  obtain ⟨w1, hw1⟩ : ∃ w1, w1 = w.alloc (.cells s.arr 58) := ⟨_, rfl⟩
  rw [← hw1]
  have hb1 : Below w.heap.size w w1 := by rw [hw1]; exact (Below.refl _ w).alloc (Nat.le_refl _) _
  have hB1 : BlkN w1 w.heap.size 58 s.arr := by rw [hw1]; exact BlkN.at_ rfl _ _
  have hs1 : IsSt w1 B s x := IsStR.keep (fun b o hb => hb1.block b (by omega)) hs
  have hc1 : w1.cell? ⟨q1, 0, Option.none⟩ = some (.func (.yield l) #[] #[]) := (hq.below hb1).cell
  have hj1 : J pre w1 := hJ _ _ _ hj (hb1.mono hn)
  have hz := hb1.size
  refine wpIn_seq (wpIn_region_any (by kernel_rfl) ?_)
  refine wpAnyIn_take rfl (i := 1) rfl (by kernel_rfl) (by kernel_rfl) (by kernel_rfl) (fun _ _ _ h => h) ⟨.inl ⟨rfl, fun _ => rfl⟩, fun _ => rfl⟩ ?_
  have hd1 : IsSt w1.drew B s x := IsStR.keep (w := w1) (w' := w1.drew) (fun _ _ _ => rfl) hs1
  have C93 : Calls Try.prog 93 #[.agg s.arr] w1.drew fun e w2 => ∃ s2 : SV, e = .returned (.agg s2.arr) ∧ IsStR w2 (OwnU w1.heap.size w2) s2 x ∧ Below w1.heap.size w1 w2 :=
    (ownStmt93_any x w1.drew B s hd1 (by rw [show w1.drew.heap.size = w1.heap.size from rfl]; omega)).mono fun e w2 h => by
      obtain ⟨s2, he, h1, h2⟩ := h
      exact ⟨s2, he, h1, ⟨h2.os, h2.tape, h2.output, h2.size, h2.block⟩⟩
  have cf93 : ∀ args w, (callFunc 93 args).run Try.prog w = .ok (.enter 93 args) w := fun args w => by go_simp
  have h58 : ∀ w' : World, BlkN w' w.heap.size 58 s.arr → (loadVar 58 ⟨w.heap.size, 0, Option.none⟩).run Try.prog w' = .ok (.agg s.arr) w' := fun w' h => run_loadVar_blk Try.underlying58 hi h (by rw [hz1]; rfl)
  have HY : ∀ s2 w2, IsStR w2 (OwnU w1.heap.size w2) s2 x → Below w1.heap.size w1 w2 → YieldAt Fence.wide m Try.prog l #[.int .i64 d, .agg s2.arr] w2 fun e w3 => ∃ ok : Bool, e = .returned (.bool ok) ∧
      (ok = true → ∃ t : TX, keyT t = (d, x) ∧ J (pre ++ [t]) w3 ∧ KpX n0 w.heap.size w w3) ∧ (ok = false → ∃ t : TX, keyT t = (d, x) ∧ Jx (pre ++ [t]) w3) := by
    intro s2 w2 hs2 hb2
    refine (hY pre (d, s2, x, w1.heap.size) w2 (hJ _ _ _ hj1 (hb2.mono (by omega))) (by show n0 ≤ w1.heap.size; omega) hb2.size ⟨hpl, hs2⟩).mono ?_
    rintro e w3 (⟨he, h1, h2⟩ | ⟨he, h1⟩)
    · exact ⟨true, he, fun _ => ⟨_, rfl, h1, ((KpX.of_below hb1 (Nat.le_refl _)).trans (KpX.of_below hb2 hz)).trans (h2.low hz)⟩, (fun h => nomatch h)⟩
    · exact ⟨false, he, (fun h => nomatch h), fun _ => ⟨_, rfl, h1⟩⟩
  refine two_ready (i := 0) (j := 2) (by kernel_rfl) ?_ ?_
  · refine op_value (w' := w1.drew) rfl rfl (exec_load rfl rfl (hl0 _ hc1)) ?_
    refine one_ready (i := 2) (by kernel_rfl) ?_
    refine op_value (w' := w1.drew) rfl rfl (exec_load rfl rfl (h58 _ hB1)) ?_
    refine one_ready (i := 3) (by kernel_rfl) ?_
    refine op_call (args := #[.agg s.arr]) rfl rfl rfl rfl cf93 (by simp; rfl) C93 ?_
    rintro _ w2 ⟨s2, rfl, hs2, hb2⟩
    refine ⟨_, rfl, ?_⟩
    refine one_ready (i := 4) (by kernel_rfl) ?_
    refine op_round rfl rfl rfl rfl rfl (args := #[.int .i64 d, .agg s2.arr]) (by simp; exact ⟨rfl, rfl⟩) (HY s2 w2 hs2 hb2) ?_
    rintro _ w3 ⟨ok, rfl, hok⟩
    refine ⟨_, rfl, ?_⟩
    refine one_ready (i := 5) (by kernel_rfl) ?_
    refine op_value (w' := w3) rfl rfl rfl ?_
    refine wpAnyIn_done (by kernel_rfl) ?_ _
    refine wpIn_ret ?_
    go_ret
    exact ⟨ok, rfl, hok⟩
  · refine op_value (w' := w1.drew) rfl rfl (exec_load rfl rfl (h58 _ hB1)) ?_
    refine two_ready (i := 0) (j := 3) (by kernel_rfl) ?_ ?_
    · refine op_value (w' := w1.drew) rfl rfl (exec_load rfl rfl (hl0 _ hc1)) ?_
      refine one_ready (i := 3) (by kernel_rfl) ?_
      refine op_call (args := #[.agg s.arr]) rfl rfl rfl rfl cf93 (by simp; rfl) C93 ?_
      rintro _ w2 ⟨s2, rfl, hs2, hb2⟩
      refine ⟨_, rfl, ?_⟩
      refine one_ready (i := 4) (by kernel_rfl) ?_
      refine op_round rfl rfl rfl rfl rfl (args := #[.int .i64 d, .agg s2.arr]) (by simp; exact ⟨rfl, rfl⟩) (HY s2 w2 hs2 hb2) ?_
      rintro _ w3 ⟨ok, rfl, hok⟩
      refine ⟨_, rfl, ?_⟩
      refine one_ready (i := 5) (by kernel_rfl) ?_
      refine op_value (w' := w3) rfl rfl rfl ?_
      refine wpAnyIn_done (by kernel_rfl) ?_ _
      refine wpIn_ret ?_
      go_ret
      exact ⟨ok, rfl, hok⟩
    · refine op_call (args := #[.agg s.arr]) rfl rfl rfl rfl cf93 (by simp; rfl) C93 ?_
      rintro _ w2 ⟨s2, rfl, hs2, hb2⟩
      refine ⟨_, rfl, ?_⟩
      refine one_ready (i := 0) (by kernel_rfl) ?_
      refine op_value (w' := w2) rfl rfl (exec_load rfl rfl (hl0 _ ((hq.below (hb1.trans (hb2.mono hz))).cell))) ?_
      refine one_ready (i := 4) (by kernel_rfl) ?_
      refine op_round rfl rfl rfl rfl rfl (args := #[.int .i64 d, .agg s2.arr]) (by simp; exact ⟨rfl, rfl⟩) (HY s2 w2 hs2 hb2) ?_
      rintro _ w3 ⟨ok, rfl, hok⟩
      refine ⟨_, rfl, ?_⟩
      refine one_ready (i := 5) (by kernel_rfl) ?_
      refine op_value (w' := w3) rfl rfl rfl ?_
      refine wpAnyIn_done (by kernel_rfl) ?_ _
      refine wpIn_ret ?_
      go_ret
      exact ⟨ok, rfl, hok⟩
end Go.Proofs.Ytnknefdpglnbnaa
namespace Go.Proofs.Ytnknefdpglnbnaa
open Go Go.RowKit Go.Told

/-- All that Each tells of a code. -/
def toldL (l : List St) : List (Int × St) := if (chkL l).2 = 0 then flats l 0 else []
theorem toldL_len (l : List St) : (toldL l).length ≤ 512 := by
  unfold toldL
  split
  · rename_i h
    have := chk_zero _ 0 (by omega) h
    simpa using this
  · simp
/-- The whole of it has come. -/
def AllT (l : List St) (xs : List TX) : Prop := xs.map keyT = toldL l
/-- A part of it, and no more was asked for. -/
def PreT (l : List St) (xs : List TX) : Prop := ∃ m, m < (toldL l).length ∧ xs.map keyT = (toldL l).take (m + 1)
attribute [local irreducible] wpList
def IT (J : List TX → World → Prop) (n0 p : Nat) (w3 : World) (told : List (Int × St)) (w : World) : Prop :=
  ∃ xs, told = xs.map keyT ∧ J xs w ∧ w3.heap.size ≤ w.heap.size ∧ ∀ b, n0 ≤ b → b < w3.heap.size → b ≠ p → w.heap[b]? = w3.heap[b]?
def ST (Jx : List TX → World → Prop) (told : List (Int × St)) (w : World) : Prop := ∃ xs, told = xs.map keyT ∧ Jx xs w
theorem teller92 {n0 m lp p : Nat} {J Jx : List TX → World → Prop} {w3 : World} {R : Nat → Nat → Prop} (hJ : ∀ s A B, J s A → Below n0 A B → J s B)
    (hY : ∀ pre x W1, J pre W1 → n0 ≤ loT x → loT x ≤ W1.heap.size → DtT pre x W1 → YieldAt Fence.wide m Try.prog lp (encT x) W1 fun e W' => (e = .returned (.bool true) ∧ J (pre ++ [x]) W' ∧ KpX n0 (loT x) W1 W') ∨ (e = .returned (.bool false) ∧ Jx (pre ++ [x]) W'))
    (hp : n0 < p) (hp3 : p < w3.heap.size) (hq : Blk w3 n0 115 (.func (.yield lp) #[] #[])) (hR : ∀ b o, R b o → n0 ≤ b ∧ b < w3.heap.size ∧ b ≠ p) :
    TellerS 92 #[.pointer (some ⟨n0, 0, Option.none⟩)] (fun b => b < n0) (IT J n0 p w3) (ST Jx) R p w3 where
  cf := cf92
  own := fun b hb => by have := hq.lt; omega
  ownp := by omega
  size := fun told w h => h.choose_spec.2.2.1
  keep := by
    rintro told w ⟨xs, _, _, _, h⟩ b o hb
    obtain ⟨h1, h2, h3⟩ := hR b o hb
    exact h b h1 h2 h3
  mono := by
    rintro told w w' ⟨xs, h1, h2, h3, h4⟩ hu
    refine ⟨xs, h1, hJ _ _ _ h2 ⟨hu.os, hu.tape, hu.output, hu.size, fun b hb => hu.block b (by omega) (by omega)⟩, Nat.le_trans h3 hu.size, fun b hb1 hb2 hb3 => (hu.block b (by omega) hb3).trans (h4 b hb1 hb2 hb3)⟩
  call := by
    rintro told d x s w ⟨xs, h1, h2, h3, h4⟩ hs hl hd0 hd1
    have hq' : Blk w n0 115 (.func (.yield lp) #[] #[]) := (h4 n0 (Nat.le_refl _) hq.lt (by omega)).trans hq
    refine (tell92 hJ hY (told.length : Int) d x s xs w h2 hq' (by omega) w3.heap.size h3 (IsStR.mono (fun b o hb => (hR b o hb).2.1) hs) ⟨(by rw [h1] at hl; simpa using hl), hd0, hd1⟩).mono ?_
    rintro e w' ⟨ok, rfl, k1, k2⟩
    refine ⟨ok, rfl, fun hok => ?_, fun hok => ?_⟩
    · obtain ⟨t, ht, hj, hk⟩ := k1 hok
      refine ⟨⟨xs ++ [t], by rw [h1, List.map_append, List.map_singleton, ht], hj, Nat.le_trans h3 hk.size, fun b hb1 hb2 hb3 => (hk.block b hb1 (by omega)).trans (h4 b hb1 hb2 hb3)⟩, hk.block p (by omega) (by omega), ⟨hk.os, hk.tape, hk.output, hk.size, fun b hb ho _ => hk.block b (by omega) hb⟩⟩
    · obtain ⟨t, ht, hj⟩ := k2 hok
      exact ⟨xs ++ [t], by rw [h1, List.map_append, List.map_singleton, ht], hj⟩
set_option maxRecDepth 100000 in
set_option maxHeartbeats 1000000 in
theorem each91 (m : Nat) (l : List St) (A : Option Addr) (len cap b1 : Nat) (w0 : World) (B : Nat) (hB : B ≤ w0.heap.size) (hl : LR (fun b _ => b < B) 256 A len cap l (fun b o => IsSts w0 B b o l)) (hb1 : Blk w0 b1 42 (.slice A len cap)) :
    SeqTold m Try.prog 91 #[.pointer (some ⟨b1, 0, Option.none⟩)] encT loT DtT (AllT l) (PreT l) w0 := by
  intro lp J Jx W hBW hJ hJx hY hj0
  refine callsIn_wide.2 ?_
  have HL := Lib.hid hl
  have HY := Lib.hid hY
  have HJ := Lib.hid hJ
  have HJ0 := Lib.hid hj0
  obtain ⟨n0, hn0⟩ : ∃ n0, n0 = W.heap.size := ⟨_, rfl⟩
  have HW0 := Lib.hid hBW
  have hs0 := hBW.size
  have HB1 : Hid (Blk W b1 42 (.slice A len cap)) := Lib.hid (hb1.below hBW)
  clear hl hY hJ hj0 hJx hBW hb1
  have C54 := Lib.hid fun (w' : World) (hb : Below W.heap.size W w') => Own54_any l A len cap w' B (by have := hb.size; omega) (HL.out.imp fun b o hr hp => ⟨hr, IsSts.keep (fun b hb' => (hb.block b (by omega)).trans (HW0.out.block b (by omega))) hr hp⟩)
  show Calls Try.prog 91 #[.func (.yield lp) #[] #[], .pointer (some ⟨b1, 0, Option.none⟩)] W _
  have hbl := HB1.out.lt
  have hbc := (HB1.out.alloc (.cells #[.func (.yield lp) #[] #[]] 115)).cell
  have hA0 : Below W.heap.size W (W.alloc (.cells #[.func (.yield lp) #[] #[]] 115)) := (Below.refl _ W).alloc (Nat.le_refl _) _
  by_cases hz : (chkL l).2 = 0
  · have C := Lib.hid ((C54.out _ hA0).mono (fun e w' h => show Below (W.alloc (.cells #[.func (.yield lp) #[] #[]] 115)).heap.size (W.alloc (.cells #[.func (.yield lp) #[] #[]] 115)) w' ∧ ∃ A' cap', e = .returned (.tuple #[.slice A' l.length cap', .int .i64 0]) ∧ LR (OwnU (W.heap.size + 1) w') 256 A' l.length cap' l (fun b o => IsStsR w' (OwnU (W.heap.size + 1) w') b o l) from by
      obtain ⟨h1, (⟨h2, _⟩ | ⟨_, A', cap', h3, h4⟩)⟩ := h
      · exact absurd hz h2
      · exact ⟨h1, A', cap', h3, by simpa using h4⟩))
    have hT : toldL l = flats l 0 := by unfold toldL; rw [if_pos hz]
    clear C54
    go_enter Try.func91, Try.ntmps91
    go_upto_region 4 with (first | (go_at_call 54; refine C.out.mono ?_; rintro e w2 ⟨hb2, A', cap', rfl, hx⟩; have HX := Lib.hid hx; clear hx))
    have hz2 := hb2.size
    simp only [World.size_alloc] at hz2
    obtain ⟨w3, hw3⟩ : ∃ w3, w3 = w2.alloc (.cells #[.int .i64 0] 3) := ⟨_, rfl⟩
    have hs3 : w3.heap.size = w2.heap.size + 1 := by rw [hw3]; simp
    have hB23 : Below w2.heap.size w2 w3 := by rw [hw3]; exact (Below.refl _ _).alloc (Nat.le_refl _) _
    have hN : Blk w3 w2.heap.size 3 (.int .i64 0) := by rw [hw3]; exact Blk.at_ rfl _ _
    have hQ : Blk w3 W.heap.size 115 (.func (.yield lp) #[] #[]) := ((Blk.at_ rfl _ _ : Blk (W.alloc (.cells #[.func (.yield lp) #[] #[]] 115)) W.heap.size 115 (.func (.yield lp) #[] #[])).below hb2).below hB23
    have hWB : Below W.heap.size W w3 := (hA0.trans (hb2.mono (by simp))).trans (hB23.mono (by omega))
    rw [← hw3]
    have T := teller92 (R := OwnU (W.heap.size + 1) w2) (w3 := w3) (p := w2.heap.size) HJ.out HY.out (by omega) (by omega) hQ (fun b o h => ⟨by have := h.1; omega, by have := h.lt; omega, by have := h.lt; omega⟩)
    have C74 := Lib.hid (walkS_any 92 _ _ _ _ _ w2.heap.size w3 T l w3 A' l.length cap' 0 []
      (HX.out.imp fun b o hr hp => ⟨hr, IsStsR.keep (fun b o h => hB23.block b h.lt) (hB23.block b hr.lt) hp⟩)
      ⟨[], rfl, HJ.out _ _ _ HJ0.out hWB, Nat.le_refl _, fun _ _ _ _ => rfl⟩ hN (Int.le_refl _) (by simp) (by simp))
    clear T HX hb2 hN hQ hw3 hB23
    go_wp2_with (go_at_call 74; refine C74.out.mono ?_; rintro e w4 ⟨ok, rfl, h1, h2⟩)
    all_goals
      refine bodyPost_end (results_none rfl _ _ _) rfl ⟨⟨_, rfl⟩, ?_⟩
      cases ok with
      | true =>
        obtain ⟨⟨xs, k1, k2, _, _⟩, _⟩ := h1 rfl
        exact .inl ⟨xs, by unfold AllT; rw [← k1, hT, List.nil_append], k2⟩
      | false =>
        obtain ⟨j, hj, (⟨xs, k1, k2⟩ | ⟨k1, _⟩)⟩ := h2 rfl
        · exact .inr ⟨xs, ⟨j, by rw [hT]; exact hj, by rw [← k1, hT, List.nil_append]⟩, k2⟩
        · have := toldL_len l
          rw [hT] at this
          simp at k1
          omega
  · obtain ⟨n, hn⟩ : ∃ n, n = (chkL l).2 := ⟨_, rfl⟩
    have C := Lib.hid ((C54.out _ hA0).mono (fun e w' h => show Below (W.alloc (.cells #[.func (.yield lp) #[] #[]] 115)).heap.size (W.alloc (.cells #[.func (.yield lp) #[] #[]] 115)) w' ∧ e = .returned (.tuple #[.slice Option.none 0 0, .int .i64 (n : Nat)]) from by
      obtain ⟨h1, (⟨_, h2⟩ | ⟨h2, _⟩)⟩ := h
      · exact ⟨h1, hn ▸ h2⟩
      · exact absurd h2 hz))
    have hT : toldL l = [] := by unfold toldL; rw [if_neg hz]
    rw [← hn] at hz
    have hne : ((n : Int) != 0) = true := by simp; omega
    clear C54 hn
    go_enter Try.func91, Try.ntmps91
    go_wp2_with (first | (go_at_call 54; refine C.out.mono ?_; rintro e w2 ⟨hb2, rfl⟩))
    refine bodyPost_ret (results_none rfl _ _ _) rfl ?_
    exact ⟨⟨_, rfl⟩, .inl ⟨[], by simp [AllT, hT], HJ.out _ _ _ HJ0.out (hA0.trans (hb2.mono (by simp)))⟩⟩
end Go.Proofs.Ytnknefdpglnbnaa
