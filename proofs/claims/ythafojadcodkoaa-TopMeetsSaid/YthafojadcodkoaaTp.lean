/- A struct stored into a block that is known whole, as one step (carried over). -/
import Derived.Test.YthafojadcodkoaaA
import Derived.Laws.CopyRow
namespace Go.Proofs.Ythafojadcodkoaa
open Go.RowKit



/-- w' is w but for block b. -/
structure But (b : Nat) (w w' : World) : Prop where
  os : w'.os = w.os
  tape : w'.tape = w.tape
  output : w'.output = w.output
  size : w'.heap.size = w.heap.size
  other : ∀ k, k ≠ b → w'.heap[k]? = w.heap[k]?
theorem But.below {b B : Nat} {a w w' : World} (h : But b w w') (hB : B ≤ b) (ha : Below B a w) : Below B a w' :=
  ⟨h.os.trans ha.os, h.tape.trans ha.tape, h.output.trans ha.output, by rw [h.size]; exact ha.size, fun k hk => (h.other k (by omega)).trans (ha.block k hk)⟩
theorem But.upd {b p : Nat} {a w w' : World} (h : But b w w') (hB : a.heap.size ≤ b) (ha : Upd p a w) : Upd p a w' :=
  ⟨h.os.trans ha.os, h.tape.trans ha.tape, h.output.trans ha.output, by rw [h.size]; exact ha.size, fun k hk hn => (h.other k (by omega)).trans (ha.block k hk hn)⟩
theorem But.toUpd {b : Nat} {w w' : World} (h : But b w w') : Upd b w w' := ⟨h.os, h.tape, h.output, by rw [h.size]; exact Nat.le_refl _, fun k _ hn => h.other k hn⟩

theorem run_storeVar_blk {P : Program} {w : World} {T Tb : TypeId} {i : TypeInfo} (hi : P.info? T = some i) {b : Nat} {cur cs : Array Value} (hB : BlkN w b Tb cur) (hn : cs.size = i.size) (hc : cur.size = cs.size) (h1 : ∀ u ∈ cs.toList, u.oneCell' = true) :
    ∃ w', (storeVar T ⟨b, 0, Option.none⟩ (.agg cs)).run P w = .ok () w' ∧ BlkN w' b Tb cs ∧ But b w w' := by
  have hst := run_storeCells_at P b 0 Tb cs.toList 0 cur w hB (by simp; omega) h1
  refine ⟨w.setRow b cs, ?_, setRow_heap w b cur cs Tb (0, 0) hB, ⟨rfl, rfl, rfl, by simp [World.setRow], fun k hk => setRow_other w b k cs hk⟩⟩
  have e : (cur.toList.take (0 + 0) ++ cs.toList ++ cur.toList.drop (0 + 0 + cs.toList.length)).toArray = cs := by
    rw [List.drop_of_length_le (by simp; omega)]
    simp
  rw [e] at hst
  simp [storeVar, sizeOf, typeInfo, hi, hn, Value.cells, hst]
theorem wpList_store_blk {P : Program} {w : World} {ops : Array Oper} {rest : List Oper} {o : Oper} {a : Act} {Q : Exit → Act → World → Prop} (hg : o.guard = Option.none) (T : TypeId) (p v : Operand) (hop : o.op = Op.store T p v)
    (i : TypeInfo) (hi : P.info? T = some i) (b : Nat) (cs : Array Value) (hp : a.eval p = .pointer (some ⟨b, 0, Option.none⟩)) (hv : a.eval v = .agg cs) (Tb : TypeId) (cur : Array Value) (hB : BlkN w b Tb cur) (hn : cs.size = i.size) (hc : cur.size = cs.size) (h1 : ∀ u ∈ cs.toList, u.oneCell' = true)
    (h : ∀ w', BlkN w' b Tb cs → But b w w' → wpList P ops Q rest (a.put o.dst undef) w') : wpList P ops Q (o :: rest) a w := by
  refine wpList_plain hg fun K hK => ?_
  obtain ⟨w', hr, h2, h3⟩ := run_storeVar_blk (P := P) hi hB hn hc h1
  unfold Oper.wp
  simp [execOp, hop, hp, hv, Instr.storeAt, Instr.sureAddr, hr, Result.andThen]
  exact hK _ _ (h w' h2 h3)
theorem run_loadVar_blk {P : Program} {w : World} {T Tb : TypeId} {fs : Array Field} (ht : P.underlying T = some (.struct fs)) {i : TypeInfo} (hi : P.info? T = some i) {b : Nat} {cs : Array Value} (hB : BlkN w b Tb cs) (hn : cs.size = i.size) :
    (loadVar T ⟨b, 0, Option.none⟩).run P w = .ok (.agg cs) w := by
  have h := run_loadCells_list (P := P) w ⟨b, 0, Option.none⟩ cs.toList (fun j v hv => by
    rw [add_lit, hB.cell_eq]; simpa using hv)
  rw [Array.length_toList, Array.toArray_toList, hn] at h
  unfold loadVar
  simp [isAgg, run_underlying ht, sizeOf, typeInfo, hi, h, Result.andThen]
theorem results_cell1 {P : Program} {w : World} {fn : Func} {s : Tmp} {T Tb : TypeId} (hr : fn.results = #[.cell s T]) {fs : Array Field} (ht : P.underlying T = some (.struct fs)) {i : TypeInfo} (hi : P.info? T = some i) {tmps : Array Value} {b : Nat} (hp : tmps.getD s undef = .pointer (some ⟨b, 0, Option.none⟩))
    {cs : Array Value} (hB : BlkN w b Tb cs) (hn : cs.size = i.size) : (results fn tmps).run P w = .ok (.agg cs) w := by
  have h := run_loadVar_blk (P := P) ht hi hB hn
  have hp' : tmps[s]?.getD undef = .pointer (some ⟨b, 0, Option.none⟩) := by simpa using hp
  simp [results, hr, hp', asAddr, h]
theorem results_cell2 {P : Program} {w : World} {fn : Func} {s t : Tmp} {T Tb : TypeId} (hr : fn.results = #[.cell s T, .tmp t]) {fs : Array Field} (ht : P.underlying T = some (.struct fs)) {i : TypeInfo} (hi : P.info? T = some i) {tmps : Array Value} {b : Nat} (hp : tmps.getD s undef = .pointer (some ⟨b, 0, Option.none⟩))
    {cs : Array Value} (hB : BlkN w b Tb cs) (hn : cs.size = i.size) {v : Value} (hv : tmps.getD t undef = v) : (results fn tmps).run P w = .ok (.tuple #[.agg cs, v]) w := by
  have h := run_loadVar_blk (P := P) ht hi hB hn
  have hp' : tmps[s]?.getD undef = .pointer (some ⟨b, 0, Option.none⟩) := by simpa using hp
  have hv' : tmps[t]?.getD undef = v := by simpa using hv
  simp only [results, hr]
  simp [hp', asAddr, h, hv', Result.andThen]
end Go.Proofs.Ythafojadcodkoaa
