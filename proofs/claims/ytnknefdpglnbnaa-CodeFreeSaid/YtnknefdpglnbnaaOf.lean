/- Values, names, expressions among the arguments, opened. Texts and lists of texts among the arguments, opened. An array of two texts that was handed in. -/
import Derived.Test.YtnknefdpglnbnaaOc
import Derived.Test.YtnknefdpglnbnaaLi
import Derived.OpenShut
namespace Go.Proofs.Ytnknefdpglnbnaa
open Go.RowKit

theorem five_of {α : Type} {l : List α} (h : l.length = 5) : ∃ a b c d e, l = [a, b, c, d, e] := by
  match l, h with
  | [a, b, c, d, e], _ => exact ⟨a, b, c, d, e, rfl⟩
theorem six_of {α : Type} {l : List α} (h : l.length = 6) : ∃ a b c d e f, l = [a, b, c, d, e, f] := by
  match l, h with
  | [a, b, c, d, e, f], _ => exact ⟨a, b, c, d, e, f, rfl⟩
theorem two_of {α : Type} {l : List α} (h : l.length = 2) : ∃ a b, l = [a, b] := by
  match l, h with
  | [a, b], _ => exact ⟨a, b, rfl⟩
theorem cells34 : Try.prog.cellsOf 34 = 5 := by kernel_rfl
theorem cells30 : Try.prog.cellsOf 30 = 1 := by kernel_rfl
theorem cells31 : Try.prog.cellsOf 31 = 1 := by kernel_rfl
theorem cells32 : Try.prog.cellsOf 32 = 1 := by kernel_rfl
theorem cells73 : Try.prog.cellsOf 73 = 6 := by kernel_rfl
theorem cells22 : Try.prog.cellsOf 22 = 1 := by kernel_rfl
theorem bytes34 : Try.prog.bytesOf 34 = 64 := by kernel_rfl
theorem bytes73 : Try.prog.bytesOf 73 = 80 := by kernel_rfl
theorem open_va {H : Type} {enc : TypeId × Value → H} {w : World} {base B : Nat} {sp : Nat → Bool} : ∀ (fuel : Nat) (cs : List Value) (x : DataW H × List MemPlace), DataW.trod enc Try.prog w base sp true fuel 34 cs = some x →
    (∀ p ∈ x.2, p.block < B) → (∀ n ∈ x.1.weights Try.prog 34, n ≤ 140737488351232) → ∃ (c0 c1 c2 c3 c4 : Value) (e : Va), cs = [c0, c1, c2, c3, c4] ∧ IsVaR w (fun b _ => b < B) (.agg #[c0, c1, c2, c3, c4]) e := by
  intro fuel
  induction fuel using Nat.strongRecOn with
  | _ fuel ih =>
    intro cs x h hB hW
    obtain ⟨xs, n, rfl, rfl, hlen, hxl, hf⟩ := DataW.trod_struct Try.underlying34 h
    rw [cells34] at hlen
    obtain ⟨c0, c1, c2, c3, c4, rfl⟩ := five_of hlen
    obtain ⟨x0, x1, x2, x3, x4, rfl⟩ := five_of hxl
    have f0 : DataW.trod enc Try.prog w base sp true n 30 (List.take (Try.prog.cellsOf 30) (List.drop 0 [c0, c1, c2, c3, c4])) = some x0 := hf 0 _ rfl
    rw [cells30] at f0
    have f1 : DataW.trod enc Try.prog w base sp true n 2 (List.take (Try.prog.cellsOf 2) (List.drop 1 [c0, c1, c2, c3, c4])) = some x1 := hf 1 _ rfl
    rw [cells2] at f1
    have f2 : DataW.trod enc Try.prog w base sp true n 9 (List.take (Try.prog.cellsOf 9) (List.drop 2 [c0, c1, c2, c3, c4])) = some x2 := hf 2 _ rfl
    rw [cells9] at f2
    have f3 : DataW.trod enc Try.prog w base sp true n 31 (List.take (Try.prog.cellsOf 31) (List.drop 3 [c0, c1, c2, c3, c4])) = some x3 := hf 3 _ rfl
    rw [cells31] at f3
    have f4 : DataW.trod enc Try.prog w base sp true n 32 (List.take (Try.prog.cellsOf 32) (List.drop 4 [c0, c1, c2, c3, c4])) = some x4 := hf 4 _ rfl
    rw [cells32] at f4
    simp only [List.drop_zero, List.take_succ_cons, List.take_zero, List.drop_succ_cons] at f0 f1 f2 f3 f4
    obtain ⟨k, e0, _, hk⟩ := DataW.trod_int Try.underlying30 f0
    obtain ⟨m, e1, _, _⟩ := DataW.trod_int Try.underlying2 f1
    obtain ⟨s, e2, hx2, _⟩ := DataW.trod_string Try.underlying9 f2
    obtain ⟨r, e4, _, _⟩ := DataW.trod_int Try.underlying32 f4
    simp only [List.cons.injEq, and_true] at e0 e1 e2 e4
    subst e0 e1 e2 e4
    have hs : s.size ≤ 140737488351232 := by
      have : s.data.toList.length ∈ (DataW.agg ([x0, x1, x2, x3, x4].map (·.1))).weights Try.prog 34 := by
        unfold DataW.weights
        simp [Try.underlying34, hx2, DataW.weightsEach, DataW.weights]
      simpa using hW _ this
    have hk' := u8_wf hk
    obtain ⟨A, len, cap, l, rfl, _, g1, g2, g3, g4⟩ := open_elems (p := fun b o (y : Va) => ∃ c0 c1 c2 c3 c4, At w b o [c0, c1, c2, c3, c4] ∧ IsVaR w (fun b _ => b < B) (.agg #[c0, c1, c2, c3, c4]) y) Try.underlying31 cells34 (by omega) bytes34 (fun n' cs' x' hn hx hxB hxW => by
      obtain ⟨d0, d1, d2, d3, d4, e, rfl, hE⟩ := ih n' (by omega) cs' x' hx hxB hxW
      exact ⟨e, fun b o hcell => ⟨d0, d1, d2, d3, d4, hcell, hE⟩⟩) c3 x3 f3 (fun q hq => hB q (by simp [hq])) (fun q hq => hW q (by
        unfold DataW.weights
        simp [Try.underlying34, DataW.weightsEach, hq]))
    refine ⟨_, _, _, _, _, .mk k m s l r, rfl, ?_⟩
    unfold IsVaR
    exact ⟨hk'.1, hk'.2, hs, g3, A, cap, g2, by rw [g1], fun hl => by obtain ⟨b, o, hb, hA, hp⟩ := g4 hl; exact ⟨b, o, hb, hA, IsVasR.of hp⟩⟩
theorem open_names {H : Type} {enc : TypeId × Value → H} {w : World} {base B : Nat} {sp : Nat → Bool} (fuel : Nat) (c : Value) (x : DataW H × List MemPlace) (h : DataW.trod enc Try.prog w base sp true fuel 22 [c] = some x) (hB : ∀ q ∈ x.2, q.block < B) (hW : ∀ q ∈ x.1.weights Try.prog 22, q ≤ 140737488351232) :
    ∃ l : List Na, IsNsR w (fun b _ => b < B) c l := by
  obtain ⟨A, len, cap, l, rfl, _, h1, h2, h3, h4⟩ := open_elems (p := fun b o (y : Na) => ∃ cs : List Value, cs.length = 6 ∧ At w b o cs ∧ RdN.P w (fun b _ => b < B) cs y) Try.underlying22 cells73 (by omega) bytes73 (fun n cs x hn hx hxB hxW => by
    obtain ⟨xs, n', rfl, rfl, hlen, hxl, hf⟩ := DataW.trod_struct Try.underlying73 hx
    rw [cells73] at hlen
    obtain ⟨c0, c1, c2, c3, c4, c5, rfl⟩ := six_of hlen
    obtain ⟨x0, x1, rfl⟩ := two_of hxl
    have f0 : DataW.trod enc Try.prog w base sp true n' 9 (List.take (Try.prog.cellsOf 9) (List.drop 0 [c0, c1, c2, c3, c4, c5])) = some x0 := hf 0 _ rfl
    rw [cells9] at f0
    have f1 : DataW.trod enc Try.prog w base sp true n' 34 (List.take (Try.prog.cellsOf 34) (List.drop 1 [c0, c1, c2, c3, c4, c5])) = some x1 := hf 1 _ rfl
    rw [cells34] at f1
    simp only [List.drop_zero, List.take_succ_cons, List.take_zero, List.drop_succ_cons] at f0 f1
    obtain ⟨s, e0, hx0, _⟩ := DataW.trod_string Try.underlying9 f0
    simp only [List.cons.injEq, and_true] at e0
    subst e0
    have hs : s.size ≤ 140737488351232 := by
      have : s.data.toList.length ∈ (DataW.agg ([x0, x1].map (·.1))).weights Try.prog 73 := by
        unfold DataW.weights
        simp [Try.underlying73, hx0, DataW.weightsEach, DataW.weights]
      simpa using hxW _ this
    obtain ⟨d0, d1, d2, d3, d4, e, he, hE⟩ := open_va n' _ x1 f1 (fun q hq => hxB q (by simp [hq])) (fun q hq => hxW q (by
        unfold DataW.weights
        simp [Try.underlying73, DataW.weightsEach, hq]))
    simp only [List.cons.injEq, and_true] at he
    obtain ⟨rfl, rfl, rfl, rfl, rfl⟩ := he
    exact ⟨(s, e), fun b o hcell => ⟨_, rfl, hcell, hs, _, _, _, _, _, rfl, hE⟩⟩) c x h hB hW
  exact ⟨l, h3, A, cap, h2, by rw [h1], fun hl => by obtain ⟨b, o, hb, hA, hp⟩ := h4 hl; exact ⟨b, o, hb, hA, RdN.list hp⟩⟩
end Go.Proofs.Ytnknefdpglnbnaa
namespace Go.Proofs.Ytnknefdpglnbnaa
open Go.ChangeShapes Go.WideShapes Go.ChangeAt Go.RowKit
set_option maxRecDepth 100000 in
theorem weights_le {t : TypeId} {H : Type} {d : DataW H} (hs : (DataW.weightsEach Try.prog [t] [d]).all (· ≤ reachBytes) = true) : ∀ q ∈ d.weights Try.prog t, q ≤ 140737488351232 := fun q hq => by
  have hr : reachBytes = 140737488351232 := by decide
  have h1 : q ∈ DataW.weightsEach Try.prog [t] [d] := by simpa [DataW.weightsEach] using hq
  have := List.all_eq_true.1 hs q h1
  rw [hr] at this
  simpa using this
set_option maxRecDepth 100000 in
theorem open_arg22 {H : Type} {enc : TypeId × Value → H} {W : World} {base : Nat} {v : Value} {d : DataW H} {p : List MemPlace} (hv : Value.okWide Try.prog W .any base 22 v) (h : DataW.Trod enc Try.prog W 0 (fun _ => true) true 22 v d p) (hB : ∀ q ∈ p, q.block < W.heap.size)
    (hs : (DataW.weightsEach Try.prog [22] [d]).all (· ≤ reachBytes) = true) : ∃ l : List Na, IsNs W W.heap.size v l := by
  obtain ⟨a0, len, cap, rfl⟩ := okWide_slice Try.underlying22 hv
  obtain ⟨fuel, hf⟩ := h
  have hf' : DataW.trod enc Try.prog W 0 (fun _ => true) true fuel 22 [.slice a0 len cap] = some (d, p) := by simpa [Value.cells] using hf
  exact open_names fuel _ _ hf' hB (weights_le hs)
set_option maxRecDepth 100000 in
theorem open_arg56 {H : Type} {enc : TypeId × Value → H} {W : World} {base : Nat} {v : Value} {d : DataW H} {p : List MemPlace} (hv : Value.okWide Try.prog W .any base 56 v) (h : DataW.Trod enc Try.prog W 0 (fun _ => true) true 56 v d p) (hB : ∀ q ∈ p, q.block < W.heap.size)
    (hs : (DataW.weightsEach Try.prog [56] [d]).all (· ≤ reachBytes) = true) : ∃ l : List ByteArray, IsSs W W.heap.size v l := by
  obtain ⟨a0, len, cap, rfl⟩ := okWide_slice Try.underlying56 hv
  obtain ⟨fuel, hf⟩ := h
  have hf' : DataW.trod enc Try.prog W 0 (fun _ => true) true fuel 56 [.slice a0 len cap] = some (d, p) := by simpa [Value.cells] using hf
  obtain ⟨_, _, _, l, _, hl⟩ := open_ss fuel _ _ hf' hB (weights_le hs)
  exact ⟨l, hl⟩
set_option maxRecDepth 100000 in
theorem open_arg26 {H : Type} {enc : TypeId × Value → H} {W : World} {base : Nat} {v : Value} {d : DataW H} {p : List MemPlace} (hv : Value.okWide Try.prog W .any base 26 v) (h : DataW.Trod enc Try.prog W 0 (fun _ => true) true 26 v d p) (hB : ∀ q ∈ p, q.block < W.heap.size)
    (hs : (DataW.weightsEach Try.prog [26] [d]).all (· ≤ reachBytes) = true) : ∃ x : Ex, IsEx W W.heap.size v x := by
  obtain ⟨cs, rfl, _⟩ := okWide_struct Try.underlying26 hv
  obtain ⟨fuel, hf⟩ := h
  have hf' : DataW.trod enc Try.prog W 0 (fun _ => true) true fuel 26 cs.toList = some (d, p) := by simpa [Value.cells] using hf
  obtain ⟨c0, c1, c2, c3, x, hc, hx⟩ := open_ex fuel _ _ hf' hB (weights_le hs)
  have : cs = #[c0, c1, c2, c3] := by rw [← Array.toArray_toList (xs := cs), hc]
  rw [this]
  exact ⟨x, hx⟩
set_option maxRecDepth 100000 in
theorem open_arg34 {H : Type} {enc : TypeId × Value → H} {W : World} {base : Nat} {v : Value} {d : DataW H} {p : List MemPlace} (hv : Value.okWide Try.prog W .any base 34 v) (h : DataW.Trod enc Try.prog W 0 (fun _ => true) true 34 v d p) (hB : ∀ q ∈ p, q.block < W.heap.size)
    (hs : (DataW.weightsEach Try.prog [34] [d]).all (· ≤ reachBytes) = true) : ∃ x : Va, IsVa W W.heap.size v x := by
  obtain ⟨cs, rfl, _⟩ := okWide_struct Try.underlying34 hv
  obtain ⟨fuel, hf⟩ := h
  have hf' : DataW.trod enc Try.prog W 0 (fun _ => true) true fuel 34 cs.toList = some (d, p) := by simpa [Value.cells] using hf
  obtain ⟨c0, c1, c2, c3, c4, x, hc, hx⟩ := open_va fuel _ _ hf' hB (weights_le hs)
  have : cs = #[c0, c1, c2, c3, c4] := by rw [← Array.toArray_toList (xs := cs), hc]
  rw [this]
  exact ⟨x, hx⟩
end Go.Proofs.Ytnknefdpglnbnaa
namespace Go.Proofs.Ytnknefdpglnbnaa
open Go.ChangeShapes Go.WideShapes Go.ChangeAt Go.RowKit

theorem open_ss2 {H : Type} {enc : TypeId × Value → H} {w : World} {base B : Nat} {sp : Nat → Bool} (fuel : Nat) (c : Value) (x : DataW H × List MemPlace) (h : DataW.trod enc Try.prog w base sp true fuel 56 [c] = some x) (hB : ∀ q ∈ x.2, q.block < B) (hW : ∀ q ∈ x.1.weights Try.prog 56, q ≤ 140737488351232) :
    ∃ (l : List ByteArray), IsSsR w (fun b _ => b < B) c l ∧ ∀ n k, c = .slice Option.none n k → k = 0 := by
  obtain ⟨A, len, cap, l, rfl, hn, h1, h2, h3, h4⟩ := open_elems (p := fun b o (s : ByteArray) => w.cell? ⟨b, o, Option.none⟩ = some (.string s) ∧ s.size ≤ 140737488351232) Try.underlying56 cells9 (by omega) bytes9 (fun n cs x hn hx hxB hxW => by
    obtain ⟨s, rfl, rfl, _⟩ := DataW.trod_string Try.underlying9 hx
    refine ⟨s, fun b o hcell => ⟨by simpa using hcell 0 _ rfl, ?_⟩⟩
    have := hxW s.data.toList.length (by simp [DataW.weights])
    simpa using this) c x h hB hW
  refine ⟨l, ⟨h3, fun s hs => ?_, A, cap, h2, by rw [h1], fun hl => ?_⟩, fun n k e => ?_⟩
  · obtain ⟨i, hi, rfl⟩ := List.getElem_of_mem hs
    obtain ⟨b, o, _, _, hp⟩ := h4 (by rintro rfl; simp at hi)
    exact (hp i hi).2
  · obtain ⟨b, o, hb, hA, hp⟩ := h4 hl
    exact ⟨b, o, hb, hA, fun i hi => by have := (hp i hi).1; rwa [Nat.mul_one] at this⟩
  · simp only [Value.slice.injEq] at e
    obtain ⟨e1, _, rfl⟩ := e
    exact hn e1
set_option maxRecDepth 100000 in
theorem open_arg56n {H : Type} {enc : TypeId × Value → H} {W : World} {base : Nat} {v : Value} {d : DataW H} {p : List MemPlace} (hv : Value.okWide Try.prog W .any base 56 v) (h : DataW.Trod enc Try.prog W 0 (fun _ => true) true 56 v d p) (hB : ∀ q ∈ p, q.block < W.heap.size)
    (hs : (DataW.weightsEach Try.prog [56] [d]).all (· ≤ reachBytes) = true) : ∃ l : List ByteArray, IsSs W W.heap.size v l ∧ ∀ n k, v = .slice Option.none n k → k = 0 := by
  obtain ⟨a0, len, cap, rfl⟩ := okWide_slice Try.underlying56 hv
  obtain ⟨fuel, hf⟩ := h
  have hf' : DataW.trod enc Try.prog W 0 (fun _ => true) true fuel 56 [.slice a0 len cap] = some (d, p) := by simpa [Value.cells] using hf
  exact open_ss2 fuel _ _ hf' hB (weights_le hs)
set_option maxRecDepth 100000 in
theorem open_arg9 {H : Type} {enc : TypeId × Value → H} {W : World} {base : Nat} {v : Value} {d : DataW H} {p : List MemPlace} (hv : Value.okWide Try.prog W .any base 9 v) (h : DataW.Trod enc Try.prog W 0 (fun _ => true) true 9 v d p)
    (hs : (DataW.weightsEach Try.prog [9] [d]).all (· ≤ reachBytes) = true) : ∃ s : ByteArray, v = .string s ∧ s.size ≤ 140737488351232 := by
  obtain ⟨s, rfl⟩ := okWide_string Try.underlying9 hv
  obtain ⟨fuel, hf⟩ := h
  have hf' : DataW.trod enc Try.prog W 0 (fun _ => true) true fuel 9 [.string s] = some (d, p) := by simpa [Value.cells] using hf
  obtain ⟨s', e, hd, _⟩ := DataW.trod_string Try.underlying9 hf'
  simp only [List.cons.injEq, Value.string.injEq, and_true] at e
  subst e
  refine ⟨s, rfl, ?_⟩
  have h1 : d = (d, p).1 := rfl
  rw [hd] at h1
  have := weights_le hs s.data.toList.length (by rw [h1]; simp [DataW.weights])
  simpa using this
end Go.Proofs.Ytnknefdpglnbnaa
namespace Go.Proofs.Ytnknefdpglnbnaa
open Go.ChangeShapes Go.WideShapes Go.ChangeAt Go.RowKit

set_option maxRecDepth 100000 in
theorem open_arg70 {H : Type} {enc : TypeId × Value → H} {W : World} {base : Nat} {v : Value} {d : DataW H} {p : List MemPlace} (hv : Value.okWide Try.prog W .any base 70 v) (h : DataW.Trod enc Try.prog W 0 (fun _ => true) true 70 v d p)
    (hs : (DataW.weightsEach Try.prog [70] [d]).all (· ≤ reachBytes) = true) : ∃ s t : ByteArray, v = .agg #[.string s, .string t] ∧ s.size ≤ 140737488351232 ∧ t.size ≤ 140737488351232 := by
  have h70 : Try.prog.underlying 70 = some (.array 2 9) := by kernel_rfl
  have hc70 : Try.prog.cellsOf 70 = 2 := by kernel_rfl
  have hc9 : Try.prog.cellsOf 9 = 1 := by kernel_rfl
  obtain ⟨cs, rfl, hsz, _⟩ : ∃ cs, v = .agg cs ∧ cs.size = Try.prog.cellsOf 70 ∧ Row.okWide Try.prog W .any base 70 cs := by simpa [Value.okWide, h70] using hv
  rw [hc70] at hsz
  obtain ⟨l⟩ := cs
  match l, hsz with
  | [c0, c1], _ =>
  obtain ⟨fuel, hf⟩ := h
  have hf' : DataW.trod enc Try.prog W 0 (fun _ => true) true fuel 70 [c0, c1] = some (d, p) := by simpa [Value.cells] using hf
  obtain ⟨xs, m, _, hx, _, hl, he⟩ := DataW.trod_array h70 hf'
  match xs, hl with
  | [y0, y1], _ =>
  have g0 := he 0 (by omega)
  have g1 := he 1 (by omega)
  rw [hc9] at g0 g1
  have g0' : DataW.trod enc Try.prog W 0 (fun _ => true) true m 9 [c0] = some y0 := by simpa using g0
  have g1' : DataW.trod enc Try.prog W 0 (fun _ => true) true m 9 [c1] = some y1 := by simpa using g1
  obtain ⟨s, e0, hy0, _⟩ := DataW.trod_string Try.underlying9 g0'
  obtain ⟨t, e1, hy1, _⟩ := DataW.trod_string Try.underlying9 g1'
  simp only [List.cons.injEq, and_true] at e0 e1
  subst e0 e1
  subst hy0 hy1
  have hd : d = .agg [.lit (.string s.data.toList), .lit (.string t.data.toList)] := by
    have : d = (d, p).1 := rfl
    rw [this, hx]
    simp
  refine ⟨s, t, rfl, ?_, ?_⟩
  · have := weights_le hs s.data.toList.length (by rw [hd]; simp [DataW.weights, DataW.weightsAll, h70])
    simpa using this
  · have := weights_le hs t.data.toList.length (by rw [hd]; simp [DataW.weights, DataW.weightsAll, h70])
    simpa using this
end Go.Proofs.Ytnknefdpglnbnaa
