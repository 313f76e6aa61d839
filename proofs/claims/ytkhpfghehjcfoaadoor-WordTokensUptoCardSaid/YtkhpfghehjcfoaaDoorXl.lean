/- Values and lists of values among the arguments, opened, with the bounds of their numbers. -/
import Derived.Test.YtkhpfghehjcfoaaDoorXi
import Derived.Test.YtkhpfghehjcfoaaDoorL
namespace Go.Proofs.YtkhpfghehjcfoaaDoor
open Go.RowKit Go.ChangeShapes Go.WideShapes Go.ChangeAt

theorem fits_of : ∀ {l : List Va}, (∀ x ∈ l, Fit x) → Fits l
  | [], _ => by unfold Fits; trivial
  | x :: l, h => by unfold Fits; exact ⟨h x (by simp), fits_of fun y hy => h y (List.mem_cons_of_mem _ hy)⟩
theorem open_vaF {H : Type} {enc : TypeId × Value → H} {w : World} {base B : Nat} {sp : Nat → Bool} : ∀ (fuel : Nat) (cs : List Value) (x : DataW H × List MemPlace), DataW.trod enc Tryd.prog w base sp true fuel 26 cs = some x →
    (∀ p ∈ x.2, p.block < B) → (∀ n ∈ x.1.weights Tryd.prog 26, n ≤ 140737488351232) → ∃ (c0 c1 c2 c3 c4 : Value) (e : Va), cs = [c0, c1, c2, c3, c4] ∧ IsVaR w (fun b _ => b < B) (.agg #[c0, c1, c2, c3, c4]) e ∧ Fit e := by
  intro fuel
  induction fuel using Nat.strongRecOn with
  | _ fuel ih =>
    intro cs x h hB hW
    obtain ⟨xs, n, rfl, rfl, hlen, hxl, hf⟩ := DataW.trod_struct Tryd.underlying26 h
    rw [ca_34] at hlen
    obtain ⟨c0, c1, c2, c3, c4, rfl⟩ := five_of hlen
    obtain ⟨x0, x1, x2, x3, x4, rfl⟩ := five_of hxl
    have f0 : DataW.trod enc Tryd.prog w base sp true n 22 (List.take (Tryd.prog.cellsOf 22) (List.drop 0 [c0, c1, c2, c3, c4])) = some x0 := hf 0 _ rfl
    rw [ca_30] at f0
    have f1 : DataW.trod enc Tryd.prog w base sp true n 2 (List.take (Tryd.prog.cellsOf 2) (List.drop 1 [c0, c1, c2, c3, c4])) = some x1 := hf 1 _ rfl
    rw [ca_2] at f1
    have f2 : DataW.trod enc Tryd.prog w base sp true n 9 (List.take (Tryd.prog.cellsOf 9) (List.drop 2 [c0, c1, c2, c3, c4])) = some x2 := hf 2 _ rfl
    rw [ca_9] at f2
    have f3 : DataW.trod enc Tryd.prog w base sp true n 23 (List.take (Tryd.prog.cellsOf 23) (List.drop 3 [c0, c1, c2, c3, c4])) = some x3 := hf 3 _ rfl
    rw [ca_31] at f3
    have f4 : DataW.trod enc Tryd.prog w base sp true n 24 (List.take (Tryd.prog.cellsOf 24) (List.drop 4 [c0, c1, c2, c3, c4])) = some x4 := hf 4 _ rfl
    rw [ca_32] at f4
    simp only [List.drop_zero, List.take_succ_cons, List.take_zero, List.drop_succ_cons] at f0 f1 f2 f3 f4
    obtain ⟨k, e0, _, hk⟩ := DataW.trod_int Tryd.underlying22 f0
    obtain ⟨m, e1, _, hm⟩ := DataW.trod_int Tryd.underlying2 f1
    obtain ⟨s, e2, hx2, _⟩ := DataW.trod_string Tryd.underlying9 f2
    obtain ⟨r, e4, _, hr⟩ := DataW.trod_int Tryd.underlying24 f4
    simp only [List.cons.injEq, and_true] at e0 e1 e2 e4
    subst e0 e1 e2 e4
    have hs : s.size ≤ 140737488351232 := by
      have : s.data.toList.length ∈ (DataW.agg ([x0, x1, x2, x3, x4].map (·.1))).weights Tryd.prog 26 := by
        unfold DataW.weights
        simp [Tryd.underlying26, hx2, DataW.weightsEach, DataW.weights]
      simpa using hW _ this
    have hk' := u8_wf hk
    obtain ⟨A, len, cap, l, rfl, _, g1, g2, g3, g4⟩ := open_elems (p := fun b o (y : Va) => (∃ c0 c1 c2 c3 c4, At w b o [c0, c1, c2, c3, c4] ∧ IsVaR w (fun b _ => b < B) (.agg #[c0, c1, c2, c3, c4]) y) ∧ Fit y) Tryd.underlying23 ca_34 (by omega) bytes34 (fun n' cs' x' hn hx hxB hxW => by
      obtain ⟨d0, d1, d2, d3, d4, e, rfl, hE, hF⟩ := ih n' (by omega) cs' x' hx hxB hxW
      exact ⟨e, fun b o hcell => ⟨⟨d0, d1, d2, d3, d4, hcell, hE⟩, hF⟩⟩) c3 x3 f3 (fun q hq => hB q (by simp [hq])) (fun q hq => hW q (by
        unfold DataW.weights
        simp [Tryd.underlying26, DataW.weightsEach, hq]))
    refine ⟨_, _, _, _, _, .mk k m s l r, rfl, ?_, ?_⟩
    · unfold IsVaR
      exact ⟨hk'.1, hk'.2, hs, g3, A, cap, g2, by rw [g1], fun hl => by obtain ⟨b, o, hb, hA, hp⟩ := g4 hl; exact ⟨b, o, hb, hA, IsVasR.of fun i hi => (hp i hi).1⟩⟩
    · unfold Fit
      refine ⟨i64_wf hm, i64_wf hr, fits_of fun x hx => ?_⟩
      obtain ⟨i, hi, rfl⟩ := List.getElem_of_mem hx
      obtain ⟨b, o, hb, hA, hp⟩ := g4 (by rintro rfl; simp at hi)
      exact (hp i hi).2

set_option maxRecDepth 100000 in
theorem open_arg26F {H : Type} {enc : TypeId × Value → H} {W : World} {base : Nat} {v : Value} {d : DataW H} {p : List MemPlace} (hv : Value.okWide Tryd.prog W .any base 26 v) (h : DataW.Trod enc Tryd.prog W 0 (fun _ => true) true 26 v d p) (hB : ∀ q ∈ p, q.block < W.heap.size)
    (hs : (DataW.weightsEach Tryd.prog [26] [d]).all (· ≤ reachBytes) = true) : ∃ x : Va, IsVa W W.heap.size v x ∧ Fit x := by
  obtain ⟨cs, rfl, _⟩ := okWide_struct Tryd.underlying26 hv
  obtain ⟨fuel, hf⟩ := h
  have hf' : DataW.trod enc Tryd.prog W 0 (fun _ => true) true fuel 26 cs.toList = some (d, p) := by simpa [Value.cells] using hf
  obtain ⟨c0, c1, c2, c3, c4, x, hc, hx⟩ := open_vaF fuel _ _ hf' hB (weights_le hs)
  have : cs = #[c0, c1, c2, c3, c4] := by rw [← Array.toArray_toList (xs := cs), hc]
  rw [this]
  exact ⟨x, hx⟩
/-- v reads as these values; all lists in blocks below B. -/
def IsVl (w : World) (B : Nat) (v : Value) (l : List Va) : Prop := l.length * 64 ≤ 140737488351232 ∧ ∃ A cap, l.length ≤ cap ∧ v = .slice A l.length cap ∧ (l ≠ [] → ∃ b o, b < B ∧ A = some ⟨b, o, Option.none⟩ ∧ IsVas w B b o l)
theorem IsVl.keep {w w' : World} {B : Nat} {v : Value} {l : List Va} (h : IsVl w B v l) (hk : ∀ b, b < B → w'.heap[b]? = w.heap[b]?) : IsVl w' B v l := by
  obtain ⟨h1, A, cap, h2, h3, h4⟩ := h
  exact ⟨h1, A, cap, h2, h3, fun hl => let ⟨b, o, hb, hA, hx⟩ := h4 hl; ⟨b, o, hb, hA, IsVas.keep hk hb hx⟩⟩
set_option maxRecDepth 100000 in
theorem open_arg23 {H : Type} {enc : TypeId × Value → H} {W : World} {base : Nat} {v : Value} {d : DataW H} {p : List MemPlace} (hv : Value.okWide Tryd.prog W .any base 23 v) (h : DataW.Trod enc Tryd.prog W 0 (fun _ => true) true 23 v d p) (hB : ∀ q ∈ p, q.block < W.heap.size)
    (hs : (DataW.weightsEach Tryd.prog [23] [d]).all (· ≤ reachBytes) = true) : ∃ l : List Va, IsVl W W.heap.size v l ∧ Fits l := by
  obtain ⟨a0, len, cap, rfl⟩ := okWide_slice Tryd.underlying23 hv
  obtain ⟨fuel, hf⟩ := h
  have hf' : DataW.trod enc Tryd.prog W 0 (fun _ => true) true fuel 23 [.slice a0 len cap] = some (d, p) := by simpa [Value.cells] using hf
  obtain ⟨A, len', cap', l, he, hn, g1, g2, g3, g4⟩ := open_elems (p := fun b o (y : Va) => (∃ c0 c1 c2 c3 c4, At W b o [c0, c1, c2, c3, c4] ∧ IsVaR W (fun b _ => b < W.heap.size) (.agg #[c0, c1, c2, c3, c4]) y) ∧ Fit y) Tryd.underlying23 ca_34 (by omega) bytes34 (fun n' cs' x' hn hx hxB hxW => by
      obtain ⟨d0, d1, d2, d3, d4, e, rfl, hE, hF⟩ := open_vaF n' cs' x' hx hxB hxW
      exact ⟨e, fun b o hcell => ⟨⟨d0, d1, d2, d3, d4, hcell, hE⟩, hF⟩⟩) _ _ hf' hB (weights_le hs)
  simp only [Value.slice.injEq] at he
  obtain ⟨rfl, rfl, rfl⟩ := he
  refine ⟨l, ⟨g3, a0, cap, g2, by rw [g1], fun hl => ?_⟩, fits_of fun x hx => ?_⟩
  · obtain ⟨b, o, hb, hA, hp⟩ := g4 hl
    exact ⟨b, o, hb, hA, IsVasR.of fun i hi => (hp i hi).1⟩
  · obtain ⟨i, hi, rfl⟩ := List.getElem_of_mem hx
    obtain ⟨b, o, hb, hA, hp⟩ := g4 (by rintro rfl; simp at hi)
    exact (hp i hi).2
end Go.Proofs.YtkhpfghehjcfoaaDoor
