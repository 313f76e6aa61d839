/- Values and texts among the arguments, opened. (Carried over by program from the texts on code.) -/
import Derived.Test.YtkhpfghehjcfoaaDoorA
import Derived.ProofKit
import Derived.Carry
import Derived.SizedLaws
import Derived.ChangeArms
import Derived.OpenShut
namespace Go.Proofs.YtkhpfghehjcfoaaDoor
open Go.RowKit Go.ChangeShapes Go.WideShapes Go.ChangeAt


/-- A slice of n elements whose cells, at one of the places R, are so. -/
def LR {α : Type} (R : Nat → Nat → Prop) (sz : Nat) (A : Option Addr) (len cap : Nat) (l : List α) (p : Nat → Nat → Prop) : Prop :=
  len = l.length ∧ l.length ≤ cap ∧ l.length * sz ≤ 140737488351232 ∧ (l ≠ [] → ∃ b o, R b o ∧ A = some ⟨b, o, Option.none⟩ ∧ p b o)

theorem addP (b o n : Nat) : (⟨b, o, Option.none⟩ : Addr).add n = ⟨b, o + n, Option.none⟩ := by
  unfold Addr.add
  split <;> simp_all
theorem list_of {α : Type} {p : Nat → α → Prop} : ∀ n : Nat, (∀ i, i < n → ∃ x, p i x) → ∃ l : List α, l.length = n ∧ ∀ (i : Nat) (hi : i < l.length), p i l[i]
  | 0, _ => ⟨[], rfl, fun i hi => absurd hi (by simp)⟩
  | n + 1, h => by
    obtain ⟨l, hl, hp⟩ := list_of n fun i hi => h i (by omega)
    obtain ⟨x, hx⟩ := h n (by omega)
    refine ⟨l ++ [x], by simp [hl], fun i hi => ?_⟩
    by_cases hlt : i < l.length
    · rw [List.getElem_append_left hlt]; exact hp i hlt
    · have : i = n := by simp at hi; omega
      subst this
      rw [List.getElem_append_right (by omega)]
      simpa [hl] using hx
theorem wAll_mem {H : Type} {e : TypeId} : ∀ {l : List (DataW H)} {d : DataW H}, d ∈ l → ∀ n ∈ d.weights Tryd.prog e, n ∈ DataW.weightsAll Tryd.prog e l
  | x :: l, d, hd, n, hn => by
    unfold DataW.weightsAll
    rcases List.mem_cons.1 hd with rfl | h
    · exact List.mem_append_left _ hn
    · exact List.mem_append_right _ (wAll_mem h n hn)
theorem u8_wf {n : Int} (h : (Lit.int .u8 n).wf = true) : 0 ≤ n ∧ n < 256 := by
  have hb := bounds_u8 h
  omega
/-- A slice whose elements open: element by element. -/
theorem open_elems {H : Type} {enc : TypeId × Value → H} {w : World} {base B : Nat} {sp : Nat → Bool} {t e : TypeId} {sz by_ fuel : Nat} {α : Type} {p : Nat → Nat → α → Prop} (ht : Tryd.prog.underlying t = some (.slice e)) (hc : Tryd.prog.cellsOf e = sz) (hpos : 0 < sz) (hby : Tryd.prog.bytesOf e = by_)
    (ih : ∀ (n : Nat) (cs : List Value) (x : DataW H × List MemPlace), n < fuel → DataW.trod enc Tryd.prog w base sp true n e cs = some x → (∀ q ∈ x.2, q.block < B) → (∀ q ∈ x.1.weights Tryd.prog e, q ≤ 140737488351232) →
      ∃ y : α, ∀ b o, (∀ q v, cs[q]? = some v → w.cell? ⟨b, o + q, Option.none⟩ = some v) → p b o y)
    (c : Value) (x : DataW H × List MemPlace) (h : DataW.trod enc Tryd.prog w base sp true fuel t [c] = some x) (hB : ∀ q ∈ x.2, q.block < B) (hW : ∀ q ∈ x.1.weights Tryd.prog t, q ≤ 140737488351232) :
    ∃ (A : Option Addr) (len cap : Nat) (l : List α), c = .slice A len cap ∧ (A = Option.none → cap = 0) ∧ LR (fun b _ => b < B) by_ A len cap l (fun b o => ∀ (i : Nat) (hi : i < l.length), p b (o + i * sz) l[i]) := by
  rcases DataW.trod_slice ht h with ⟨e3, hx3⟩ | ⟨a, len, cap, elems, rest, n', rfl, e3, hx3, hbl, hlc, hcm, hel, hget, _, _⟩
  · simp only [List.cons.injEq, and_true] at e3
    subst e3
    exact ⟨Option.none, 0, 0, [], rfl, fun _ => rfl, rfl, Nat.le_refl _, by simp, fun h => absurd rfl h⟩
  · simp only [List.cons.injEq, and_true] at e3
    subst e3
    rw [hc] at hget hx3
    rw [hx3] at hW hB
    unfold DataW.weights at hW
    simp only [ht] at hW
    have hlen : len * by_ ≤ 140737488351232 := by
      have := hW _ (List.mem_cons_self ..)
      rw [hby] at this
      simp only [List.length_map, hel] at this
      exact Nat.le_trans (Nat.mul_le_mul_right by_ (Nat.le_add_right len rest.length)) this
    have hone : ∀ i, i < len → ∃ (cs' : List Value) (y : α), (∀ q, q < sz → w.cell? ((a.add (i * sz)).add q) = cs'[q]?) ∧ cs'.length = sz ∧ ∀ b o, (∀ q v, cs'[q]? = some v → w.cell? ⟨b, o + q, Option.none⟩ = some v) → p b o y := by
      intro i hi
      have hg := hget i hi
      have hie : i < elems.length := by omega
      rw [List.getElem?_eq_getElem hie] at hg
      obtain ⟨cs', h1, h2⟩ := Option.bind_eq_some_iff.1 hg
      obtain ⟨y, hy⟩ := ih n' cs' _ (by omega) h2 (fun q hq => hB q (List.mem_append_right _ (List.mem_flatMap.2 ⟨elems[i], List.mem_append_left _ (List.getElem_mem hie), hq⟩))) (fun q hq => hW q (List.mem_cons_of_mem _ (List.mem_append_left _ (wAll_mem (List.mem_map.2 ⟨elems[i], List.getElem_mem hie, rfl⟩) q hq))))
      obtain ⟨_, hl, hcell⟩ := World.cells?_some h1
      exact ⟨cs', y, hcell, hl, hy⟩
    by_cases h0 : len = 0
    · subst h0
      exact ⟨some a, 0, cap, [], rfl, (fun h => nomatch h), rfl, Nat.zero_le _, by simp, fun h => absurd rfl h⟩
    obtain ⟨cs0, y0, hc0, hl0, _⟩ := hone 0 (by omega)
    have hsp : a.spot = Option.none := by
      have := hc0 0 hpos
      rw [List.getElem?_eq_getElem (by omega)] at this
      simpa [Addr.add] using World.cell?_spot this
    obtain ⟨b, o, spot⟩ := a
    simp only at hsp
    subst hsp
    have hb : b < B := hB (.cell b (o + 0)) (List.mem_append_left _ (MemPlace.mem_row.2 ⟨0, by have : 0 < (elems.length + rest.length) * sz := Nat.mul_pos (by omega) hpos; exact this, rfl⟩))
    obtain ⟨l, hll, hp⟩ := list_of (p := fun i y => p b (o + i * sz) y) len (fun i hi => by
      obtain ⟨cs', y, hcell, hl, hy⟩ := hone i hi
      refine ⟨y, hy b (o + i * sz) fun q v hv => ?_⟩
      have hq : q < sz := by have := (List.getElem?_eq_some_iff.1 hv).1; omega
      rw [← hv, ← hcell q hq, addP, addP])
    exact ⟨some ⟨b, o, Option.none⟩, len, cap, l, rfl, (fun h => nomatch h), hll.symm, by omega, by rw [hll]; exact hlen, fun _ => ⟨b, o, hb, rfl, hp⟩⟩
theorem ca_2 : Tryd.prog.cellsOf 2 = 1 := by kernel_rfl
theorem ca_9 : Tryd.prog.cellsOf 9 = 1 := by kernel_rfl

theorem five_of {α : Type} {l : List α} (h : l.length = 5) : ∃ a b c d e, l = [a, b, c, d, e] := by
  match l, h with
  | [a, b, c, d, e], _ => exact ⟨a, b, c, d, e, rfl⟩
theorem ca_34 : Tryd.prog.cellsOf 26 = 5 := by kernel_rfl
theorem ca_30 : Tryd.prog.cellsOf 22 = 1 := by kernel_rfl
theorem ca_31 : Tryd.prog.cellsOf 23 = 1 := by kernel_rfl
theorem ca_32 : Tryd.prog.cellsOf 24 = 1 := by kernel_rfl
theorem bytes34 : Tryd.prog.bytesOf 26 = 64 := by kernel_rfl
theorem open_va {H : Type} {enc : TypeId × Value → H} {w : World} {base B : Nat} {sp : Nat → Bool} : ∀ (fuel : Nat) (cs : List Value) (x : DataW H × List MemPlace), DataW.trod enc Tryd.prog w base sp true fuel 26 cs = some x →
    (∀ p ∈ x.2, p.block < B) → (∀ n ∈ x.1.weights Tryd.prog 26, n ≤ 140737488351232) → ∃ (c0 c1 c2 c3 c4 : Value) (e : Va), cs = [c0, c1, c2, c3, c4] ∧ IsVaR w (fun b _ => b < B) (.agg #[c0, c1, c2, c3, c4]) e := by
  intro fuel
  induction fuel using Nat.strongRecOn with
  | _ fuel ih =>
    intro cs x h hB hW
    obtain ⟨xs, n, rfl, rfl, hlen, hxl, hf⟩ := DataW.trod_struct Tryd.underlying26 h
    rw [ca_34] at hlen
    obtain ⟨c0, c1, c2, c3, c4, rfl⟩ := five_of hlen
    obtain ⟨x0, x1, x2, x3, x4, rfl⟩ := five_of hxl
    have f0 : DataW.trod enc Tryd.prog w base sp true n 22 (List.take (Tryd.prog.cellsOf 22) (List.drop 0 [c0, c1, c2, c3, c4])) = some x0 := hf 0 _ rfl
    rw [ca_30] at f0
    have f1 : DataW.trod enc Tryd.prog w base sp true n 2 (List.take (Tryd.prog.cellsOf 2) (List.drop 1 [c0, c1, c2, c3, c4])) = some x1 := hf 1 _ rfl
    rw [ca_2] at f1
    have f2 : DataW.trod enc Tryd.prog w base sp true n 9 (List.take (Tryd.prog.cellsOf 9) (List.drop 2 [c0, c1, c2, c3, c4])) = some x2 := hf 2 _ rfl
    rw [ca_9] at f2
    have f3 : DataW.trod enc Tryd.prog w base sp true n 23 (List.take (Tryd.prog.cellsOf 23) (List.drop 3 [c0, c1, c2, c3, c4])) = some x3 := hf 3 _ rfl
    rw [ca_31] at f3
    have f4 : DataW.trod enc Tryd.prog w base sp true n 24 (List.take (Tryd.prog.cellsOf 24) (List.drop 4 [c0, c1, c2, c3, c4])) = some x4 := hf 4 _ rfl
    rw [ca_32] at f4
    simp only [List.drop_zero, List.take_succ_cons, List.take_zero, List.drop_succ_cons] at f0 f1 f2 f3 f4
    obtain ⟨k, e0, _, hk⟩ := DataW.trod_int Tryd.underlying22 f0
    obtain ⟨m, e1, _, _⟩ := DataW.trod_int Tryd.underlying2 f1
    obtain ⟨s, e2, hx2, _⟩ := DataW.trod_string Tryd.underlying9 f2
    obtain ⟨r, e4, _, _⟩ := DataW.trod_int Tryd.underlying24 f4
    simp only [List.cons.injEq, and_true] at e0 e1 e2 e4
    subst e0 e1 e2 e4
    have hs : s.size ≤ 140737488351232 := by
      have : s.data.toList.length ∈ (DataW.agg ([x0, x1, x2, x3, x4].map (·.1))).weights Tryd.prog 26 := by
        unfold DataW.weights
        simp [Tryd.underlying26, hx2, DataW.weightsEach, DataW.weights]
      simpa using hW _ this
    have hk' := u8_wf hk
    obtain ⟨A, len, cap, l, rfl, _, g1, g2, g3, g4⟩ := open_elems (p := fun b o (y : Va) => ∃ c0 c1 c2 c3 c4, At w b o [c0, c1, c2, c3, c4] ∧ IsVaR w (fun b _ => b < B) (.agg #[c0, c1, c2, c3, c4]) y) Tryd.underlying23 ca_34 (by omega) bytes34 (fun n' cs' x' hn hx hxB hxW => by
      obtain ⟨d0, d1, d2, d3, d4, e, rfl, hE⟩ := ih n' (by omega) cs' x' hx hxB hxW
      exact ⟨e, fun b o hcell => ⟨d0, d1, d2, d3, d4, hcell, hE⟩⟩) c3 x3 f3 (fun q hq => hB q (by simp [hq])) (fun q hq => hW q (by
        unfold DataW.weights
        simp [Tryd.underlying26, DataW.weightsEach, hq]))
    refine ⟨_, _, _, _, _, .mk k m s l r, rfl, ?_⟩
    unfold IsVaR
    exact ⟨hk'.1, hk'.2, hs, g3, A, cap, g2, by rw [g1], fun hl => by obtain ⟨b, o, hb, hA, hp⟩ := g4 hl; exact ⟨b, o, hb, hA, IsVasR.of hp⟩⟩
set_option maxRecDepth 100000 in
theorem weights_le {t : TypeId} {H : Type} {d : DataW H} (hs : (DataW.weightsEach Tryd.prog [t] [d]).all (· ≤ reachBytes) = true) : ∀ q ∈ d.weights Tryd.prog t, q ≤ 140737488351232 := fun q hq => by
  have hr : reachBytes = 140737488351232 := by decide
  have h1 : q ∈ DataW.weightsEach Tryd.prog [t] [d] := by simpa [DataW.weightsEach] using hq
  have := List.all_eq_true.1 hs q h1
  rw [hr] at this
  simpa using this
set_option maxRecDepth 100000 in
theorem open_arg26 {H : Type} {enc : TypeId × Value → H} {W : World} {base : Nat} {v : Value} {d : DataW H} {p : List MemPlace} (hv : Value.okWide Tryd.prog W .any base 26 v) (h : DataW.Trod enc Tryd.prog W 0 (fun _ => true) true 26 v d p) (hB : ∀ q ∈ p, q.block < W.heap.size)
    (hs : (DataW.weightsEach Tryd.prog [26] [d]).all (· ≤ reachBytes) = true) : ∃ x : Va, IsVa W W.heap.size v x := by
  obtain ⟨cs, rfl, _⟩ := okWide_struct Tryd.underlying26 hv
  obtain ⟨fuel, hf⟩ := h
  have hf' : DataW.trod enc Tryd.prog W 0 (fun _ => true) true fuel 26 cs.toList = some (d, p) := by simpa [Value.cells] using hf
  obtain ⟨c0, c1, c2, c3, c4, x, hc, hx⟩ := open_va fuel _ _ hf' hB (weights_le hs)
  have : cs = #[c0, c1, c2, c3, c4] := by rw [← Array.toArray_toList (xs := cs), hc]
  rw [this]
  exact ⟨x, hx⟩
set_option maxRecDepth 100000 in
theorem open_arg9 {H : Type} {enc : TypeId × Value → H} {W : World} {base : Nat} {v : Value} {d : DataW H} {p : List MemPlace} (hv : Value.okWide Tryd.prog W .any base 9 v) (h : DataW.Trod enc Tryd.prog W 0 (fun _ => true) true 9 v d p)
    (hs : (DataW.weightsEach Tryd.prog [9] [d]).all (· ≤ reachBytes) = true) : ∃ s : ByteArray, v = .string s ∧ s.size ≤ 140737488351232 := by
  obtain ⟨s, rfl⟩ := okWide_string Tryd.underlying9 hv
  obtain ⟨fuel, hf⟩ := h
  have hf' : DataW.trod enc Tryd.prog W 0 (fun _ => true) true fuel 9 [.string s] = some (d, p) := by simpa [Value.cells] using hf
  obtain ⟨s', e, hd, _⟩ := DataW.trod_string Tryd.underlying9 hf'
  simp only [List.cons.injEq, Value.string.injEq, and_true] at e
  subst e
  refine ⟨s, rfl, ?_⟩
  have h1 : d = (d, p).1 := rfl
  rw [hd] at h1
  have := weights_le hs s.data.toList.length (by rw [h1]; simp [DataW.weights])
  simpa using this
theorem ca_56 : Tryd.prog.cellsOf 56 = 5 := by kernel_rfl
theorem bytes56 : Tryd.prog.bytesOf 56 = 48 := by kernel_rfl
end Go.Proofs.YtkhpfghehjcfoaaDoor
