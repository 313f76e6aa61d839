/- Values and texts among the arguments, opened. (Carried over by program from the texts on code.) Tokens among the arguments, opened. Values and lists of values among the arguments, opened, with the bounds of their numbers. -/
import Derived.Test.YtjmelamllapmiaaGreatDoorA
import Derived.ProofKit
import Derived.Carry
import Derived.SizedLaws
import Derived.ChangeArms
import Derived.OpenShut
import Derived.Test.YtjmelamllapmiaaGreatDoorRa
import Derived.Test.YtjmelamllapmiaaGreatDoorL
namespace Go.Proofs.YtjmelamllapmiaaGreatDoor
open Go.RowKit Go.ChangeShapes Go.WideShapes Go.ChangeAt


/-- A slice of n elements whose cells, at one of the places R, are so. -/
def LR {α : Type} (R : Nat → Nat → Prop) (sz : Nat) (A : Option Addr) (len cap : Nat) (l : List α) (p : Nat → Nat → Prop) : Prop :=
  len = l.length ∧ l.length ≤ cap ∧ l.length * sz ≤ 140737488351232 ∧ (l ≠ [] → ∃ b o, R b o ∧ A = some ⟨b, o, Option.none⟩ ∧ p b o)

theorem addP (b o n : Nat) : (⟨b, o, Option.none⟩ : Addr).add n = ⟨b, o + n, Option.none⟩ := by
  unfold Addr.add
  split <;> simp_all
theorem list_of {α : Type} {p : Nat → α → Prop} : ∀ n : Nat, (∀ i, i < n → ∃ x, p i x) → ∃ l : List α, l.length = n ∧ ∀ (i : Nat) (hi : i < l.length), p i l[i]
  | 0, _ => ⟨[], rfl, fun i hi => absurd hi (by simp)⟩
  | n + 1, h => by
    obtain ⟨l, hl, hp⟩ := list_of n fun i hi => h i (by omega)
    obtain ⟨x, hx⟩ := h n (by omega)
    refine ⟨l ++ [x], by simp [hl], fun i hi => ?_⟩
    by_cases hlt : i < l.length
    · rw [List.getElem_append_left hlt]; exact hp i hlt
    · have : i = n := by simp at hi; omega
      subst this
      rw [List.getElem_append_right (by omega)]
      simpa [hl] using hx
theorem wAll_mem {H : Type} {e : TypeId} : ∀ {l : List (DataW H)} {d : DataW H}, d ∈ l → ∀ n ∈ d.weights Tryz.prog e, n ∈ DataW.weightsAll Tryz.prog e l
  | x :: l, d, hd, n, hn => by
    unfold DataW.weightsAll
    rcases List.mem_cons.1 hd with rfl | h
    · exact List.mem_append_left _ hn
    · exact List.mem_append_right _ (wAll_mem h n hn)
theorem u8_wf {n : Int} (h : (Lit.int .u8 n).wf = true) : 0 ≤ n ∧ n < 256 := by
  have hb := bounds_u8 h
  omega
/-- A slice whose elements open: element by element. -/
theorem open_elems {H : Type} {enc : TypeId × Value → H} {w : World} {base B : Nat} {sp : Nat → Bool} {t e : TypeId} {sz by_ fuel : Nat} {α : Type} {p : Nat → Nat → α → Prop} (ht : Tryz.prog.underlying t = some (.slice e)) (hc : Tryz.prog.cellsOf e = sz) (hpos : 0 < sz) (hby : Tryz.prog.bytesOf e = by_)
    (ih : ∀ (n : Nat) (cs : List Value) (x : DataW H × List MemPlace), n < fuel → DataW.trod enc Tryz.prog w base sp true n e cs = some x → (∀ q ∈ x.2, q.block < B) → (∀ q ∈ x.1.weights Tryz.prog e, q ≤ 140737488351232) →
      ∃ y : α, ∀ b o, (∀ q v, cs[q]? = some v → w.cell? ⟨b, o + q, Option.none⟩ = some v) → p b o y)
    (c : Value) (x : DataW H × List MemPlace) (h : DataW.trod enc Tryz.prog w base sp true fuel t [c] = some x) (hB : ∀ q ∈ x.2, q.block < B) (hW : ∀ q ∈ x.1.weights Tryz.prog t, q ≤ 140737488351232) :
    ∃ (A : Option Addr) (len cap : Nat) (l : List α), c = .slice A len cap ∧ (A = Option.none → cap = 0) ∧ LR (fun b _ => b < B) by_ A len cap l (fun b o => ∀ (i : Nat) (hi : i < l.length), p b (o + i * sz) l[i]) := by
  rcases DataW.trod_slice ht h with ⟨e3, hx3⟩ | ⟨a, len, cap, elems, rest, n', rfl, e3, hx3, hbl, hlc, hcm, hel, hget, _, _⟩
  · simp only [List.cons.injEq, and_true] at e3
    subst e3
    exact ⟨Option.none, 0, 0, [], rfl, fun _ => rfl, rfl, Nat.le_refl _, by simp, fun h => absurd rfl h⟩
  · simp only [List.cons.injEq, and_true] at e3
    subst e3
    rw [hc] at hget hx3
    rw [hx3] at hW hB
    unfold DataW.weights at hW
    simp only [ht] at hW
    have hlen : len * by_ ≤ 140737488351232 := by
      have := hW _ (List.mem_cons_self ..)
      rw [hby] at this
      simp only [List.length_map, hel] at this
      exact Nat.le_trans (Nat.mul_le_mul_right by_ (Nat.le_add_right len rest.length)) this
    have hone : ∀ i, i < len → ∃ (cs' : List Value) (y : α), (∀ q, q < sz → w.cell? ((a.add (i * sz)).add q) = cs'[q]?) ∧ cs'.length = sz ∧ ∀ b o, (∀ q v, cs'[q]? = some v → w.cell? ⟨b, o + q, Option.none⟩ = some v) → p b o y := by
      intro i hi
      have hg := hget i hi
      have hie : i < elems.length := by omega
      rw [List.getElem?_eq_getElem hie] at hg
      obtain ⟨cs', h1, h2⟩ := Option.bind_eq_some_iff.1 hg
      obtain ⟨y, hy⟩ := ih n' cs' _ (by omega) h2 (fun q hq => hB q (List.mem_append_right _ (List.mem_flatMap.2 ⟨elems[i], List.mem_append_left _ (List.getElem_mem hie), hq⟩))) (fun q hq => hW q (List.mem_cons_of_mem _ (List.mem_append_left _ (wAll_mem (List.mem_map.2 ⟨elems[i], List.getElem_mem hie, rfl⟩) q hq))))
      obtain ⟨_, hl, hcell⟩ := World.cells?_some h1
      exact ⟨cs', y, hcell, hl, hy⟩
    by_cases h0 : len = 0
    · subst h0
      exact ⟨some a, 0, cap, [], rfl, (fun h => nomatch h), rfl, Nat.zero_le _, by simp, fun h => absurd rfl h⟩
    obtain ⟨cs0, y0, hc0, hl0, _⟩ := hone 0 (by omega)
    have hsp : a.spot = Option.none := by
      have := hc0 0 hpos
      rw [List.getElem?_eq_getElem (by omega)] at this
      simpa [Addr.add] using World.cell?_spot this
    obtain ⟨b, o, spot⟩ := a
    simp only at hsp
    subst hsp
    have hb : b < B := hB (.cell b (o + 0)) (List.mem_append_left _ (MemPlace.mem_row.2 ⟨0, by have : 0 < (elems.length + rest.length) * sz := Nat.mul_pos (by omega) hpos; exact this, rfl⟩))
    obtain ⟨l, hll, hp⟩ := list_of (p := fun i y => p b (o + i * sz) y) len (fun i hi => by
      obtain ⟨cs', y, hcell, hl, hy⟩ := hone i hi
      refine ⟨y, hy b (o + i * sz) fun q v hv => ?_⟩
      have hq : q < sz := by have := (List.getElem?_eq_some_iff.1 hv).1; omega
      rw [← hv, ← hcell q hq, addP, addP])
    exact ⟨some ⟨b, o, Option.none⟩, len, cap, l, rfl, (fun h => nomatch h), hll.symm, by omega, by rw [hll]; exact hlen, fun _ => ⟨b, o, hb, rfl, hp⟩⟩
theorem ca_2 : Tryz.prog.cellsOf 2 = 1 := by kernel_rfl
theorem ca_9 : Tryz.prog.cellsOf 9 = 1 := by kernel_rfl

theorem five_of {α : Type} {l : List α} (h : l.length = 5) : ∃ a b c d e, l = [a, b, c, d, e] := by
  match l, h with
  | [a, b, c, d, e], _ => exact ⟨a, b, c, d, e, rfl⟩
theorem ca_34 : Tryz.prog.cellsOf 27 = 5 := by kernel_rfl
theorem ca_30 : Tryz.prog.cellsOf 23 = 1 := by kernel_rfl
theorem ca_31 : Tryz.prog.cellsOf 24 = 1 := by kernel_rfl
theorem ca_32 : Tryz.prog.cellsOf 25 = 1 := by kernel_rfl
theorem bytes34 : Tryz.prog.bytesOf 27 = 64 := by kernel_rfl
theorem open_va {H : Type} {enc : TypeId × Value → H} {w : World} {base B : Nat} {sp : Nat → Bool} : ∀ (fuel : Nat) (cs : List Value) (x : DataW H × List MemPlace), DataW.trod enc Tryz.prog w base sp true fuel 27 cs = some x →
    (∀ p ∈ x.2, p.block < B) → (∀ n ∈ x.1.weights Tryz.prog 27, n ≤ 140737488351232) → ∃ (c0 c1 c2 c3 c4 : Value) (e : Va), cs = [c0, c1, c2, c3, c4] ∧ IsVaR w (fun b _ => b < B) (.agg #[c0, c1, c2, c3, c4]) e := by
  intro fuel
  induction fuel using Nat.strongRecOn with
  | _ fuel ih =>
    intro cs x h hB hW
    obtain ⟨xs, n, rfl, rfl, hlen, hxl, hf⟩ := DataW.trod_struct Tryz.underlying27 h
    rw [ca_34] at hlen
    obtain ⟨c0, c1, c2, c3, c4, rfl⟩ := five_of hlen
    obtain ⟨x0, x1, x2, x3, x4, rfl⟩ := five_of hxl
    have f0 : DataW.trod enc Tryz.prog w base sp true n 23 (List.take (Tryz.prog.cellsOf 23) (List.drop 0 [c0, c1, c2, c3, c4])) = some x0 := hf 0 _ rfl
    rw [ca_30] at f0
    have f1 : DataW.trod enc Tryz.prog w base sp true n 2 (List.take (Tryz.prog.cellsOf 2) (List.drop 1 [c0, c1, c2, c3, c4])) = some x1 := hf 1 _ rfl
    rw [ca_2] at f1
    have f2 : DataW.trod enc Tryz.prog w base sp true n 9 (List.take (Tryz.prog.cellsOf 9) (List.drop 2 [c0, c1, c2, c3, c4])) = some x2 := hf 2 _ rfl
    rw [ca_9] at f2
    have f3 : DataW.trod enc Tryz.prog w base sp true n 24 (List.take (Tryz.prog.cellsOf 24) (List.drop 3 [c0, c1, c2, c3, c4])) = some x3 := hf 3 _ rfl
    rw [ca_31] at f3
    have f4 : DataW.trod enc Tryz.prog w base sp true n 25 (List.take (Tryz.prog.cellsOf 25) (List.drop 4 [c0, c1, c2, c3, c4])) = some x4 := hf 4 _ rfl
    rw [ca_32] at f4
    simp only [List.drop_zero, List.take_succ_cons, List.take_zero, List.drop_succ_cons] at f0 f1 f2 f3 f4
    obtain ⟨k, e0, _, hk⟩ := DataW.trod_int Tryz.underlying23 f0
    obtain ⟨m, e1, _, _⟩ := DataW.trod_int Tryz.underlying2 f1
    obtain ⟨s, e2, hx2, _⟩ := DataW.trod_string Tryz.underlying9 f2
    obtain ⟨r, e4, _, _⟩ := DataW.trod_int Tryz.underlying25 f4
    simp only [List.cons.injEq, and_true] at e0 e1 e2 e4
    subst e0 e1 e2 e4
    have hs : s.size ≤ 140737488351232 := by
      have : s.data.toList.length ∈ (DataW.agg ([x0, x1, x2, x3, x4].map (·.1))).weights Tryz.prog 27 := by
        unfold DataW.weights
        simp [Tryz.underlying27, hx2, DataW.weightsEach, DataW.weights]
      simpa using hW _ this
    have hk' := u8_wf hk
    obtain ⟨A, len, cap, l, rfl, _, g1, g2, g3, g4⟩ := open_elems (p := fun b o (y : Va) => ∃ c0 c1 c2 c3 c4, At w b o [c0, c1, c2, c3, c4] ∧ IsVaR w (fun b _ => b < B) (.agg #[c0, c1, c2, c3, c4]) y) Tryz.underlying24 ca_34 (by omega) bytes34 (fun n' cs' x' hn hx hxB hxW => by
      obtain ⟨d0, d1, d2, d3, d4, e, rfl, hE⟩ := ih n' (by omega) cs' x' hx hxB hxW
      exact ⟨e, fun b o hcell => ⟨d0, d1, d2, d3, d4, hcell, hE⟩⟩) c3 x3 f3 (fun q hq => hB q (by simp [hq])) (fun q hq => hW q (by
        unfold DataW.weights
        simp [Tryz.underlying27, DataW.weightsEach, hq]))
    refine ⟨_, _, _, _, _, .mk k m s l r, rfl, ?_⟩
    unfold IsVaR
    exact ⟨hk'.1, hk'.2, hs, g3, A, cap, g2, by rw [g1], fun hl => by obtain ⟨b, o, hb, hA, hp⟩ := g4 hl; exact ⟨b, o, hb, hA, IsVasR.of hp⟩⟩
set_option maxRecDepth 100000 in
theorem weights_le {t : TypeId} {H : Type} {d : DataW H} (hs : (DataW.weightsEach Tryz.prog [t] [d]).all (· ≤ reachBytes) = true) : ∀ q ∈ d.weights Tryz.prog t, q ≤ 140737488351232 := fun q hq => by
  have hr : reachBytes = 140737488351232 := by decide
  have h1 : q ∈ DataW.weightsEach Tryz.prog [t] [d] := by simpa [DataW.weightsEach] using hq
  have := List.all_eq_true.1 hs q h1
  rw [hr] at this
  simpa using this
set_option maxRecDepth 100000 in
theorem open_arg26 {H : Type} {enc : TypeId × Value → H} {W : World} {base : Nat} {v : Value} {d : DataW H} {p : List MemPlace} (hv : Value.okWide Tryz.prog W .any base 27 v) (h : DataW.Trod enc Tryz.prog W 0 (fun _ => true) true 27 v d p) (hB : ∀ q ∈ p, q.block < W.heap.size)
    (hs : (DataW.weightsEach Tryz.prog [27] [d]).all (· ≤ reachBytes) = true) : ∃ x : Va, IsVa W W.heap.size v x := by
  obtain ⟨cs, rfl, _⟩ := okWide_struct Tryz.underlying27 hv
  obtain ⟨fuel, hf⟩ := h
  have hf' : DataW.trod enc Tryz.prog W 0 (fun _ => true) true fuel 27 cs.toList = some (d, p) := by simpa [Value.cells] using hf
  obtain ⟨c0, c1, c2, c3, c4, x, hc, hx⟩ := open_va fuel _ _ hf' hB (weights_le hs)
  have : cs = #[c0, c1, c2, c3, c4] := by rw [← Array.toArray_toList (xs := cs), hc]
  rw [this]
  exact ⟨x, hx⟩
set_option maxRecDepth 100000 in
theorem open_arg9 {H : Type} {enc : TypeId × Value → H} {W : World} {base : Nat} {v : Value} {d : DataW H} {p : List MemPlace} (hv : Value.okWide Tryz.prog W .any base 9 v) (h : DataW.Trod enc Tryz.prog W 0 (fun _ => true) true 9 v d p)
    (hs : (DataW.weightsEach Tryz.prog [9] [d]).all (· ≤ reachBytes) = true) : ∃ s : ByteArray, v = .string s ∧ s.size ≤ 140737488351232 := by
  obtain ⟨s, rfl⟩ := okWide_string Tryz.underlying9 hv
  obtain ⟨fuel, hf⟩ := h
  have hf' : DataW.trod enc Tryz.prog W 0 (fun _ => true) true fuel 9 [.string s] = some (d, p) := by simpa [Value.cells] using hf
  obtain ⟨s', e, hd, _⟩ := DataW.trod_string Tryz.underlying9 hf'
  simp only [List.cons.injEq, Value.string.injEq, and_true] at e
  subst e
  refine ⟨s, rfl, ?_⟩
  have h1 : d = (d, p).1 := rfl
  rw [hd] at h1
  have := weights_le hs s.data.toList.length (by rw [h1]; simp [DataW.weights])
  simpa using this
theorem ca_56 : Tryz.prog.cellsOf 58 = 5 := by kernel_rfl
theorem bytes56 : Tryz.prog.bytesOf 58 = 48 := by kernel_rfl
end Go.Proofs.YtjmelamllapmiaaGreatDoor
namespace Go.Proofs.YtjmelamllapmiaaGreatDoor
open Go.RowKit Go.ChangeShapes Go.WideShapes Go.ChangeAt

theorem bulk_mem {H : Type} : ∀ {l : List (DataW H)} {d : DataW H}, d ∈ l → Rows.uptoBulk d ≤ Rows.uptoBulkAll l
  | x :: l, d, h => by
    simp only [Rows.uptoBulkAll]
    rcases List.mem_cons.1 h with rfl | h
    · omega
    · have := bulk_mem h; omega
theorem bulk_pos {H : Type} (d : DataW H) : 1 ≤ Rows.uptoBulk d := by
  cases d with
  | lit l => cases l <;> simp [Rows.uptoBulk]
  | _ => simp [Rows.uptoBulk]
theorem bulk_len {H : Type} : ∀ (l : List (DataW H)), l.length ≤ Rows.uptoBulkAll l
  | [] => by simp [Rows.uptoBulkAll]
  | x :: l => by
    simp only [Rows.uptoBulkAll, List.length_cons]
    have := bulk_len l
    have := bulk_pos x
    omega
theorem bulk_slice {H : Type} (K : Nat) (es rs : List (DataW H)) (h : Rows.uptoBulk (.slice es rs) ≤ K) (e : DataW H) (he : e ∈ es) : Rows.uptoBulk e ≤ K := by
  simp only [Rows.uptoBulk] at h
  have := bulk_mem he
  omega
/-- A slice whose elements open: element by element. -/
theorem open_elemsQ {H : Type} {enc : TypeId × Value → H} {w : World} {base B : Nat} {sp : Nat → Bool} {t e : TypeId} {sz by_ fuel : Nat} {α : Type} {p : Nat → Nat → α → Prop} {Q : DataW H → Prop} (hQs : ∀ es rs, Q (.slice es rs) → ∀ e ∈ es, Q e) (ht : Tryz.prog.underlying t = some (.slice e)) (hc : Tryz.prog.cellsOf e = sz) (hpos : 0 < sz) (hby : Tryz.prog.bytesOf e = by_)
    (ih : ∀ (n : Nat) (cs : List Value) (x : DataW H × List MemPlace), n < fuel → DataW.trod enc Tryz.prog w base sp true n e cs = some x → (∀ q ∈ x.2, q.block < B) → (∀ q ∈ x.1.weights Tryz.prog e, q ≤ 140737488351232) → Q x.1 →
      ∃ y : α, ∀ b o, (∀ q v, cs[q]? = some v → w.cell? ⟨b, o + q, Option.none⟩ = some v) → p b o y)
    (c : Value) (x : DataW H × List MemPlace) (h : DataW.trod enc Tryz.prog w base sp true fuel t [c] = some x) (hB : ∀ q ∈ x.2, q.block < B) (hW : ∀ q ∈ x.1.weights Tryz.prog t, q ≤ 140737488351232) (hQ : Q x.1) :
    ∃ (A : Option Addr) (len cap : Nat) (l : List α), c = .slice A len cap ∧ (A = Option.none → cap = 0) ∧ LR (fun b _ => b < B) by_ A len cap l (fun b o => ∀ (i : Nat) (hi : i < l.length), p b (o + i * sz) l[i]) := by
  rcases DataW.trod_slice ht h with ⟨e3, hx3⟩ | ⟨a, len, cap, elems, rest, n', rfl, e3, hx3, hbl, hlc, hcm, hel, hget, _, _⟩
  · simp only [List.cons.injEq, and_true] at e3
    subst e3
    exact ⟨Option.none, 0, 0, [], rfl, fun _ => rfl, rfl, Nat.le_refl _, by simp, fun h => absurd rfl h⟩
  · simp only [List.cons.injEq, and_true] at e3
    subst e3
    rw [hc] at hget hx3
    rw [hx3] at hW hB hQ
    unfold DataW.weights at hW
    simp only [ht] at hW
    have hlen : len * by_ ≤ 140737488351232 := by
      have := hW _ (List.mem_cons_self ..)
      rw [hby] at this
      simp only [List.length_map, hel] at this
      exact Nat.le_trans (Nat.mul_le_mul_right by_ (Nat.le_add_right len rest.length)) this
    have hone : ∀ i, i < len → ∃ (cs' : List Value) (y : α), (∀ q, q < sz → w.cell? ((a.add (i * sz)).add q) = cs'[q]?) ∧ cs'.length = sz ∧ ∀ b o, (∀ q v, cs'[q]? = some v → w.cell? ⟨b, o + q, Option.none⟩ = some v) → p b o y := by
      intro i hi
      have hg := hget i hi
      have hie : i < elems.length := by omega
      rw [List.getElem?_eq_getElem hie] at hg
      obtain ⟨cs', h1, h2⟩ := Option.bind_eq_some_iff.1 hg
      obtain ⟨y, hy⟩ := ih n' cs' _ (by omega) h2 (fun q hq => hB q (List.mem_append_right _ (List.mem_flatMap.2 ⟨elems[i], List.mem_append_left _ (List.getElem_mem hie), hq⟩))) (fun q hq => hW q (List.mem_cons_of_mem _ (List.mem_append_left _ (wAll_mem (List.mem_map.2 ⟨elems[i], List.getElem_mem hie, rfl⟩) q hq)))) (hQs _ _ hQ _ (List.mem_map.2 ⟨elems[i], List.getElem_mem hie, rfl⟩))
      obtain ⟨_, hl, hcell⟩ := World.cells?_some h1
      exact ⟨cs', y, hcell, hl, hy⟩
    by_cases h0 : len = 0
    · subst h0
      exact ⟨some a, 0, cap, [], rfl, (fun h => nomatch h), rfl, Nat.zero_le _, by simp, fun h => absurd rfl h⟩
    obtain ⟨cs0, y0, hc0, hl0, _⟩ := hone 0 (by omega)
    have hsp : a.spot = Option.none := by
      have := hc0 0 hpos
      rw [List.getElem?_eq_getElem (by omega)] at this
      simpa [Addr.add] using World.cell?_spot this
    obtain ⟨b, o, spot⟩ := a
    simp only at hsp
    subst hsp
    have hb : b < B := hB (.cell b (o + 0)) (List.mem_append_left _ (MemPlace.mem_row.2 ⟨0, by have : 0 < (elems.length + rest.length) * sz := Nat.mul_pos (by omega) hpos; exact this, rfl⟩))
    obtain ⟨l, hll, hp⟩ := list_of (p := fun i y => p b (o + i * sz) y) len (fun i hi => by
      obtain ⟨cs', y, hcell, hl, hy⟩ := hone i hi
      refine ⟨y, hy b (o + i * sz) fun q v hv => ?_⟩
      have hq : q < sz := by have := (List.getElem?_eq_some_iff.1 hv).1; omega
      rw [← hv, ← hcell q hq, addP, addP])
    exact ⟨some ⟨b, o, Option.none⟩, len, cap, l, rfl, (fun h => nomatch h), hll.symm, by omega, by rw [hll]; exact hlen, fun _ => ⟨b, o, hb, rfl, hp⟩⟩
theorem ca_3 : Tryz.prog.cellsOf 3 = 1 := by kernel_rfl
theorem ca_54 : Tryz.prog.cellsOf 56 = 1 := by kernel_rfl
theorem i64_wf {n : Int} (h : (Lit.int .i64 n).wf = true) : -9223372036854775808 ≤ n ∧ n ≤ 9223372036854775807 := by
  have hb := bounds_i64 h
  omega
/-- A token that was handed in. -/
theorem open_tk {H : Type} {enc : TypeId × Value → H} {w : World} {base : Nat} {sp : Nat → Bool} (fuel : Nat) (cs : List Value) (x : DataW H × List MemPlace) (h : DataW.trod enc Tryz.prog w base sp true fuel 58 cs = some x)
    (hW : ∀ n ∈ x.1.weights Tryz.prog 58, n ≤ 140737488351232) (K : Nat) (hK : Rows.uptoBulk x.1 ≤ K) :
    ∃ t : Tk, cs = t.arr.toList ∧ t.s.length ≤ 140737488351232 ∧ t.s.length ≤ K ∧ (-9223372036854775808 ≤ t.n ∧ t.n ≤ 9223372036854775807) ∧ (-9223372036854775808 ≤ t.r ∧ t.r ≤ 9223372036854775807) ∧ (-9223372036854775808 ≤ t.at_ ∧ t.at_ ≤ 9223372036854775807) ∧ (0 ≤ t.k ∧ t.k < 256) := by
  obtain ⟨xs, n, rfl, rfl, hlen, hxl, hf⟩ := DataW.trod_struct Tryz.underlying58 h
  rw [ca_56] at hlen
  obtain ⟨c0, c1, c2, c3, c4, rfl⟩ := five_of hlen
  obtain ⟨x0, x1, x2, x3, x4, rfl⟩ := five_of hxl
  have f0 : DataW.trod enc Tryz.prog w base sp true n 56 (List.take (Tryz.prog.cellsOf 56) (List.drop 0 [c0, c1, c2, c3, c4])) = some x0 := hf 0 _ rfl
  rw [ca_54] at f0
  have f1 : DataW.trod enc Tryz.prog w base sp true n 3 (List.take (Tryz.prog.cellsOf 3) (List.drop 1 [c0, c1, c2, c3, c4])) = some x1 := hf 1 _ rfl
  rw [ca_3] at f1
  have f2 : DataW.trod enc Tryz.prog w base sp true n 2 (List.take (Tryz.prog.cellsOf 2) (List.drop 2 [c0, c1, c2, c3, c4])) = some x2 := hf 2 _ rfl
  rw [ca_2] at f2
  have f3 : DataW.trod enc Tryz.prog w base sp true n 9 (List.take (Tryz.prog.cellsOf 9) (List.drop 3 [c0, c1, c2, c3, c4])) = some x3 := hf 3 _ rfl
  rw [ca_9] at f3
  have f4 : DataW.trod enc Tryz.prog w base sp true n 25 (List.take (Tryz.prog.cellsOf 25) (List.drop 4 [c0, c1, c2, c3, c4])) = some x4 := hf 4 _ rfl
  rw [ca_32] at f4
  simp only [List.drop_zero, List.take_succ_cons, List.take_zero, List.drop_succ_cons] at f0 f1 f2 f3 f4
  obtain ⟨k, e0, _, hk⟩ := DataW.trod_int Tryz.underlying56 f0
  obtain ⟨a, e1, _, ha⟩ := DataW.trod_int Tryz.underlying3 f1
  obtain ⟨m, e2, _, hm⟩ := DataW.trod_int Tryz.underlying2 f2
  obtain ⟨s, e3, hx3, _⟩ := DataW.trod_string Tryz.underlying9 f3
  obtain ⟨r, e4, _, hr⟩ := DataW.trod_int Tryz.underlying25 f4
  simp only [List.cons.injEq, and_true] at e0 e1 e2 e3 e4
  subst e0 e1 e2 e3 e4
  refine ⟨⟨k, a, m, s.data.toList, r⟩, rfl, ?_, ?_, i64_wf hm, i64_wf hr, i64_wf ha, u8_wf hk⟩
  · have : s.data.toList.length ∈ (DataW.agg ([x0, x1, x2, x3, x4].map (·.1))).weights Tryz.prog 58 := by
      unfold DataW.weights
      simp [Tryz.underlying58, hx3, DataW.weightsEach, DataW.weights]
    exact hW _ this
  · simp only [hx3, List.map_cons, List.map_nil, Rows.uptoBulk, Rows.uptoBulkAll] at hK
    show s.data.toList.length ≤ K
    omega
set_option maxRecDepth 100000 in
/-- A list of tokens that was handed in. -/
theorem open_arg40 {H : Type} {enc : TypeId × Value → H} {W : World} {base : Nat} {v : Value} {d : DataW H} {p : List MemPlace} (hv : Value.okWide Tryz.prog W .any base 22 v) (h : DataW.Trod enc Tryz.prog W 0 (fun _ => true) true 22 v d p) (hB : ∀ q ∈ p, q.block < W.heap.size)
    (hs : (DataW.weightsEach Tryz.prog [22] [d]).all (· ≤ reachBytes) = true) (K : Nat) (hK : Rows.uptoBulk d ≤ K) :
    ∃ l : List Tk, IsTks W W.heap.size v l ∧ (∀ t ∈ l, t.s.length ≤ 140737488351232 ∧ t.s.length ≤ K ∧ (-9223372036854775808 ≤ t.n ∧ t.n ≤ 9223372036854775807) ∧ (-9223372036854775808 ≤ t.r ∧ t.r ≤ 9223372036854775807) ∧ (-9223372036854775808 ≤ t.at_ ∧ t.at_ ≤ 9223372036854775807) ∧ (0 ≤ t.k ∧ t.k < 256)) ∧ (v = .slice Option.none 0 0 ∨ ∀ n c, v ≠ .slice Option.none n c) ∧ l.length ≤ K := by
  obtain ⟨a0, len, cap, rfl⟩ := okWide_slice Tryz.underlying22 hv
  obtain ⟨fuel, hf⟩ := h
  have hf' : DataW.trod enc Tryz.prog W 0 (fun _ => true) true fuel 22 [.slice a0 len cap] = some (d, p) := by simpa [Value.cells] using hf
  obtain ⟨A, len', cap', l, he, hn, g1, g2, g3, g4⟩ := open_elemsQ (Q := fun d => Rows.uptoBulk d ≤ K) (fun es rs h e he => bulk_slice K es rs h e he) (p := fun b o (t : Tk) => At W b o t.arr.toList ∧ t.s.length ≤ 140737488351232 ∧ t.s.length ≤ K ∧ (-9223372036854775808 ≤ t.n ∧ t.n ≤ 9223372036854775807) ∧ (-9223372036854775808 ≤ t.r ∧ t.r ≤ 9223372036854775807) ∧ (-9223372036854775808 ≤ t.at_ ∧ t.at_ ≤ 9223372036854775807) ∧ (0 ≤ t.k ∧ t.k < 256)) Tryz.underlying22 ca_56 (by omega) bytes56 (fun n' cs' x' hn hx hxB hxW hxQ => by
      obtain ⟨t, rfl, ht⟩ := open_tk n' cs' x' hx hxW K hxQ
      exact ⟨t, fun b o hcell => ⟨hcell, ht⟩⟩) _ _ hf' hB (weights_le hs) hK
  simp only [Value.slice.injEq] at he
  obtain ⟨rfl, rfl, rfl⟩ := he
  refine ⟨l, ⟨g3, a0, cap, g2, by rw [g1], fun hl => ?_⟩, fun t ht => ?_, ?_, ?_⟩
  · obtain ⟨b, o, hb, hA, hp⟩ := g4 hl
    exact ⟨b, o, hb, hA, fun i hi => (hp i hi).1⟩
  · obtain ⟨i, hi, rfl⟩ := List.getElem_of_mem ht
    obtain ⟨b, o, hb, hA, hp⟩ := g4 (by rintro rfl; simp at hi)
    exact (hp i hi).2
  · cases a0 with
    | none =>
      left
      have hc0 := hn rfl
      have hl0 : len = 0 := by omega
      rw [hc0, hl0]
    | some a => right; intro n c h; injection h with h1; cases h1
  · rcases DataW.trod_slice Tryz.underlying22 hf' with ⟨e3, hx3⟩ | ⟨a, len', cap', elems, rest, n', e1, e3, hx3, hbl, hlc, hcm, hel, hget, _, _⟩
    · simp only [List.cons.injEq, Value.slice.injEq, and_true] at e3
      omega
    · simp only [List.cons.injEq, Value.slice.injEq, and_true] at e3
      have hd : d = .slice (elems.map (·.1)) (rest.map (·.1)) := congrArg (·.1) hx3
      rw [hd] at hK
      simp only [Rows.uptoBulk] at hK
      have := bulk_len (elems.map (·.1))
      rw [List.length_map] at this
      omega
end Go.Proofs.YtjmelamllapmiaaGreatDoor
namespace Go.Proofs.YtjmelamllapmiaaGreatDoor
open Go.RowKit Go.ChangeShapes Go.WideShapes Go.ChangeAt

theorem fits_of : ∀ {l : List Va}, (∀ x ∈ l, Fit x) → Fits l
  | [], _ => by unfold Fits; trivial
  | x :: l, h => by unfold Fits; exact ⟨h x (by simp), fits_of fun y hy => h y (List.mem_cons_of_mem _ hy)⟩
theorem open_vaF {H : Type} {enc : TypeId × Value → H} {w : World} {base B : Nat} {sp : Nat → Bool} : ∀ (fuel : Nat) (cs : List Value) (x : DataW H × List MemPlace), DataW.trod enc Tryz.prog w base sp true fuel 27 cs = some x →
    (∀ p ∈ x.2, p.block < B) → (∀ n ∈ x.1.weights Tryz.prog 27, n ≤ 140737488351232) → ∃ (c0 c1 c2 c3 c4 : Value) (e : Va), cs = [c0, c1, c2, c3, c4] ∧ IsVaR w (fun b _ => b < B) (.agg #[c0, c1, c2, c3, c4]) e ∧ Fit e := by
  intro fuel
  induction fuel using Nat.strongRecOn with
  | _ fuel ih =>
    intro cs x h hB hW
    obtain ⟨xs, n, rfl, rfl, hlen, hxl, hf⟩ := DataW.trod_struct Tryz.underlying27 h
    rw [ca_34] at hlen
    obtain ⟨c0, c1, c2, c3, c4, rfl⟩ := five_of hlen
    obtain ⟨x0, x1, x2, x3, x4, rfl⟩ := five_of hxl
    have f0 : DataW.trod enc Tryz.prog w base sp true n 23 (List.take (Tryz.prog.cellsOf 23) (List.drop 0 [c0, c1, c2, c3, c4])) = some x0 := hf 0 _ rfl
    rw [ca_30] at f0
    have f1 : DataW.trod enc Tryz.prog w base sp true n 2 (List.take (Tryz.prog.cellsOf 2) (List.drop 1 [c0, c1, c2, c3, c4])) = some x1 := hf 1 _ rfl
    rw [ca_2] at f1
    have f2 : DataW.trod enc Tryz.prog w base sp true n 9 (List.take (Tryz.prog.cellsOf 9) (List.drop 2 [c0, c1, c2, c3, c4])) = some x2 := hf 2 _ rfl
    rw [ca_9] at f2
    have f3 : DataW.trod enc Tryz.prog w base sp true n 24 (List.take (Tryz.prog.cellsOf 24) (List.drop 3 [c0, c1, c2, c3, c4])) = some x3 := hf 3 _ rfl
    rw [ca_31] at f3
    have f4 : DataW.trod enc Tryz.prog w base sp true n 25 (List.take (Tryz.prog.cellsOf 25) (List.drop 4 [c0, c1, c2, c3, c4])) = some x4 := hf 4 _ rfl
    rw [ca_32] at f4
    simp only [List.drop_zero, List.take_succ_cons, List.take_zero, List.drop_succ_cons] at f0 f1 f2 f3 f4
    obtain ⟨k, e0, _, hk⟩ := DataW.trod_int Tryz.underlying23 f0
    obtain ⟨m, e1, _, hm⟩ := DataW.trod_int Tryz.underlying2 f1
    obtain ⟨s, e2, hx2, _⟩ := DataW.trod_string Tryz.underlying9 f2
    obtain ⟨r, e4, _, hr⟩ := DataW.trod_int Tryz.underlying25 f4
    simp only [List.cons.injEq, and_true] at e0 e1 e2 e4
    subst e0 e1 e2 e4
    have hs : s.size ≤ 140737488351232 := by
      have : s.data.toList.length ∈ (DataW.agg ([x0, x1, x2, x3, x4].map (·.1))).weights Tryz.prog 27 := by
        unfold DataW.weights
        simp [Tryz.underlying27, hx2, DataW.weightsEach, DataW.weights]
      simpa using hW _ this
    have hk' := u8_wf hk
    obtain ⟨A, len, cap, l, rfl, _, g1, g2, g3, g4⟩ := open_elems (p := fun b o (y : Va) => (∃ c0 c1 c2 c3 c4, At w b o [c0, c1, c2, c3, c4] ∧ IsVaR w (fun b _ => b < B) (.agg #[c0, c1, c2, c3, c4]) y) ∧ Fit y) Tryz.underlying24 ca_34 (by omega) bytes34 (fun n' cs' x' hn hx hxB hxW => by
      obtain ⟨d0, d1, d2, d3, d4, e, rfl, hE, hF⟩ := ih n' (by omega) cs' x' hx hxB hxW
      exact ⟨e, fun b o hcell => ⟨⟨d0, d1, d2, d3, d4, hcell, hE⟩, hF⟩⟩) c3 x3 f3 (fun q hq => hB q (by simp [hq])) (fun q hq => hW q (by
        unfold DataW.weights
        simp [Tryz.underlying27, DataW.weightsEach, hq]))
    refine ⟨_, _, _, _, _, .mk k m s l r, rfl, ?_, ?_⟩
    · unfold IsVaR
      exact ⟨hk'.1, hk'.2, hs, g3, A, cap, g2, by rw [g1], fun hl => by obtain ⟨b, o, hb, hA, hp⟩ := g4 hl; exact ⟨b, o, hb, hA, IsVasR.of fun i hi => (hp i hi).1⟩⟩
    · unfold Fit
      refine ⟨i64_wf hm, i64_wf hr, fits_of fun x hx => ?_⟩
      obtain ⟨i, hi, rfl⟩ := List.getElem_of_mem hx
      obtain ⟨b, o, hb, hA, hp⟩ := g4 (by rintro rfl; simp at hi)
      exact (hp i hi).2

set_option maxRecDepth 100000 in
theorem open_arg26F {H : Type} {enc : TypeId × Value → H} {W : World} {base : Nat} {v : Value} {d : DataW H} {p : List MemPlace} (hv : Value.okWide Tryz.prog W .any base 27 v) (h : DataW.Trod enc Tryz.prog W 0 (fun _ => true) true 27 v d p) (hB : ∀ q ∈ p, q.block < W.heap.size)
    (hs : (DataW.weightsEach Tryz.prog [27] [d]).all (· ≤ reachBytes) = true) : ∃ x : Va, IsVa W W.heap.size v x ∧ Fit x := by
  obtain ⟨cs, rfl, _⟩ := okWide_struct Tryz.underlying27 hv
  obtain ⟨fuel, hf⟩ := h
  have hf' : DataW.trod enc Tryz.prog W 0 (fun _ => true) true fuel 27 cs.toList = some (d, p) := by simpa [Value.cells] using hf
  obtain ⟨c0, c1, c2, c3, c4, x, hc, hx⟩ := open_vaF fuel _ _ hf' hB (weights_le hs)
  have : cs = #[c0, c1, c2, c3, c4] := by rw [← Array.toArray_toList (xs := cs), hc]
  rw [this]
  exact ⟨x, hx⟩
/-- v reads as these values; all lists in blocks below B. -/
def IsVl (w : World) (B : Nat) (v : Value) (l : List Va) : Prop := l.length * 64 ≤ 140737488351232 ∧ ∃ A cap, l.length ≤ cap ∧ v = .slice A l.length cap ∧ (l ≠ [] → ∃ b o, b < B ∧ A = some ⟨b, o, Option.none⟩ ∧ IsVas w B b o l)
theorem IsVl.keep {w w' : World} {B : Nat} {v : Value} {l : List Va} (h : IsVl w B v l) (hk : ∀ b, b < B → w'.heap[b]? = w.heap[b]?) : IsVl w' B v l := by
  obtain ⟨h1, A, cap, h2, h3, h4⟩ := h
  exact ⟨h1, A, cap, h2, h3, fun hl => let ⟨b, o, hb, hA, hx⟩ := h4 hl; ⟨b, o, hb, hA, IsVas.keep hk hb hx⟩⟩
set_option maxRecDepth 100000 in
theorem open_arg23 {H : Type} {enc : TypeId × Value → H} {W : World} {base : Nat} {v : Value} {d : DataW H} {p : List MemPlace} (hv : Value.okWide Tryz.prog W .any base 24 v) (h : DataW.Trod enc Tryz.prog W 0 (fun _ => true) true 24 v d p) (hB : ∀ q ∈ p, q.block < W.heap.size)
    (hs : (DataW.weightsEach Tryz.prog [24] [d]).all (· ≤ reachBytes) = true) : ∃ l : List Va, IsVl W W.heap.size v l ∧ Fits l := by
  obtain ⟨a0, len, cap, rfl⟩ := okWide_slice Tryz.underlying24 hv
  obtain ⟨fuel, hf⟩ := h
  have hf' : DataW.trod enc Tryz.prog W 0 (fun _ => true) true fuel 24 [.slice a0 len cap] = some (d, p) := by simpa [Value.cells] using hf
  obtain ⟨A, len', cap', l, he, hn, g1, g2, g3, g4⟩ := open_elems (p := fun b o (y : Va) => (∃ c0 c1 c2 c3 c4, At W b o [c0, c1, c2, c3, c4] ∧ IsVaR W (fun b _ => b < W.heap.size) (.agg #[c0, c1, c2, c3, c4]) y) ∧ Fit y) Tryz.underlying24 ca_34 (by omega) bytes34 (fun n' cs' x' hn hx hxB hxW => by
      obtain ⟨d0, d1, d2, d3, d4, e, rfl, hE, hF⟩ := open_vaF n' cs' x' hx hxB hxW
      exact ⟨e, fun b o hcell => ⟨⟨d0, d1, d2, d3, d4, hcell, hE⟩, hF⟩⟩) _ _ hf' hB (weights_le hs)
  simp only [Value.slice.injEq] at he
  obtain ⟨rfl, rfl, rfl⟩ := he
  refine ⟨l, ⟨g3, a0, cap, g2, by rw [g1], fun hl => ?_⟩, fits_of fun x hx => ?_⟩
  · obtain ⟨b, o, hb, hA, hp⟩ := g4 hl
    exact ⟨b, o, hb, hA, IsVasR.of fun i hi => (hp i hi).1⟩
  · obtain ⟨i, hi, rfl⟩ := List.getElem_of_mem hx
    obtain ⟨b, o, hb, hA, hp⟩ := g4 (by rintro rfl; simp at hi)
    exact (hp i hi).2
end Go.Proofs.YtjmelamllapmiaaGreatDoor
