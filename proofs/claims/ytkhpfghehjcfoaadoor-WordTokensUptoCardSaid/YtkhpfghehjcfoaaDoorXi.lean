/- Tokens among the arguments, opened. -/
import Derived.Test.YtkhpfghehjcfoaaDoorX
import Derived.Test.YtkhpfghehjcfoaaDoorRa
namespace Go.Proofs.YtkhpfghehjcfoaaDoor
open Go.RowKit Go.ChangeShapes Go.WideShapes Go.ChangeAt

theorem bulk_mem {H : Type} : ∀ {l : List (DataW H)} {d : DataW H}, d ∈ l → Rows.uptoBulk d ≤ Rows.uptoBulkAll l
  | x :: l, d, h => by
    simp only [Rows.uptoBulkAll]
    rcases List.mem_cons.1 h with rfl | h
    · omega
    · have := bulk_mem h; omega
theorem bulk_pos {H : Type} (d : DataW H) : 1 ≤ Rows.uptoBulk d := by
  cases d with
  | lit l => cases l <;> simp [Rows.uptoBulk]
  | _ => simp [Rows.uptoBulk]
theorem bulk_len {H : Type} : ∀ (l : List (DataW H)), l.length ≤ Rows.uptoBulkAll l
  | [] => by simp [Rows.uptoBulkAll]
  | x :: l => by
    simp only [Rows.uptoBulkAll, List.length_cons]
    have := bulk_len l
    have := bulk_pos x
    omega
theorem bulk_slice {H : Type} (K : Nat) (es rs : List (DataW H)) (h : Rows.uptoBulk (.slice es rs) ≤ K) (e : DataW H) (he : e ∈ es) : Rows.uptoBulk e ≤ K := by
  simp only [Rows.uptoBulk] at h
  have := bulk_mem he
  omega
/-- A slice whose elements open: element by element. -/
theorem open_elemsQ {H : Type} {enc : TypeId × Value → H} {w : World} {base B : Nat} {sp : Nat → Bool} {t e : TypeId} {sz by_ fuel : Nat} {α : Type} {p : Nat → Nat → α → Prop} {Q : DataW H → Prop} (hQs : ∀ es rs, Q (.slice es rs) → ∀ e ∈ es, Q e) (ht : Tryd.prog.underlying t = some (.slice e)) (hc : Tryd.prog.cellsOf e = sz) (hpos : 0 < sz) (hby : Tryd.prog.bytesOf e = by_)
    (ih : ∀ (n : Nat) (cs : List Value) (x : DataW H × List MemPlace), n < fuel → DataW.trod enc Tryd.prog w base sp true n e cs = some x → (∀ q ∈ x.2, q.block < B) → (∀ q ∈ x.1.weights Tryd.prog e, q ≤ 140737488351232) → Q x.1 →
      ∃ y : α, ∀ b o, (∀ q v, cs[q]? = some v → w.cell? ⟨b, o + q, Option.none⟩ = some v) → p b o y)
    (c : Value) (x : DataW H × List MemPlace) (h : DataW.trod enc Tryd.prog w base sp true fuel t [c] = some x) (hB : ∀ q ∈ x.2, q.block < B) (hW : ∀ q ∈ x.1.weights Tryd.prog t, q ≤ 140737488351232) (hQ : Q x.1) :
    ∃ (A : Option Addr) (len cap : Nat) (l : List α), c = .slice A len cap ∧ (A = Option.none → cap = 0) ∧ LR (fun b _ => b < B) by_ A len cap l (fun b o => ∀ (i : Nat) (hi : i < l.length), p b (o + i * sz) l[i]) := by
  rcases DataW.trod_slice ht h with ⟨e3, hx3⟩ | ⟨a, len, cap, elems, rest, n', rfl, e3, hx3, hbl, hlc, hcm, hel, hget, _, _⟩
  · simp only [List.cons.injEq, and_true] at e3
    subst e3
    exact ⟨Option.none, 0, 0, [], rfl, fun _ => rfl, rfl, Nat.le_refl _, by simp, fun h => absurd rfl h⟩
  · simp only [List.cons.injEq, and_true] at e3
    subst e3
    rw [hc] at hget hx3
    rw [hx3] at hW hB hQ
    unfold DataW.weights at hW
    simp only [ht] at hW
    have hlen : len * by_ ≤ 140737488351232 := by
      have := hW _ (List.mem_cons_self ..)
      rw [hby] at this
      simp only [List.length_map, hel] at this
      exact Nat.le_trans (Nat.mul_le_mul_right by_ (Nat.le_add_right len rest.length)) this
    have hone : ∀ i, i < len → ∃ (cs' : List Value) (y : α), (∀ q, q < sz → w.cell? ((a.add (i * sz)).add q) = cs'[q]?) ∧ cs'.length = sz ∧ ∀ b o, (∀ q v, cs'[q]? = some v → w.cell? ⟨b, o + q, Option.none⟩ = some v) → p b o y := by
      intro i hi
      have hg := hget i hi
      have hie : i < elems.length := by omega
      rw [List.getElem?_eq_getElem hie] at hg
      obtain ⟨cs', h1, h2⟩ := Option.bind_eq_some_iff.1 hg
      obtain ⟨y, hy⟩ := ih n' cs' _ (by omega) h2 (fun q hq => hB q (List.mem_append_right _ (List.mem_flatMap.2 ⟨elems[i], List.mem_append_left _ (List.getElem_mem hie), hq⟩))) (fun q hq => hW q (List.mem_cons_of_mem _ (List.mem_append_left _ (wAll_mem (List.mem_map.2 ⟨elems[i], List.getElem_mem hie, rfl⟩) q hq)))) (hQs _ _ hQ _ (List.mem_map.2 ⟨elems[i], List.getElem_mem hie, rfl⟩))
      obtain ⟨_, hl, hcell⟩ := World.cells?_some h1
      exact ⟨cs', y, hcell, hl, hy⟩
    by_cases h0 : len = 0
    · subst h0
      exact ⟨some a, 0, cap, [], rfl, (fun h => nomatch h), rfl, Nat.zero_le _, by simp, fun h => absurd rfl h⟩
    obtain ⟨cs0, y0, hc0, hl0, _⟩ := hone 0 (by omega)
    have hsp : a.spot = Option.none := by
      have := hc0 0 hpos
      rw [List.getElem?_eq_getElem (by omega)] at this
      simpa [Addr.add] using World.cell?_spot this
    obtain ⟨b, o, spot⟩ := a
    simp only at hsp
    subst hsp
    have hb : b < B := hB (.cell b (o + 0)) (List.mem_append_left _ (MemPlace.mem_row.2 ⟨0, by have : 0 < (elems.length + rest.length) * sz := Nat.mul_pos (by omega) hpos; exact this, rfl⟩))
    obtain ⟨l, hll, hp⟩ := list_of (p := fun i y => p b (o + i * sz) y) len (fun i hi => by
      obtain ⟨cs', y, hcell, hl, hy⟩ := hone i hi
      refine ⟨y, hy b (o + i * sz) fun q v hv => ?_⟩
      have hq : q < sz := by have := (List.getElem?_eq_some_iff.1 hv).1; omega
      rw [← hv, ← hcell q hq, addP, addP])
    exact ⟨some ⟨b, o, Option.none⟩, len, cap, l, rfl, (fun h => nomatch h), hll.symm, by omega, by rw [hll]; exact hlen, fun _ => ⟨b, o, hb, rfl, hp⟩⟩
theorem ca_3 : Tryd.prog.cellsOf 3 = 1 := by kernel_rfl
theorem ca_54 : Tryd.prog.cellsOf 54 = 1 := by kernel_rfl
theorem i64_wf {n : Int} (h : (Lit.int .i64 n).wf = true) : -9223372036854775808 ≤ n ∧ n ≤ 9223372036854775807 := by
  have hb := bounds_i64 h
  omega
/-- A token that was handed in. -/
theorem open_tk {H : Type} {enc : TypeId × Value → H} {w : World} {base : Nat} {sp : Nat → Bool} (fuel : Nat) (cs : List Value) (x : DataW H × List MemPlace) (h : DataW.trod enc Tryd.prog w base sp true fuel 56 cs = some x)
    (hW : ∀ n ∈ x.1.weights Tryd.prog 56, n ≤ 140737488351232) (K : Nat) (hK : Rows.uptoBulk x.1 ≤ K) :
    ∃ t : Tk, cs = t.arr.toList ∧ t.s.length ≤ 140737488351232 ∧ t.s.length ≤ K ∧ (-9223372036854775808 ≤ t.n ∧ t.n ≤ 9223372036854775807) ∧ (-9223372036854775808 ≤ t.r ∧ t.r ≤ 9223372036854775807) ∧ (-9223372036854775808 ≤ t.at_ ∧ t.at_ ≤ 9223372036854775807) ∧ (0 ≤ t.k ∧ t.k < 256) := by
  obtain ⟨xs, n, rfl, rfl, hlen, hxl, hf⟩ := DataW.trod_struct Tryd.underlying56 h
  rw [ca_56] at hlen
  obtain ⟨c0, c1, c2, c3, c4, rfl⟩ := five_of hlen
  obtain ⟨x0, x1, x2, x3, x4, rfl⟩ := five_of hxl
  have f0 : DataW.trod enc Tryd.prog w base sp true n 54 (List.take (Tryd.prog.cellsOf 54) (List.drop 0 [c0, c1, c2, c3, c4])) = some x0 := hf 0 _ rfl
  rw [ca_54] at f0
  have f1 : DataW.trod enc Tryd.prog w base sp true n 3 (List.take (Tryd.prog.cellsOf 3) (List.drop 1 [c0, c1, c2, c3, c4])) = some x1 := hf 1 _ rfl
  rw [ca_3] at f1
  have f2 : DataW.trod enc Tryd.prog w base sp true n 2 (List.take (Tryd.prog.cellsOf 2) (List.drop 2 [c0, c1, c2, c3, c4])) = some x2 := hf 2 _ rfl
  rw [ca_2] at f2
  have f3 : DataW.trod enc Tryd.prog w base sp true n 9 (List.take (Tryd.prog.cellsOf 9) (List.drop 3 [c0, c1, c2, c3, c4])) = some x3 := hf 3 _ rfl
  rw [ca_9] at f3
  have f4 : DataW.trod enc Tryd.prog w base sp true n 24 (List.take (Tryd.prog.cellsOf 24) (List.drop 4 [c0, c1, c2, c3, c4])) = some x4 := hf 4 _ rfl
  rw [ca_32] at f4
  simp only [List.drop_zero, List.take_succ_cons, List.take_zero, List.drop_succ_cons] at f0 f1 f2 f3 f4
  obtain ⟨k, e0, _, hk⟩ := DataW.trod_int Tryd.underlying54 f0
  obtain ⟨a, e1, _, ha⟩ := DataW.trod_int Tryd.underlying3 f1
  obtain ⟨m, e2, _, hm⟩ := DataW.trod_int Tryd.underlying2 f2
  obtain ⟨s, e3, hx3, _⟩ := DataW.trod_string Tryd.underlying9 f3
  obtain ⟨r, e4, _, hr⟩ := DataW.trod_int Tryd.underlying24 f4
  simp only [List.cons.injEq, and_true] at e0 e1 e2 e3 e4
  subst e0 e1 e2 e3 e4
  refine ⟨⟨k, a, m, s.data.toList, r⟩, rfl, ?_, ?_, i64_wf hm, i64_wf hr, i64_wf ha, u8_wf hk⟩
  · have : s.data.toList.length ∈ (DataW.agg ([x0, x1, x2, x3, x4].map (·.1))).weights Tryd.prog 56 := by
      unfold DataW.weights
      simp [Tryd.underlying56, hx3, DataW.weightsEach, DataW.weights]
    exact hW _ this
  · simp only [hx3, List.map_cons, List.map_nil, Rows.uptoBulk, Rows.uptoBulkAll] at hK
    show s.data.toList.length ≤ K
    omega
set_option maxRecDepth 100000 in
/-- A list of tokens that was handed in. -/
theorem open_arg40 {H : Type} {enc : TypeId × Value → H} {W : World} {base : Nat} {v : Value} {d : DataW H} {p : List MemPlace} (hv : Value.okWide Tryd.prog W .any base 40 v) (h : DataW.Trod enc Tryd.prog W 0 (fun _ => true) true 40 v d p) (hB : ∀ q ∈ p, q.block < W.heap.size)
    (hs : (DataW.weightsEach Tryd.prog [40] [d]).all (· ≤ reachBytes) = true) (K : Nat) (hK : Rows.uptoBulk d ≤ K) :
    ∃ l : List Tk, IsTks W W.heap.size v l ∧ (∀ t ∈ l, t.s.length ≤ 140737488351232 ∧ t.s.length ≤ K ∧ (-9223372036854775808 ≤ t.n ∧ t.n ≤ 9223372036854775807) ∧ (-9223372036854775808 ≤ t.r ∧ t.r ≤ 9223372036854775807) ∧ (-9223372036854775808 ≤ t.at_ ∧ t.at_ ≤ 9223372036854775807) ∧ (0 ≤ t.k ∧ t.k < 256)) ∧ (v = .slice Option.none 0 0 ∨ ∀ n c, v ≠ .slice Option.none n c) ∧ l.length ≤ K := by
  obtain ⟨a0, len, cap, rfl⟩ := okWide_slice Tryd.underlying40 hv
  obtain ⟨fuel, hf⟩ := h
  have hf' : DataW.trod enc Tryd.prog W 0 (fun _ => true) true fuel 40 [.slice a0 len cap] = some (d, p) := by simpa [Value.cells] using hf
  obtain ⟨A, len', cap', l, he, hn, g1, g2, g3, g4⟩ := open_elemsQ (Q := fun d => Rows.uptoBulk d ≤ K) (fun es rs h e he => bulk_slice K es rs h e he) (p := fun b o (t : Tk) => At W b o t.arr.toList ∧ t.s.length ≤ 140737488351232 ∧ t.s.length ≤ K ∧ (-9223372036854775808 ≤ t.n ∧ t.n ≤ 9223372036854775807) ∧ (-9223372036854775808 ≤ t.r ∧ t.r ≤ 9223372036854775807) ∧ (-9223372036854775808 ≤ t.at_ ∧ t.at_ ≤ 9223372036854775807) ∧ (0 ≤ t.k ∧ t.k < 256)) Tryd.underlying40 ca_56 (by omega) bytes56 (fun n' cs' x' hn hx hxB hxW hxQ => by
      obtain ⟨t, rfl, ht⟩ := open_tk n' cs' x' hx hxW K hxQ
      exact ⟨t, fun b o hcell => ⟨hcell, ht⟩⟩) _ _ hf' hB (weights_le hs) hK
  simp only [Value.slice.injEq] at he
  obtain ⟨rfl, rfl, rfl⟩ := he
  refine ⟨l, ⟨g3, a0, cap, g2, by rw [g1], fun hl => ?_⟩, fun t ht => ?_, ?_, ?_⟩
  · obtain ⟨b, o, hb, hA, hp⟩ := g4 hl
    exact ⟨b, o, hb, hA, fun i hi => (hp i hi).1⟩
  · obtain ⟨i, hi, rfl⟩ := List.getElem_of_mem ht
    obtain ⟨b, o, hb, hA, hp⟩ := g4 (by rintro rfl; simp at hi)
    exact (hp i hi).2
  · cases a0 with
    | none =>
      left
      have hc0 := hn rfl
      have hl0 : len = 0 := by omega
      rw [hc0, hl0]
    | some a => right; intro n c h; injection h with h1; cases h1
  · rcases DataW.trod_slice Tryd.underlying40 hf' with ⟨e3, hx3⟩ | ⟨a, len', cap', elems, rest, n', e1, e3, hx3, hbl, hlc, hcm, hel, hget, _, _⟩
    · simp only [List.cons.injEq, Value.slice.injEq, and_true] at e3
      omega
    · simp only [List.cons.injEq, Value.slice.injEq, and_true] at e3
      have hd : d = .slice (elems.map (·.1)) (rest.map (·.1)) := congrArg (·.1) hx3
      rw [hd] at hK
      simp only [Rows.uptoBulk] at hK
      have := bulk_len (elems.map (·.1))
      rw [List.length_map] at this
      omega
end Go.Proofs.YtkhpfghehjcfoaaDoor
