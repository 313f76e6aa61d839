/- What was handed in, opened: names, values, a thing, an entry, a world. -/
import Derived.Test.YthafojadcodkoaaUl
namespace Go.Proofs.Ythafojadcodkoaa
open Go.ChangeShapes Go.WideShapes Go.ChangeAt Go.RowKit

theorem hc2 : Try.prog.cellsOf 2 = 1 := by kernel_rfl
theorem hc3 : Try.prog.cellsOf 3 = 1 := by kernel_rfl
theorem hc4 : Try.prog.cellsOf 4 = 1 := by kernel_rfl
theorem hc9 : Try.prog.cellsOf 9 = 1 := by kernel_rfl
theorem hc22 : Try.prog.cellsOf 22 = 1 := by kernel_rfl
theorem hc23 : Try.prog.cellsOf 23 = 1 := by kernel_rfl
theorem hc24 : Try.prog.cellsOf 24 = 1 := by kernel_rfl
theorem hc25 : Try.prog.cellsOf 25 = 1 := by kernel_rfl
theorem hc35 : Try.prog.cellsOf 35 = 1 := by kernel_rfl
theorem hc44 : Try.prog.cellsOf 44 = 1 := by kernel_rfl
theorem hc45 : Try.prog.cellsOf 45 = 1 := by kernel_rfl
theorem hc47 : Try.prog.cellsOf 47 = 1 := by kernel_rfl
theorem hc49 : Try.prog.cellsOf 49 = 5 := by kernel_rfl
theorem hc50 : Try.prog.cellsOf 50 = 1 := by kernel_rfl
theorem hc51 : Try.prog.cellsOf 51 = 1 := by kernel_rfl
theorem hc53 : Try.prog.cellsOf 53 = 16 := by kernel_rfl
theorem hc56 : Try.prog.cellsOf 56 = 17 := by kernel_rfl
theorem hc81 : Try.prog.cellsOf 81 = 6 := by kernel_rfl
theorem hc27 : Try.prog.cellsOf 27 = 5 := by kernel_rfl
theorem hby3 : Try.prog.bytesOf 3 = 8 := by kernel_rfl
theorem hby45 : Try.prog.bytesOf 45 = 8 := by kernel_rfl
theorem hby49 : Try.prog.bytesOf 49 = 64 := by kernel_rfl
theorem hby81 : Try.prog.bytesOf 81 = 80 := by kernel_rfl
theorem hby56 : Try.prog.bytesOf 56 = 200 := by kernel_rfl
theorem hby35 : Try.prog.bytesOf 35 = 1 := by kernel_rfl
theorem two_of {α : Type} {l : List α} (h : l.length = 2) : ∃ x0 x1, l = [x0, x1] := by
  match l, h with
  | [x0, x1], _ => exact ⟨x0, x1, rfl⟩
theorem fivec_of {α : Type} {l : List α} (h : l.length = 5) : ∃ x0 x1 x2 x3 x4, l = [x0, x1, x2, x3, x4] := by
  match l, h with
  | [x0, x1, x2, x3, x4], _ => exact ⟨x0, x1, x2, x3, x4, rfl⟩
theorem six_of {α : Type} {l : List α} (h : l.length = 6) : ∃ x0 x1 x2 x3 x4 x5, l = [x0, x1, x2, x3, x4, x5] := by
  match l, h with
  | [x0, x1, x2, x3, x4, x5], _ => exact ⟨x0, x1, x2, x3, x4, x5, rfl⟩
theorem twelve_of {α : Type} {l : List α} (h : l.length = 12) : ∃ x0 x1 x2 x3 x4 x5 x6 x7 x8 x9 x10 x11, l = [x0, x1, x2, x3, x4, x5, x6, x7, x8, x9, x10, x11] := by
  match l, h with
  | [x0, x1, x2, x3, x4, x5, x6, x7, x8, x9, x10, x11], _ => exact ⟨x0, x1, x2, x3, x4, x5, x6, x7, x8, x9, x10, x11, rfl⟩
theorem sixteen_of {α : Type} {l : List α} (h : l.length = 16) : ∃ x0 x1 x2 x3 x4 x5 x6 x7 x8 x9 x10 x11 x12 x13 x14 x15, l = [x0, x1, x2, x3, x4, x5, x6, x7, x8, x9, x10, x11, x12, x13, x14, x15] := by
  match l, h with
  | [x0, x1, x2, x3, x4, x5, x6, x7, x8, x9, x10, x11, x12, x13, x14, x15], _ => exact ⟨x0, x1, x2, x3, x4, x5, x6, x7, x8, x9, x10, x11, x12, x13, x14, x15, rfl⟩
theorem seventeenc_of {α : Type} {l : List α} (h : l.length = 17) : ∃ x0 x1 x2 x3 x4 x5 x6 x7 x8 x9 x10 x11 x12 x13 x14 x15 x16, l = [x0, x1, x2, x3, x4, x5, x6, x7, x8, x9, x10, x11, x12, x13, x14, x15, x16] := by
  match l, h with
  | [x0, x1, x2, x3, x4, x5, x6, x7, x8, x9, x10, x11, x12, x13, x14, x15, x16], _ => exact ⟨x0, x1, x2, x3, x4, x5, x6, x7, x8, x9, x10, x11, x12, x13, x14, x15, x16, rfl⟩
theorem nms_of {w : World} {R : Nat → Nat → Prop} {b : Nat} : ∀ (l : List (ByteArray × Va)) (o : Nat), (∀ (i : Nat) (hi : i < l.length), ∃ c0 c1 c2 c3 c4, l[i].1.size ≤ 140737488351232 ∧ At w b (o + i * 6) [.string l[i].1, c0, c1, c2, c3, c4] ∧ IsVaR w R (.agg #[c0, c1, c2, c3, c4]) l[i].2) → IsNmsR w R b o l
  | [], _, _ => trivial
  | x :: l, o, h => ⟨by have := h 0 (by simp); simpa using this, nms_of l (o + 6) fun i hi => by
      have := h (i + 1) (by simp; omega)
      rw [show o + (i + 1) * 6 = o + 6 + i * 6 by omega] at this
      simpa using this⟩
/-- A slice of whole numbers. -/
theorem open_rowi {H : Type} {enc : TypeId × Value → H} {w : World} {base B : Nat} {sp : Nat → Bool} {t e : TypeId} {fuel : Nat} (ht : Try.prog.underlying t = some (.slice e)) (he : Try.prog.underlying e = some (.int .i64)) (hc : Try.prog.cellsOf e = 1) (hby : Try.prog.bytesOf e = 8)
    (c : Value) (x : DataW H × List MemPlace) (h : DataW.trod enc Try.prog w base sp true fuel t [c] = some x) (hB : ∀ q ∈ x.2, q.block < B) (hBw : B ≤ w.heap.size) (hW : ∀ q ∈ x.1.weights Try.prog t, q ≤ 140737488351232) : ∃ l : List Int, RowA w c (ints l) := by
  obtain ⟨A, len, cap, l, rfl, hn, rfl, g2, g3, g4⟩ := open_elems (p := fun b o (n : Int) => w.cell? ⟨b, o, Option.none⟩ = some (.int .i64 n)) ht hc (by omega) hby (fun m cs x hm hx hxB hxW => by
    obtain ⟨k, rfl, _, _⟩ := DataW.trod_int he hx
    exact ⟨k, fun b o hcell => by have := hcell 0 _ rfl; simpa using this⟩) c x h hB hW
  refine ⟨l, A, cap, by simp, by simpa using g2, fun hA => ?_, by simpa using g3, fun u hu => ?_, fun ad hA j u hu => ?_⟩
  · refine ⟨?_, hn hA⟩
    by_cases hl : l = []
    · rw [hl]; rfl
    · obtain ⟨b, o, _, h2, _⟩ := g4 hl
      rw [hA] at h2
      cases h2
  · obtain ⟨n, _, rfl⟩ := List.mem_map.1 hu
    rfl
  · have hj : j < l.length := by have := (List.getElem?_eq_some_iff.1 hu).1; simpa using this
    obtain ⟨b, o, hb, h2, hp⟩ := g4 (by rintro rfl; simp at hj)
    rw [hA] at h2
    obtain rfl := Option.some.inj h2
    have h3 := hp j hj
    rw [Nat.mul_one] at h3
    have h4 : (ints l)[j]? = some (.int .i64 l[j]) := by simp [hj]
    rw [h4] at hu
    exact ⟨b, o, rfl, Nat.lt_of_lt_of_le hb hBw, h3.trans hu⟩
/-- A slice of values. -/
theorem open_vals {H : Type} {enc : TypeId × Value → H} {w : World} {base B : Nat} {sp : Nat → Bool} (fuel : Nat) (c : Value) (x : DataW H × List MemPlace) (h : DataW.trod enc Try.prog w base sp true fuel 47 [c] = some x) (hB : ∀ q ∈ x.2, q.block < B) (hW : ∀ q ∈ x.1.weights Try.prog 47, q ≤ 140737488351232) :
    ∃ (A : Option Addr) (len cap : Nat) (l : List Va), c = .slice A len cap ∧ LR (fun b _ => b < B) 64 A len cap l (fun b o => IsVasR w (fun b _ => b < B) b o l) := by
  obtain ⟨A, len, cap, l, rfl, _, hL⟩ := open_elems (p := fun b o (y : Va) => ∃ c0 c1 c2 c3 c4, At w b o [c0, c1, c2, c3, c4] ∧ IsVaR w (fun b _ => b < B) (.agg #[c0, c1, c2, c3, c4]) y) Try.underlying47 hc49 (by omega) hby49 (fun n' cs' x' hn hx hxB hxW => by
    obtain ⟨d0, d1, d2, d3, d4, e, rfl, hE⟩ := open_va n' cs' x' hx hxB hxW
    exact ⟨e, fun b o hcell => ⟨d0, d1, d2, d3, d4, hcell, hE⟩⟩) c x h hB hW
  exact ⟨A, len, cap, l, rfl, hL.imp fun b o hr hp => ⟨hr, IsVasR.of hp⟩⟩
/-- A name with its value. -/
theorem open_nm {H : Type} {enc : TypeId × Value → H} {w : World} {base B : Nat} {sp : Nat → Bool} (fuel : Nat) (cs : List Value) (x : DataW H × List MemPlace) (h : DataW.trod enc Try.prog w base sp true fuel 81 cs = some x) (hB : ∀ q ∈ x.2, q.block < B) (hW : ∀ q ∈ x.1.weights Try.prog 81, q ≤ 140737488351232) :
    ∃ (y : ByteArray × Va) (c0 c1 c2 c3 c4 : Value), cs = [.string y.1, c0, c1, c2, c3, c4] ∧ y.1.size ≤ 140737488351232 ∧ IsVaR w (fun b _ => b < B) (.agg #[c0, c1, c2, c3, c4]) y.2 := by
  obtain ⟨xs, n, rfl, rfl, hlen, hxl, hf⟩ := DataW.trod_struct Try.underlying81 h
  rw [hc81] at hlen
  obtain ⟨c0, c1, c2, c3, c4, c5, rfl⟩ := six_of hlen
  obtain ⟨x0, x1, rfl⟩ := two_of hxl
  have f0 : DataW.trod enc Try.prog w base sp true n 9 (List.take (Try.prog.cellsOf 9) (List.drop 0 [c0, c1, c2, c3, c4, c5])) = some x0 := hf 0 _ rfl
  rw [hc9] at f0
  simp only [List.drop_zero, List.take_succ_cons, List.take_zero] at f0
  have f1 : DataW.trod enc Try.prog w base sp true n 49 (List.take (Try.prog.cellsOf 49) (List.drop 1 [c0, c1, c2, c3, c4, c5])) = some x1 := hf 1 _ rfl
  rw [hc49] at f1
  simp only [List.drop_zero, List.take_succ_cons, List.take_zero, List.drop_succ_cons] at f1
  clear hf h hlen hxl
  have hbl : ∀ i (hi : i < [x0, x1].length), ∀ q ∈ ([x0, x1][i]).2, q.block < B := fun i hi q hq => hB q (List.mem_flatMap.2 ⟨_, List.getElem_mem hi, hq⟩)
  have hw : ∀ (i : Nat) (t : TypeId) (d : DataW H), [9, 49][i]? = some t → ([x0, x1].map (·.1))[i]? = some d → ∀ q ∈ d.weights Try.prog t, q ≤ 140737488351232 := fun i t d ht hd q hq => hW q (by
    unfold DataW.weights
    simp only [Try.underlying81]
    exact DataW.weights_mem_each ht hd q hq)
  obtain ⟨s, e0, hx0, _⟩ := DataW.trod_string Try.underlying9 f0
  have v0 : s.size ≤ 140737488351232 := by
    have := hw 0 9 x0.1 rfl rfl s.data.toList.length (by rw [hx0]; simp [DataW.weights])
    simpa using this
  obtain ⟨d0, d1, d2, d3, d4, e, e1, hE⟩ := open_va n _ _ f1 (hbl 1 (by simp)) (hw 1 49 x1.1 rfl rfl)
  simp only [List.cons.injEq, and_true] at e0 e1
  obtain ⟨rfl, rfl, rfl, rfl, rfl⟩ := e1
  subst e0
  exact ⟨(s, e), _, _, _, _, _, rfl, v0, hE⟩
theorem open_nms {H : Type} {enc : TypeId × Value → H} {w : World} {base B : Nat} {sp : Nat → Bool} (fuel : Nat) (c : Value) (x : DataW H × List MemPlace) (h : DataW.trod enc Try.prog w base sp true fuel 51 [c] = some x) (hB : ∀ q ∈ x.2, q.block < B) (hW : ∀ q ∈ x.1.weights Try.prog 51, q ≤ 140737488351232) :
    ∃ (A : Option Addr) (len cap : Nat) (l : List (ByteArray × Va)), c = .slice A len cap ∧ LR (fun b _ => b < B) 80 A len cap l (fun b o => IsNmsR w (fun b _ => b < B) b o l) := by
  obtain ⟨A, len, cap, l, rfl, _, hL⟩ := open_elems (p := fun b o (y : ByteArray × Va) => ∃ c0 c1 c2 c3 c4, y.1.size ≤ 140737488351232 ∧ At w b o [.string y.1, c0, c1, c2, c3, c4] ∧ IsVaR w (fun b _ => b < B) (.agg #[c0, c1, c2, c3, c4]) y.2) Try.underlying51 hc81 (by omega) hby81 (fun n' cs' x' hn hx hxB hxW => by
    obtain ⟨y, d0, d1, d2, d3, d4, rfl, hy, hE⟩ := open_nm n' cs' x' hx hxB hxW
    exact ⟨y, fun b o hcell => ⟨d0, d1, d2, d3, d4, hy, hcell, hE⟩⟩) c x h hB hW
  exact ⟨A, len, cap, l, rfl, hL.imp fun b o hr hp => ⟨hr, nms_of _ _ hp⟩⟩
set_option maxHeartbeats 1000000 in
/-- A thing. -/
theorem open_what {H : Type} {enc : TypeId × Value → H} {w : World} {base B : Nat} {sp : Nat → Bool} (fuel : Nat) (cs : List Value) (x : DataW H × List MemPlace) (h : DataW.trod enc Try.prog w base sp true fuel 53 cs = some x) (hB : ∀ q ∈ x.2, q.block < B) (hW : ∀ q ∈ x.1.weights Try.prog 53, q ≤ 140737488351232) :
    ∃ (s : WV) (y : Pt), cs = s.arr.toList ∧ IsWh w (fun b _ => b < B) s y := by
  obtain ⟨xs, n, rfl, rfl, hlen, hxl, hf⟩ := DataW.trod_struct Try.underlying53 h
  rw [hc53] at hlen
  obtain ⟨c0, c1, c2, c3, c4, c5, c6, c7, c8, c9, c10, c11, c12, c13, c14, c15, rfl⟩ := sixteen_of hlen
  obtain ⟨x0, x1, x2, x3, x4, x5, x6, x7, x8, x9, x10, x11, rfl⟩ := twelve_of hxl
  have f0 : DataW.trod enc Try.prog w base sp true n 44 (List.take (Try.prog.cellsOf 44) (List.drop 0 [c0, c1, c2, c3, c4, c5, c6, c7, c8, c9, c10, c11, c12, c13, c14, c15])) = some x0 := hf 0 _ rfl
  rw [hc44] at f0
  simp only [List.drop_zero, List.take_succ_cons, List.take_zero] at f0
  have f1 : DataW.trod enc Try.prog w base sp true n 45 (List.take (Try.prog.cellsOf 45) (List.drop 1 [c0, c1, c2, c3, c4, c5, c6, c7, c8, c9, c10, c11, c12, c13, c14, c15])) = some x1 := hf 1 _ rfl
  rw [hc45] at f1
  simp only [List.drop_zero, List.take_succ_cons, List.take_zero, List.drop_succ_cons] at f1
  have f2 : DataW.trod enc Try.prog w base sp true n 49 (List.take (Try.prog.cellsOf 49) (List.drop 2 [c0, c1, c2, c3, c4, c5, c6, c7, c8, c9, c10, c11, c12, c13, c14, c15])) = some x2 := hf 2 _ rfl
  rw [hc49] at f2
  simp only [List.drop_zero, List.take_succ_cons, List.take_zero, List.drop_succ_cons] at f2
  have f3 : DataW.trod enc Try.prog w base sp true n 47 (List.take (Try.prog.cellsOf 47) (List.drop 7 [c0, c1, c2, c3, c4, c5, c6, c7, c8, c9, c10, c11, c12, c13, c14, c15])) = some x3 := hf 3 _ rfl
  rw [hc47] at f3
  simp only [List.drop_zero, List.take_succ_cons, List.take_zero, List.drop_succ_cons] at f3
  have f4 : DataW.trod enc Try.prog w base sp true n 2 (List.take (Try.prog.cellsOf 2) (List.drop 8 [c0, c1, c2, c3, c4, c5, c6, c7, c8, c9, c10, c11, c12, c13, c14, c15])) = some x4 := hf 4 _ rfl
  rw [hc2] at f4
  simp only [List.drop_zero, List.take_succ_cons, List.take_zero, List.drop_succ_cons] at f4
  have f5 : DataW.trod enc Try.prog w base sp true n 2 (List.take (Try.prog.cellsOf 2) (List.drop 9 [c0, c1, c2, c3, c4, c5, c6, c7, c8, c9, c10, c11, c12, c13, c14, c15])) = some x5 := hf 5 _ rfl
  rw [hc2] at f5
  simp only [List.drop_zero, List.take_succ_cons, List.take_zero, List.drop_succ_cons] at f5
  have f6 : DataW.trod enc Try.prog w base sp true n 25 (List.take (Try.prog.cellsOf 25) (List.drop 10 [c0, c1, c2, c3, c4, c5, c6, c7, c8, c9, c10, c11, c12, c13, c14, c15])) = some x6 := hf 6 _ rfl
  rw [hc25] at f6
  simp only [List.drop_zero, List.take_succ_cons, List.take_zero, List.drop_succ_cons] at f6
  have f7 : DataW.trod enc Try.prog w base sp true n 25 (List.take (Try.prog.cellsOf 25) (List.drop 11 [c0, c1, c2, c3, c4, c5, c6, c7, c8, c9, c10, c11, c12, c13, c14, c15])) = some x7 := hf 7 _ rfl
  rw [hc25] at f7
  simp only [List.drop_zero, List.take_succ_cons, List.take_zero, List.drop_succ_cons] at f7
  have f8 : DataW.trod enc Try.prog w base sp true n 35 (List.take (Try.prog.cellsOf 35) (List.drop 12 [c0, c1, c2, c3, c4, c5, c6, c7, c8, c9, c10, c11, c12, c13, c14, c15])) = some x8 := hf 8 _ rfl
  rw [hc35] at f8
  simp only [List.drop_zero, List.take_succ_cons, List.take_zero, List.drop_succ_cons] at f8
  have f9 : DataW.trod enc Try.prog w base sp true n 4 (List.take (Try.prog.cellsOf 4) (List.drop 13 [c0, c1, c2, c3, c4, c5, c6, c7, c8, c9, c10, c11, c12, c13, c14, c15])) = some x9 := hf 9 _ rfl
  rw [hc4] at f9
  simp only [List.drop_zero, List.take_succ_cons, List.take_zero, List.drop_succ_cons] at f9
  have f10 : DataW.trod enc Try.prog w base sp true n 50 (List.take (Try.prog.cellsOf 50) (List.drop 14 [c0, c1, c2, c3, c4, c5, c6, c7, c8, c9, c10, c11, c12, c13, c14, c15])) = some x10 := hf 10 _ rfl
  rw [hc50] at f10
  simp only [List.drop_zero, List.take_succ_cons, List.take_zero, List.drop_succ_cons] at f10
  have f11 : DataW.trod enc Try.prog w base sp true n 51 (List.take (Try.prog.cellsOf 51) (List.drop 15 [c0, c1, c2, c3, c4, c5, c6, c7, c8, c9, c10, c11, c12, c13, c14, c15])) = some x11 := hf 11 _ rfl
  rw [hc51] at f11
  simp only [List.drop_zero, List.take_succ_cons, List.take_zero, List.drop_succ_cons] at f11
  clear hf h hlen hxl
  have hbl : ∀ i (hi : i < [x0, x1, x2, x3, x4, x5, x6, x7, x8, x9, x10, x11].length), ∀ q ∈ ([x0, x1, x2, x3, x4, x5, x6, x7, x8, x9, x10, x11][i]).2, q.block < B := fun i hi q hq => hB q (List.mem_flatMap.2 ⟨_, List.getElem_mem hi, hq⟩)
  have hw : ∀ (i : Nat) (t : TypeId) (d : DataW H), [44, 45, 49, 47, 2, 2, 25, 25, 35, 4, 50, 51][i]? = some t → ([x0, x1, x2, x3, x4, x5, x6, x7, x8, x9, x10, x11].map (·.1))[i]? = some d → ∀ q ∈ d.weights Try.prog t, q ≤ 140737488351232 := fun i t d ht hd q hq => hW q (by
    unfold DataW.weights
    simp only [Try.underlying53]
    exact DataW.weights_mem_each ht hd q hq)
  obtain ⟨k0, e0, _, hk0⟩ := DataW.trod_int Try.underlying44 f0
  have u0 := u8_wf hk0
  obtain ⟨k1, e1, _, _⟩ := DataW.trod_int Try.underlying45 f1
  obtain ⟨d0, d1, d2, d3, d4, E2, e2, hE2⟩ := open_va n _ _ f2 (hbl 2 (by simp)) (hw 2 49 x2.1 rfl rfl)
  obtain ⟨A3, l3, g3, L3, e3, hL3⟩ := open_vals n _ _ f3 (hbl 3 (by simp)) (hw 3 47 x3.1 rfl rfl)
  obtain ⟨k4, e4, _, _⟩ := DataW.trod_int Try.underlying2 f4
  obtain ⟨k5, e5, _, _⟩ := DataW.trod_int Try.underlying2 f5
  obtain ⟨k6, e6, _, _⟩ := DataW.trod_int Try.underlying25 f6
  obtain ⟨k7, e7, _, _⟩ := DataW.trod_int Try.underlying25 f7
  obtain ⟨k8, e8, _, hk8⟩ := DataW.trod_int Try.underlying35 f8
  have u8 := u8_wf hk8
  obtain ⟨k9, e9, _⟩ := DataW.trod_bool Try.underlying4 f9
  obtain ⟨A10, l10, g10, L10, e10, _, hL10⟩ := open_code n _ _ f10 (hbl 10 (by simp)) (hw 10 50 x10.1 rfl rfl)
  obtain ⟨A11, l11, g11, L11, e11, hL11⟩ := open_nms n _ _ f11 (hbl 11 (by simp)) (hw 11 51 x11.1 rfl rfl)
  simp only [List.cons.injEq, and_true] at e0 e1 e2 e4 e5 e6 e7 e8 e9
  obtain ⟨rfl, rfl, rfl, rfl, rfl⟩ := e2
  subst e0 e1 e3 e4 e5 e6 e7 e8 e9 e10 e11
  obtain ⟨k', n', s', A', len', cap', r', hsh⟩ := hE2.shape
  simp only [Value.agg.injEq, Array.mk.injEq, List.cons.injEq, and_true] at hsh
  obtain ⟨rfl, rfl, rfl, rfl, rfl⟩ := hsh
  obtain ⟨m8, rfl⟩ : ∃ m : Nat, k8 = m := ⟨k8.toNat, by omega⟩
  exact ⟨⟨k0, k1, k', n', s', A', len', cap', r', A3, l3, g3, k4, k5, k6, k7, m8, k9, A10, l10, g10, A11, l11, g11⟩, ⟨E2, L3, L10, L11⟩, rfl, ⟨u0.1, u0.2, by show m8 < 256; omega⟩, hE2, hL3, hL10, hL11⟩
/-- An entry. -/
theorem open_ent {H : Type} {enc : TypeId × Value → H} {w : World} {base B : Nat} {sp : Nat → Bool} (fuel : Nat) (cs : List Value) (x : DataW H × List MemPlace) (h : DataW.trod enc Try.prog w base sp true fuel 56 cs = some x) (hB : ∀ q ∈ x.2, q.block < B) (hW : ∀ q ∈ x.1.weights Try.prog 56, q ≤ 140737488351232) :
    ∃ y : Int × WV × Pt, cs = .int .i64 y.1 :: y.2.1.arr.toList ∧ IsWh w (fun b _ => b < B) y.2.1 y.2.2 := by
  obtain ⟨xs, n, rfl, rfl, hlen, hxl, hf⟩ := DataW.trod_struct Try.underlying56 h
  rw [hc56] at hlen
  obtain ⟨c0, c1, c2, c3, c4, c5, c6, c7, c8, c9, c10, c11, c12, c13, c14, c15, c16, rfl⟩ := seventeenc_of hlen
  obtain ⟨x0, x1, rfl⟩ := two_of hxl
  have f0 : DataW.trod enc Try.prog w base sp true n 25 (List.take (Try.prog.cellsOf 25) (List.drop 0 [c0, c1, c2, c3, c4, c5, c6, c7, c8, c9, c10, c11, c12, c13, c14, c15, c16])) = some x0 := hf 0 _ rfl
  rw [hc25] at f0
  simp only [List.drop_zero, List.take_succ_cons, List.take_zero] at f0
  have f1 : DataW.trod enc Try.prog w base sp true n 53 (List.take (Try.prog.cellsOf 53) (List.drop 1 [c0, c1, c2, c3, c4, c5, c6, c7, c8, c9, c10, c11, c12, c13, c14, c15, c16])) = some x1 := hf 1 _ rfl
  rw [hc53] at f1
  simp only [List.drop_zero, List.take_succ_cons, List.take_zero, List.drop_succ_cons] at f1
  clear hf h hlen hxl
  have hbl : ∀ i (hi : i < [x0, x1].length), ∀ q ∈ ([x0, x1][i]).2, q.block < B := fun i hi q hq => hB q (List.mem_flatMap.2 ⟨_, List.getElem_mem hi, hq⟩)
  have hw : ∀ (i : Nat) (t : TypeId) (d : DataW H), [25, 53][i]? = some t → ([x0, x1].map (·.1))[i]? = some d → ∀ q ∈ d.weights Try.prog t, q ≤ 140737488351232 := fun i t d ht hd q hq => hW q (by
    unfold DataW.weights
    simp only [Try.underlying56]
    exact DataW.weights_mem_each ht hd q hq)
  obtain ⟨k0, e0, _, _⟩ := DataW.trod_int Try.underlying25 f0
  obtain ⟨s, y, e1, hy⟩ := open_what n _ _ f1 (hbl 1 (by simp)) (hw 1 53 x1.1 rfl rfl)
  simp only [List.cons.injEq, and_true] at e0
  subst e0
  exact ⟨(k0, s, y), by rw [← e1], hy⟩
/-- A world. -/
theorem open_world {H : Type} {enc : TypeId × Value → H} {w : World} {base B : Nat} {sp : Nat → Bool} (fuel : Nat) (cs : List Value) (x : DataW H × List MemPlace) (h : DataW.trod enc Try.prog w base sp true fuel 27 cs = some x) (hB : ∀ q ∈ x.2, q.block < B) (hBw : B ≤ w.heap.size) (hW : ∀ q ∈ x.1.weights Try.prog 27, q ≤ 140737488351232) :
    ∃ (c0 c1 c2 c4 : Value) (last : Int) (ps ks ms : List Int) (ts : List (Int × WV × Pt)), cs = [c0, c1, c2, .int .i64 last, c4] ∧ WorldA w c0 c1 c2 c4 ps ks ms ts := by
  obtain ⟨xs, n, rfl, rfl, hlen, hxl, hf⟩ := DataW.trod_struct Try.underlying27 h
  rw [hc27] at hlen
  obtain ⟨c0, c1, c2, c3, c4, rfl⟩ := fivec_of hlen
  obtain ⟨x0, x1, x2, x3, x4, rfl⟩ := fivec_of hxl
  have f0 : DataW.trod enc Try.prog w base sp true n 22 (List.take (Try.prog.cellsOf 22) (List.drop 0 [c0, c1, c2, c3, c4])) = some x0 := hf 0 _ rfl
  rw [hc22] at f0
  simp only [List.drop_zero, List.take_succ_cons, List.take_zero] at f0
  have f1 : DataW.trod enc Try.prog w base sp true n 23 (List.take (Try.prog.cellsOf 23) (List.drop 1 [c0, c1, c2, c3, c4])) = some x1 := hf 1 _ rfl
  rw [hc23] at f1
  simp only [List.drop_zero, List.take_succ_cons, List.take_zero, List.drop_succ_cons] at f1
  have f2 : DataW.trod enc Try.prog w base sp true n 24 (List.take (Try.prog.cellsOf 24) (List.drop 2 [c0, c1, c2, c3, c4])) = some x2 := hf 2 _ rfl
  rw [hc24] at f2
  simp only [List.drop_zero, List.take_succ_cons, List.take_zero, List.drop_succ_cons] at f2
  have f3 : DataW.trod enc Try.prog w base sp true n 25 (List.take (Try.prog.cellsOf 25) (List.drop 3 [c0, c1, c2, c3, c4])) = some x3 := hf 3 _ rfl
  rw [hc25] at f3
  simp only [List.drop_zero, List.take_succ_cons, List.take_zero, List.drop_succ_cons] at f3
  have f4 : DataW.trod enc Try.prog w base sp true n 23 (List.take (Try.prog.cellsOf 23) (List.drop 4 [c0, c1, c2, c3, c4])) = some x4 := hf 4 _ rfl
  rw [hc23] at f4
  simp only [List.drop_zero, List.take_succ_cons, List.take_zero, List.drop_succ_cons] at f4
  clear hf h hlen hxl
  have hbl : ∀ i (hi : i < [x0, x1, x2, x3, x4].length), ∀ q ∈ ([x0, x1, x2, x3, x4][i]).2, q.block < B := fun i hi q hq => hB q (List.mem_flatMap.2 ⟨_, List.getElem_mem hi, hq⟩)
  have hw : ∀ (i : Nat) (t : TypeId) (d : DataW H), [22, 23, 24, 25, 23][i]? = some t → ([x0, x1, x2, x3, x4].map (·.1))[i]? = some d → ∀ q ∈ d.weights Try.prog t, q ≤ 140737488351232 := fun i t d ht hd q hq => hW q (by
    unfold DataW.weights
    simp only [Try.underlying27]
    exact DataW.weights_mem_each ht hd q hq)
  obtain ⟨ps, hps⟩ := open_rowi Try.underlying22 Try.underlying45 hc45 hby45 _ _ f0 (hbl 0 (by simp)) hBw (hw 0 22 x0.1 rfl rfl)
  obtain ⟨ks, hks⟩ := open_rowi Try.underlying23 Try.underlying3 hc3 hby3 _ _ f1 (hbl 1 (by simp)) hBw (hw 1 23 x1.1 rfl rfl)
  obtain ⟨ms, hms⟩ := open_rowi Try.underlying23 Try.underlying3 hc3 hby3 _ _ f4 (hbl 4 (by simp)) hBw (hw 4 23 x4.1 rfl rfl)
  obtain ⟨k3, e3, _, _⟩ := DataW.trod_int Try.underlying25 f3
  simp only [List.cons.injEq, and_true] at e3
  subst e3
  obtain ⟨A, len, cap, l, rfl, _, rfl, g2, g3, g4⟩ := open_elems (p := fun b o (y : Int × WV × Pt) => At w b o (.int .i64 y.1 :: y.2.1.arr.toList) ∧ IsWh w (fun b _ => b < B) y.2.1 y.2.2) Try.underlying24 hc56 (by omega) hby56 (fun m cs x hm hx hxB hxW => by
    obtain ⟨y, rfl, hy⟩ := open_ent m cs x hx hxB hxW
    exact ⟨y, fun b o hcell => ⟨hcell, hy⟩⟩) _ _ f2 (hbl 2 (by simp)) (hw 2 24 x2.1 rfl rfl)
  refine ⟨_, _, _, _, k3, ps, ks, ms, l, rfl, hps, hks, hms, A, cap, rfl, g2, g3, fun j hj => ?_⟩
  obtain ⟨b, o, hb, hA, hp⟩ := g4 (by rintro rfl; simp at hj)
  exact ⟨b, o, hA, Nat.lt_of_lt_of_le hb hBw, (hp j hj).1, (hp j hj).2.mono fun b o hb => Nat.lt_of_lt_of_le hb hBw⟩
/-- A slice of bytes. -/
theorem open_sets {H : Type} {enc : TypeId × Value → H} {w : World} {base B : Nat} {sp : Nat → Bool} (fuel : Nat) (c : Value) (x : DataW H × List MemPlace) (h : DataW.trod enc Try.prog w base sp true fuel 28 [c] = some x) (hB : ∀ q ∈ x.2, q.block < B) (hW : ∀ q ∈ x.1.weights Try.prog 28, q ≤ 140737488351232) : ∃ xs : List Nat, IsU8 w c xs := by
  obtain ⟨A, len, cap, l, rfl, hn, rfl, g2, g3, g4⟩ := open_elems (p := fun b o (n : Nat) => n < 256 ∧ w.cell? ⟨b, o, Option.none⟩ = some (.int .u8 n)) Try.underlying28 hc35 (by omega) hby35 (fun m cs x hm hx hxB hxW => by
    obtain ⟨k, rfl, _, hk⟩ := DataW.trod_int Try.underlying35 hx
    have u := u8_wf hk
    obtain ⟨m, rfl⟩ : ∃ m : Nat, k = m := ⟨k.toNat, by omega⟩
    exact ⟨m, fun b o hcell => ⟨by omega, by have := hcell 0 _ rfl; simpa using this⟩⟩) c x h hB hW
  refine ⟨l, fun x hx => ?_, by omega, ?_⟩
  · obtain ⟨i, hi, rfl⟩ := List.getElem_of_mem hx
    obtain ⟨b, o, _, _, hp⟩ := g4 (by rintro rfl; simp at hi)
    exact (hp i hi).1
  · by_cases hl : l = []
    · subst hl
      exact .inl ⟨rfl, A, cap, rfl, hn⟩
    · obtain ⟨b, o, hb, rfl, hp⟩ := g4 hl
      refine .inr ⟨b, o, cap, rfl, fun j hj => ?_⟩
      have h5 := (hp j hj).2
      rw [Nat.mul_one] at h5
      rw [List.getD_eq_getElem?_getD, List.getElem?_eq_getElem hj]
      exact h5
end Go.Proofs.Ythafojadcodkoaa
