/- Slices cloned: of statements, of expressions. -/
import Derived.Test.YtnknefdpglnbnaaDa
import Derived.WalkSpells
namespace Go.Proofs.Ytnknefdpglnbnaa
open Go.RowKit

theorem rows_cells {α : Type} {D : Rd α} {sz : Nat} {w : World} {R : Nat → Nat → Prop} {b : Nat} : ∀ (l : List α) (o : Nat), (∀ (i : Nat) (hi : i < l.length), ∃ cs : List Value, cs.length = sz ∧ At w b (o + i * sz) cs ∧ (∀ u ∈ cs, u.oneCell' = true) ∧ D.P w R cs l[i]) →
    ∃ xs : List Value, xs.length = l.length * sz ∧ (∀ q u, xs[q]? = some u → w.cell? ⟨b, o + q, Option.none⟩ = some u) ∧ (∀ u ∈ xs, u.oneCell' = true) ∧ ∀ (i : Nat) (hi : i < l.length), ∃ cs : List Value, cs.length = sz ∧ (∀ q u, cs[q]? = some u → xs[i * sz + q]? = some u) ∧ D.P w R cs l[i]
  | [], o, _ => ⟨[], by simp, fun q u h => by simp at h, by simp, fun i hi => absurd hi (by simp)⟩
  | x :: l, o, h => by
    obtain ⟨cs, h1, h2, h3, h4⟩ := h 0 (by simp)
    rw [Nat.zero_mul, Nat.add_zero] at h2
    obtain ⟨xs, e1, e2, e3, e4⟩ := rows_cells (D := D) (R := R) l (o + sz) (fun i hi => by
      have := h (i + 1) (by simpa using hi)
      rw [show o + (i + 1) * sz = o + sz + i * sz by rw [Nat.add_mul]; omega] at this
      exact this)
    refine ⟨cs ++ xs, by rw [List.length_append, h1, e1, List.length_cons, Nat.add_mul]; omega, fun q u hu => ?_, fun u hu => ?_, fun i hi => ?_⟩
    · by_cases hq : q < sz
      · rw [List.getElem?_append_left (by omega)] at hu
        exact h2 q u hu
      · rw [List.getElem?_append_right (by omega)] at hu
        have := e2 _ u hu
        rwa [show o + sz + (q - cs.length) = o + q by omega] at this
    · rcases List.mem_append.1 hu with hu | hu
      · exact h3 u hu
      · exact e3 u hu
    · cases i with
      | zero => exact ⟨cs, h1, fun q u hu => by
          have hq : q < cs.length := (List.getElem?_eq_some_iff.1 hu).1
          rw [Nat.zero_mul, Nat.zero_add, List.getElem?_append_left hq]; exact hu, h4⟩
      | succ i =>
        obtain ⟨ds, g1, g2, g3⟩ := e4 i (by simpa using hi)
        refine ⟨ds, g1, fun q u hu => ?_, g3⟩
        have := g2 q u hu
        rw [List.getElem?_append_right (by rw [Nat.add_mul]; omega), show (i + 1) * sz + q - cs.length = i * sz + q by rw [Nat.add_mul]; omega]
        exact this
theorem ex_one {w : World} {R : Nat → Nat → Prop} {c0 c1 c2 c3 : Value} {x : Ex} (h : IsExR w R (.agg #[c0, c1, c2, c3]) x) : ∀ u ∈ [c0, c1, c2, c3], u.oneCell' = true := by
  obtain ⟨k, n, s, A, len, cap, rfl, rfl, rfl, rfl⟩ := h.cells
  intro u hu
  simp only [List.mem_cons, List.not_mem_nil, or_false] at hu
  rcases hu with rfl | rfl | rfl | rfl <;> rfl
set_option maxRecDepth 100000 in
set_option maxHeartbeats 1000000 in
theorem Clone127_any (l : List St) (A : Option Addr) (cap : Nat) (w : World) (B : Nat) (hB : B ≤ w.heap.size) (hlen : l.length * 256 ≤ 140737488351232) (hcap : l.length ≤ cap) (h7 : l ≠ [] → ∃ b o, b < B ∧ A = some ⟨b, o, Option.none⟩ ∧ IsSts w B b o l) :
    Calls Try.prog 127 #[.slice A l.length cap] w fun e w' => ∃ v', e = .returned v' ∧ NRg 58 17 w' w.heap.size v' l.length (fun i cs => ∃ hi : i < l.length, RdS.P w' (fun b _ => b < B) cs l[i]) ∧ Below w.heap.size w w' := by
  obtain ⟨i0, hi, hz0, hz1, hz2⟩ := info_parts info58
  have HIN := Lib.hid hi
  clear hi
  cases A with
  | none =>
    have hl0 : l = [] := by
      cases l with
      | nil => rfl
      | cons x l => obtain ⟨_, _, _, hA, _⟩ := h7 (by simp); cases hA
    subst hl0
    have heq := fun w => Lib.run_eql_slice_nil (P := Try.prog) w 42 58 Option.none 0 cap 0 0 Try.underlying42
    go_enter Try.func127, Try.ntmps127
    go_wp2_with fail
    go_ret
    exact ⟨_, rfl, ⟨[], World.ownsRow_nil _ _ _ _, fun i hi => by simp at hi⟩, Below.refl _ _⟩
  | some ad =>
    have heq := fun w => Lib.run_eql_slice_nil (P := Try.prog) w 42 58 (some ad) l.length cap 0 0 Try.underlying42
    obtain ⟨xs, e1, e2, e3, e4⟩ : ∃ xs : List Value, xs.length = l.length * 17 ∧ (∀ q u, xs[q]? = some u → w.cell? (ad.add q) = some u) ∧ (∀ u ∈ xs, u.oneCell' = true) ∧ ∀ (i : Nat) (hi : i < l.length), ∃ cs : List Value, cs.length = 17 ∧ (∀ q u, cs[q]? = some u → xs[i * 17 + q]? = some u) ∧ RdS.P w (fun b _ => b < B) cs l[i] := by
      by_cases hl0 : l = []
      · subst hl0
        exact ⟨[], rfl, fun q u h => by simp at h, by simp, fun i hi => absurd hi (by simp)⟩
      · obtain ⟨b, o, hb, hA, hx⟩ := h7 hl0
        cases hA
        obtain ⟨xs, g1, g2, g3, g4⟩ := rows_cells (D := RdS) (R := fun b _ => b < B) l o (fun i hi => by
          obtain ⟨s, h1, h2⟩ := hx.at i hi; exact ⟨s.arr.toList, rfl, h1, s.one, s, rfl, h2⟩)
        exact ⟨xs, g1, fun q u hu => by
          rw [show (⟨b, o, Option.none⟩ : Addr).add q = ⟨b, o + q, Option.none⟩ from by unfold Addr.add; split <;> simp_all]
          exact g2 q u hu, g3, g4⟩
    have E2 := Lib.hid e2
    have E3 := Lib.hid e3
    have E4 := Lib.hid e4
    have E1 := Lib.hid e1
    have hba : Below w.heap.size w (w.alloc (.cells #[] 58)) := (Below.refl _ _).alloc (Nat.le_refl _) _
    have HBA := Lib.hid hba
    have hown : (w.alloc (.cells #[] 58)).ownsRow w.heap.size 58 17 (.slice (some ⟨w.heap.size, 0, Option.none⟩) 0 0) 0 [] := ⟨rfl, .inr ⟨w.heap.size, 0, #[], rfl, Nat.le_refl _, (BlkN.at_ (w := w) rfl 58 #[]), Nat.le_refl _, by unfold maxLen; omega, rfl, rfl⟩⟩
    have HOWN := Lib.hid hown
    clear e1 e2 e3 e4 hba hown h7
    go_enter Try.func127, Try.ntmps127
    go_wp2_with (refine wpList_append_row _ rfl (.tmp 5) (.tmp 6) 42 rfl w.heap.size 58 i0 _ 17 256 Try.underlying42 HIN.out hz0 hz1 hz2 rfl (by decide) (.slice (some ⟨w.heap.size, 0, Option.none⟩) 0 0) 0 [] rfl HOWN.out ad l.length cap xs rfl E1.out ?hy2 E3.out ?hy4 ?hy5 ?hy6 ?_)
    case hy2 =>
      intro j u hu
      have h1 := E2.out j u hu
      exact (HBA.out.cell (p := ad.add j) (block_lt_of_cell h1)).trans h1
    case hy4 => unfold maxLen; omega
    case hy5 => omega
    case hy6 => simp
    intro v' w3 hown' hgrow hor
    have hb3 : Below w.heap.size w w3 := HBA.out.grown hgrow (by simp) (fun g hg => by simp [Value.ownBlock] at hg; omega)
    have HB3 := Lib.hid hb3
    have HO := Lib.hid hown'
    clear hown' hgrow hor hb3
    go_wp2_with fail
    go_ret
    refine ⟨_, rfl, ⟨xs, by simpa using HO.out, fun i hi => ?_⟩, HB3.out⟩
    obtain ⟨cs, g1, g2, g3⟩ := E4.out i hi
    exact ⟨cs, g1, g2, hi, RdS.keep (fun b o hb => HB3.out.block b (by omega)) g3⟩
set_option maxRecDepth 100000 in
set_option maxHeartbeats 1000000 in
theorem Clone149_any (l : List Ex) (A : Option Addr) (cap : Nat) (w : World) (B : Nat) (hB : B ≤ w.heap.size) (hlen : l.length * 56 ≤ 140737488351232) (hcap : l.length ≤ cap) (h7 : l ≠ [] → ∃ b o, b < B ∧ A = some ⟨b, o, Option.none⟩ ∧ IsExs w B b o l) :
    Calls Try.prog 149 #[.slice A l.length cap] w fun e w' => ∃ v', e = .returned v' ∧ NRg 26 4 w' w.heap.size v' l.length (fun i cs => ∃ hi : i < l.length, RdE.P w' (fun b _ => b < B) cs l[i]) ∧ Below w.heap.size w w' := by
  obtain ⟨i0, hi, hz0, hz1, hz2⟩ := info_parts info26
  have HIN := Lib.hid hi
  clear hi
  cases A with
  | none =>
    have hl0 : l = [] := by
      cases l with
      | nil => rfl
      | cons x l => obtain ⟨_, _, _, hA, _⟩ := h7 (by simp); cases hA
    subst hl0
    have heq := fun w => Lib.run_eql_slice_nil (P := Try.prog) w 24 26 Option.none 0 cap 0 0 Try.underlying24
    go_enter Try.func149, Try.ntmps149
    go_wp2_with fail
    go_ret
    exact ⟨_, rfl, ⟨[], World.ownsRow_nil _ _ _ _, fun i hi => by simp at hi⟩, Below.refl _ _⟩
  | some ad =>
    have heq := fun w => Lib.run_eql_slice_nil (P := Try.prog) w 24 26 (some ad) l.length cap 0 0 Try.underlying24
    obtain ⟨xs, e1, e2, e3, e4⟩ : ∃ xs : List Value, xs.length = l.length * 4 ∧ (∀ q u, xs[q]? = some u → w.cell? (ad.add q) = some u) ∧ (∀ u ∈ xs, u.oneCell' = true) ∧ ∀ (i : Nat) (hi : i < l.length), ∃ cs : List Value, cs.length = 4 ∧ (∀ q u, cs[q]? = some u → xs[i * 4 + q]? = some u) ∧ RdE.P w (fun b _ => b < B) cs l[i] := by
      by_cases hl0 : l = []
      · subst hl0
        exact ⟨[], rfl, fun q u h => by simp at h, by simp, fun i hi => absurd hi (by simp)⟩
      · obtain ⟨b, o, hb, hA, hx⟩ := h7 hl0
        cases hA
        obtain ⟨xs, g1, g2, g3, g4⟩ := rows_cells (D := RdE) (R := fun b _ => b < B) l o (fun i hi => by
          obtain ⟨c0, c1, c2, c3, h1, h2⟩ := hx.at i hi; exact ⟨[c0, c1, c2, c3], rfl, h1, ex_one h2, c0, c1, c2, c3, rfl, h2⟩)
        exact ⟨xs, g1, fun q u hu => by
          rw [show (⟨b, o, Option.none⟩ : Addr).add q = ⟨b, o + q, Option.none⟩ from by unfold Addr.add; split <;> simp_all]
          exact g2 q u hu, g3, g4⟩
    have E2 := Lib.hid e2
    have E3 := Lib.hid e3
    have E4 := Lib.hid e4
    have E1 := Lib.hid e1
    have hba : Below w.heap.size w (w.alloc (.cells #[] 26)) := (Below.refl _ _).alloc (Nat.le_refl _) _
    have HBA := Lib.hid hba
    have hown : (w.alloc (.cells #[] 26)).ownsRow w.heap.size 26 4 (.slice (some ⟨w.heap.size, 0, Option.none⟩) 0 0) 0 [] := ⟨rfl, .inr ⟨w.heap.size, 0, #[], rfl, Nat.le_refl _, (BlkN.at_ (w := w) rfl 26 #[]), Nat.le_refl _, by unfold maxLen; omega, rfl, rfl⟩⟩
    have HOWN := Lib.hid hown
    clear e1 e2 e3 e4 hba hown h7
    go_enter Try.func149, Try.ntmps149
    go_wp2_with (refine wpList_append_row _ rfl (.tmp 5) (.tmp 6) 24 rfl w.heap.size 26 i0 _ 4 56 Try.underlying24 HIN.out hz0 hz1 hz2 rfl (by decide) (.slice (some ⟨w.heap.size, 0, Option.none⟩) 0 0) 0 [] rfl HOWN.out ad l.length cap xs rfl E1.out ?hy2 E3.out ?hy4 ?hy5 ?hy6 ?_)
    case hy2 =>
      intro j u hu
      have h1 := E2.out j u hu
      exact (HBA.out.cell (p := ad.add j) (block_lt_of_cell h1)).trans h1
    case hy4 => unfold maxLen; omega
    case hy5 => omega
    case hy6 => simp
    intro v' w3 hown' hgrow hor
    have hb3 : Below w.heap.size w w3 := HBA.out.grown hgrow (by simp) (fun g hg => by simp [Value.ownBlock] at hg; omega)
    have HB3 := Lib.hid hb3
    have HO := Lib.hid hown'
    clear hown' hgrow hor hb3
    go_wp2_with fail
    go_ret
    refine ⟨_, rfl, ⟨xs, by simpa using HO.out, fun i hi => ?_⟩, HB3.out⟩
    obtain ⟨cs, g1, g2, g3⟩ := E4.out i hi
    exact ⟨cs, g1, g2, hi, RdE.keep (fun b o hb => HB3.out.block b (by omega)) g3⟩
end Go.Proofs.Ytnknefdpglnbnaa
