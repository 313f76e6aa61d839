/- Rows of the call's own, of whose elements something holds; an element stored in place. -/
import Derived.Test.YtnknefdpglnbnaaCp
namespace Go.Proofs.Ytnknefdpglnbnaa
open Go.RowKit

/-- v is a row of n elements of the call's own, of whose cells P holds. -/
def NRg (E : TypeId) (sz : Nat) (w : World) (lo : Nat) (v : Value) (n : Nat) (P : Nat → List Value → Prop) : Prop :=
  ∃ xs, w.ownsRow lo E sz v n xs ∧ ∀ i, i < n → ∃ cs : List Value, cs.length = sz ∧ (∀ q u, cs[q]? = some u → xs[i * sz + q]? = some u) ∧ P i cs
section
variable {E : TypeId} {sz : Nat} {w w' : World} {lo : Nat} {v : Value} {n : Nat} {P Q : Nat → List Value → Prop}
theorem NRg.imp (h : NRg E sz w lo v n P) (k : ∀ i cs, i < n → P i cs → Q i cs) : NRg E sz w lo v n Q := by
  obtain ⟨xs, h1, h2⟩ := h
  exact ⟨xs, h1, fun i hi => by obtain ⟨cs, g1, g2, g3⟩ := h2 i hi; exact ⟨cs, g1, g2, k i cs hi g3⟩⟩
theorem NRg.below (h : NRg E sz w lo v n P) (hb : Below w.heap.size w w') : NRg E sz w' lo v n P := by
  obtain ⟨xs, h1, h2⟩ := h
  exact ⟨xs, own_below h1 hb, h2⟩
theorem NRg.upd {p : Nat} (h : NRg E sz w lo v n P) (hu : Upd p w w') (hp : p < lo) : NRg E sz w' lo v n P := by
  obtain ⟨xs, h1, h2⟩ := h
  exact ⟨xs, own_upd h1 hu hp, h2⟩
theorem NRg.open (h : NRg E sz w lo v n P) (hn : 0 < n) :
    ∃ g cap cur, v = .slice (some ⟨g, 0, Option.none⟩) n cap ∧ lo ≤ g ∧ BlkN w g E cur ∧ n ≤ cap ∧ cur.size = cap * sz ∧ ∀ i, i < n → ∃ cs : List Value, cs.length = sz ∧ At w g (i * sz) cs ∧ P i cs := by
  obtain ⟨xs, h1, h2⟩ := h
  have hc := fun g hg => h1.cells (g := g) hg
  rcases h1.2 with ⟨_, h0⟩ | ⟨g, cap, cur, rfl, hb, hg, hcap, _, hcs, _⟩
  · omega
  · refine ⟨g, cap, cur, rfl, hb, hg, hcap, hcs, fun i hi => ?_⟩
    obtain ⟨cs, g1, g2, g3⟩ := h2 i hi
    refine ⟨cs, g1, fun q u hu => ?_, g3⟩
    have := hc g rfl (i * sz + q) u (g2 q u hu)
    rw [add_lit] at this
    exact this
theorem NRg.val (h : NRg E sz w lo v n P) : ∃ A cap, v = .slice A n cap ∧ n ≤ cap := by
  obtain ⟨xs, h1, _⟩ := h
  rcases h1.2 with ⟨rfl, h0⟩ | ⟨g, cap, cur, rfl, _, _, hcap, _⟩
  · exact ⟨Option.none, 0, by rw [h0], by omega⟩
  · exact ⟨_, cap, rfl, hcap⟩
/-- An element of the row, stored whole. -/
theorem NRg.store {g cap : Nat} {cur nw : Array Value} {cs : List Value} (h : NRg E sz w lo (.slice (some ⟨g, 0, Option.none⟩) n cap) n P) (i : Nat) (hi : i < n) (hl : cs.length = sz) (hB : BlkN w g E cur) (hB' : BlkN w' g E nw)
    (hnw : cur.toList.take (i * sz) ++ cs ++ cur.toList.drop (i * sz + cs.length) = nw.toList) (hQ : ∀ j ds, j ≠ i → j < n → P j ds → Q j ds) (hi' : Q i cs) : NRg E sz w' lo (.slice (some ⟨g, 0, Option.none⟩) n cap) n Q := by
  obtain ⟨xs, h1, h2⟩ := h
  rcases h1.2 with ⟨hv, _⟩ | ⟨g', cap', cur', hv, hb, hg, hcap, hcm, hcs, htake⟩
  · cases hv
  · simp only [Value.slice.injEq, Option.some.injEq, Addr.mk.injEq, and_true] at hv
    obtain ⟨rfl, _, rfl⟩ := hv
    have hcc : cur' = cur := by
      have h3 : BlkN w g E cur' := hg
      unfold BlkN at h3 hB
      rw [hB] at h3
      cases h3
      rfl
    subst hcc
    have hn : n * sz ≤ cur'.size := by rw [hcs]; exact Nat.mul_le_mul_right sz hcap
    have hin : i * sz + sz ≤ n * sz := by
      have : (i + 1) * sz ≤ n * sz := Nat.mul_le_mul_right sz hi
      rw [Nat.add_mul, Nat.one_mul] at this
      exact this
    have hsz : nw.size = cur'.size := by
      rw [← Array.length_toList, ← hnw]
      simp
      omega
    refine ⟨nw.toList.take (n * sz), ⟨by simp; omega, .inr ⟨g, cap, nw, rfl, hb, hB', hcap, hcm, by rw [hsz, hcs], rfl⟩⟩, fun j hj => ?_⟩
    have hjn : j * sz + sz ≤ n * sz := by
      have : (j + 1) * sz ≤ n * sz := Nat.mul_le_mul_right sz hj
      rw [Nat.add_mul, Nat.one_mul] at this
      exact this
    obtain ⟨ds, g1, g2, g3⟩ := h2 j hj
    by_cases e : j = i
    · subst e
      refine ⟨cs, hl, fun q u hu => ?_, hi'⟩
      have hq : q < cs.length := (List.getElem?_eq_some_iff.1 hu).1
      rw [List.getElem?_take, if_pos (by omega), ← hnw, List.append_assoc, List.getElem?_append_right (by simp; omega), List.getElem?_append_left (by simp; omega)]
      have : j * sz + q - (cur'.toList.take (j * sz)).length = q := by simp; omega
      rw [this]
      exact hu
    · refine ⟨ds, g1, fun q u hu => ?_, hQ j ds e hj g3⟩
      have hq : q < sz := by have := (List.getElem?_eq_some_iff.1 hu).1; omega
      have h0 := g2 q u hu
      rw [← htake, List.getElem?_take, if_pos (by omega)] at h0
      rw [List.getElem?_take, if_pos (by omega), ← hnw]
      by_cases hlt : j < i
      · have hji : j * sz + sz ≤ i * sz := by
          have : (j + 1) * sz ≤ i * sz := Nat.mul_le_mul_right sz hlt
          rw [Nat.add_mul, Nat.one_mul] at this
          exact this
        rw [List.append_assoc, List.getElem?_append_left (by simp; omega), List.getElem?_take, if_pos (by omega)]
        exact h0
      · have hji : i * sz + sz ≤ j * sz := by
          have : (i + 1) * sz ≤ j * sz := Nat.mul_le_mul_right sz (by omega)
          rw [Nat.add_mul, Nat.one_mul] at this
          exact this
        rw [List.getElem?_append_right (by simp; omega), List.getElem?_drop]
        have : i * sz + cs.length + (j * sz + q - (cur'.toList.take (i * sz) ++ cs).length) = j * sz + q := by simp; omega
        rw [this]
        exact h0
end
end Go.Proofs.Ytnknefdpglnbnaa
