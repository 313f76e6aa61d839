/- CodeUses, the plain law: the document's sorted names are the program's. -/
import Derived.Test.YtnknefdpglnbnaaXm
namespace Go.Proofs.Ytnknefdpglnbnaa
open Go Go.RowKit Go.Maps Go.Sort

abbrev txt (s : ByteArray) : List UInt8 := s.data.toList
theorem lessB_eq (x y : ByteArray) : lessB x y = decide (txt x < txt y) := by
  unfold lessB
  rw [bytesLess_eq, ByteArray.toList_eq, ByteArray.toList_eq]
theorem lt_of_not {a b : List UInt8} (h : ¬ a < b) (h2 : a ≠ b) : b < a := by
  rcases List.le_total a b with h3 | h3
  · exact absurd (List.le_antisymm h3 (List.not_lt.1 h)) h2
  · exact Decidable.byContradiction fun h4 => h2 (List.le_antisymm (List.not_lt.1 h4) h3)
/-- Strictly rising. -/
def Rising (o : List ByteArray) : Prop := o.Pairwise fun a b => txt a < txt b
theorem insU_mem (o : List ByteArray) (x : ByteArray) (y : List UInt8) : (∃ s ∈ insU o x, txt s = y) ↔ (∃ s ∈ o, txt s = y) ∨ txt x = y := by
  unfold insU
  split
  · rename_i h
    have hx : ∃ s ∈ o, txt s = txt x := by
      cases he : o[posU x o]? with
      | none => rw [he] at h; simp at h
      | some s =>
        rw [he] at h
        simp only [Option.map_some, Option.some.injEq, beq_iff_eq, ByteArray.toList_eq] at h
        exact ⟨s, List.mem_of_getElem? he, h⟩
    constructor
    · exact .inl
    · rintro (h1 | h1)
      · exact h1
      · obtain ⟨s, hs, he⟩ := hx
        exact ⟨s, hs, he.trans h1⟩
  · constructor
    · rintro ⟨s, hs, he⟩
      rw [List.mem_append, List.mem_cons] at hs
      rcases hs with hs | rfl | hs
      · exact .inl ⟨s, List.mem_of_mem_take hs, he⟩
      · exact .inr he
      · exact .inl ⟨s, List.mem_of_mem_drop hs, he⟩
    · rintro (⟨s, hs, he⟩ | h1)
      · refine ⟨s, ?_, he⟩
        rw [← List.take_append_drop (posU x o) o, List.mem_append] at hs
        rw [List.mem_append, List.mem_cons]
        rcases hs with hs | hs
        · exact .inl hs
        · exact .inr (.inr hs)
      · exact ⟨x, by simp, h1⟩
theorem insU_rising (o : List ByteArray) (x : ByteArray) (h : Rising o) : Rising (insU o x) := by
  unfold insU
  split
  · exact h
  · rename_i hne
    have hs := h
    unfold Rising at h ⊢
    rw [← List.take_append_drop (posU x o) o, List.pairwise_append] at h
    obtain ⟨h1, h2, h3⟩ := h
    have hlt : ∀ s ∈ o.take (posU x o), txt s < txt x := fun s hs => by
      obtain ⟨q, hq, rfl⟩ := List.getElem_of_mem hs
      simp only [List.length_take] at hq
      obtain ⟨hl, hless⟩ := posU_lt x o q (by omega)
      rw [lessB_eq, decide_eq_true_eq] at hless
      rw [List.getElem_take]
      exact hless
    have hgt : ∀ s ∈ o.drop (posU x o), txt x < txt s := fun s hs' => by
      obtain ⟨q, hq, rfl⟩ := List.getElem_of_mem hs'
      simp only [List.length_drop] at hq
      have hk : posU x o < o.length := by omega
      have h0 := posU_at x o hk
      rw [lessB_eq, decide_eq_false_iff_not] at h0
      have hn : txt o[posU x o] ≠ txt x := by
        intro e
        rw [List.getElem?_eq_getElem hk] at hne
        simp only [Option.map_some, Option.some.injEq, beq_iff_eq, ByteArray.toList_eq] at hne
        exact hne e
      have h4 : txt x < txt o[posU x o] := lt_of_not h0 hn
      rw [List.getElem_drop]
      by_cases hq0 : q = 0
      · subst hq0; simpa using h4
      · exact List.lt_trans h4 (List.pairwise_iff_getElem.1 hs _ _ hk (by omega) (by omega))
    rw [List.pairwise_append, List.pairwise_cons]
    refine ⟨h1, ⟨hgt, h2⟩, fun a ha b hb => ?_⟩
    rcases List.mem_cons.1 hb with rfl | hb
    · exact hlt a ha
    · exact h3 a ha b hb
theorem sortU_spec (l : List ByteArray) : Rising (sortU l) ∧ ∀ y, (∃ s ∈ sortU l, txt s = y) ↔ ∃ s ∈ l, txt s = y := by
  unfold sortU
  suffices ∀ o : List ByteArray, Rising o → Rising (l.foldl insU o) ∧ ∀ y, (∃ s ∈ l.foldl insU o, txt s = y) ↔ (∃ s ∈ o, txt s = y) ∨ ∃ s ∈ l, txt s = y by
    have := this [] List.Pairwise.nil
    simpa using this
  induction l with
  | nil => intro o h; exact ⟨h, fun y => by simp⟩
  | cons x l ih =>
    intro o h
    obtain ⟨h1, h2⟩ := ih (insU o x) (insU_rising o x h)
    refine ⟨h1, fun y => ?_⟩
    rw [List.foldl_cons, h2, insU_mem, or_assoc]
    simp
/-- The two sorts are one. -/
theorem sorts_same (L : List ByteArray) (ss : List (List UInt8)) (hn : ss.Nodup) (hm : ∀ x, x ∈ ss ↔ ∃ s ∈ L, txt s = x) : (sortU L).map txt = ss.mergeSort fun x y => decide (x ≤ y) := by
  obtain ⟨h1, h2⟩ := sortU_spec L
  have hp : ((sortU L).map txt).Pairwise (fun a b => a < b) := List.pairwise_map.2 h1
  have hnd : ((sortU L).map txt).Nodup := List.Pairwise.imp (fun {a b} (h : a < b) (e : a = b) => List.lt_irrefl b (e ▸ h)) hp
  have hperm : ((sortU L).map txt).Perm ss := (List.perm_ext_iff_of_nodup hnd hn).2 fun x => by
    rw [hm, ← h2, List.mem_map]
  rw [← mergeSort_of_perm hperm]
  exact (List.mergeSort_of_pairwise (hp.imp fun h => by simpa using List.le_of_lt h)).symm
end Go.Proofs.Ytnknefdpglnbnaa
