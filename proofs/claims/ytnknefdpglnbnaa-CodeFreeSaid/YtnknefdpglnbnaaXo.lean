/- CodeUses, the plain law: the document's sorted names are the program's. CodeUses, the plain law: what the program's set holds is what the document lists. -/
import Derived.Test.YtnknefdpglnbnaaXm
namespace Go.Proofs.Ytnknefdpglnbnaa
open Go Go.RowKit Go.Maps Go.Sort

abbrev txt (s : ByteArray) : List UInt8 := s.data.toList
theorem lessB_eq (x y : ByteArray) : lessB x y = decide (txt x < txt y) := by
  unfold lessB
  rw [bytesLess_eq, ByteArray.toList_eq, ByteArray.toList_eq]
theorem lt_of_not {a b : List UInt8} (h : ¬ a < b) (h2 : a ≠ b) : b < a := by
  rcases List.le_total a b with h3 | h3
  · exact absurd (List.le_antisymm h3 (List.not_lt.1 h)) h2
  · exact Decidable.byContradiction fun h4 => h2 (List.le_antisymm (List.not_lt.1 h4) h3)
/-- Strictly rising. -/
def Rising (o : List ByteArray) : Prop := o.Pairwise fun a b => txt a < txt b
theorem insU_mem (o : List ByteArray) (x : ByteArray) (y : List UInt8) : (∃ s ∈ insU o x, txt s = y) ↔ (∃ s ∈ o, txt s = y) ∨ txt x = y := by
  unfold insU
  split
  · rename_i h
    have hx : ∃ s ∈ o, txt s = txt x := by
      cases he : o[posU x o]? with
      | none => rw [he] at h; simp at h
      | some s =>
        rw [he] at h
        simp only [Option.map_some, Option.some.injEq, beq_iff_eq, ByteArray.toList_eq] at h
        exact ⟨s, List.mem_of_getElem? he, h⟩
    constructor
    · exact .inl
    · rintro (h1 | h1)
      · exact h1
      · obtain ⟨s, hs, he⟩ := hx
        exact ⟨s, hs, he.trans h1⟩
  · constructor
    · rintro ⟨s, hs, he⟩
      rw [List.mem_append, List.mem_cons] at hs
      rcases hs with hs | rfl | hs
      · exact .inl ⟨s, List.mem_of_mem_take hs, he⟩
      · exact .inr he
      · exact .inl ⟨s, List.mem_of_mem_drop hs, he⟩
    · rintro (⟨s, hs, he⟩ | h1)
      · refine ⟨s, ?_, he⟩
        rw [← List.take_append_drop (posU x o) o, List.mem_append] at hs
        rw [List.mem_append, List.mem_cons]
        rcases hs with hs | hs
        · exact .inl hs
        · exact .inr (.inr hs)
      · exact ⟨x, by simp, h1⟩
theorem insU_rising (o : List ByteArray) (x : ByteArray) (h : Rising o) : Rising (insU o x) := by
  unfold insU
  split
  · exact h
  · rename_i hne
    have hs := h
    unfold Rising at h ⊢
    rw [← List.take_append_drop (posU x o) o, List.pairwise_append] at h
    obtain ⟨h1, h2, h3⟩ := h
    have hlt : ∀ s ∈ o.take (posU x o), txt s < txt x := fun s hs => by
      obtain ⟨q, hq, rfl⟩ := List.getElem_of_mem hs
      simp only [List.length_take] at hq
      obtain ⟨hl, hless⟩ := posU_lt x o q (by omega)
      rw [lessB_eq, decide_eq_true_eq] at hless
      rw [List.getElem_take]
      exact hless
    have hgt : ∀ s ∈ o.drop (posU x o), txt x < txt s := fun s hs' => by
      obtain ⟨q, hq, rfl⟩ := List.getElem_of_mem hs'
      simp only [List.length_drop] at hq
      have hk : posU x o < o.length := by omega
      have h0 := posU_at x o hk
      rw [lessB_eq, decide_eq_false_iff_not] at h0
      have hn : txt o[posU x o] ≠ txt x := by
        intro e
        rw [List.getElem?_eq_getElem hk] at hne
        simp only [Option.map_some, Option.some.injEq, beq_iff_eq, ByteArray.toList_eq] at hne
        exact hne e
      have h4 : txt x < txt o[posU x o] := lt_of_not h0 hn
      rw [List.getElem_drop]
      by_cases hq0 : q = 0
      · subst hq0; simpa using h4
      · exact List.lt_trans h4 (List.pairwise_iff_getElem.1 hs _ _ hk (by omega) (by omega))
    rw [List.pairwise_append, List.pairwise_cons]
    refine ⟨h1, ⟨hgt, h2⟩, fun a ha b hb => ?_⟩
    rcases List.mem_cons.1 hb with rfl | hb
    · exact hlt a ha
    · exact h3 a ha b hb
theorem sortU_spec (l : List ByteArray) : Rising (sortU l) ∧ ∀ y, (∃ s ∈ sortU l, txt s = y) ↔ ∃ s ∈ l, txt s = y := by
  unfold sortU
  suffices ∀ o : List ByteArray, Rising o → Rising (l.foldl insU o) ∧ ∀ y, (∃ s ∈ l.foldl insU o, txt s = y) ↔ (∃ s ∈ o, txt s = y) ∨ ∃ s ∈ l, txt s = y by
    have := this [] List.Pairwise.nil
    simpa using this
  induction l with
  | nil => intro o h; exact ⟨h, fun y => by simp⟩
  | cons x l ih =>
    intro o h
    obtain ⟨h1, h2⟩ := ih (insU o x) (insU_rising o x h)
    refine ⟨h1, fun y => ?_⟩
    rw [List.foldl_cons, h2, insU_mem, or_assoc]
    simp
/-- The two sorts are one. -/
theorem sorts_same (L : List ByteArray) (ss : List (List UInt8)) (hn : ss.Nodup) (hm : ∀ x, x ∈ ss ↔ ∃ s ∈ L, txt s = x) : (sortU L).map txt = ss.mergeSort fun x y => decide (x ≤ y) := by
  obtain ⟨h1, h2⟩ := sortU_spec L
  have hp : ((sortU L).map txt).Pairwise (fun a b => a < b) := List.pairwise_map.2 h1
  have hnd : ((sortU L).map txt).Nodup := List.Pairwise.imp (fun {a b} (h : a < b) (e : a = b) => List.lt_irrefl b (e ▸ h)) hp
  have hperm : ((sortU L).map txt).Perm ss := (List.perm_ext_iff_of_nodup hnd hn).2 fun x => by
    rw [hm, ← h2, List.mem_map]
  rw [← mergeSort_of_perm hperm]
  exact (List.mergeSort_of_pairwise (hp.imp fun h => by simpa using List.le_of_lt h)).symm
end Go.Proofs.Ytnknefdpglnbnaa
namespace Go.Proofs.Ytnknefdpglnbnaa
open Go Go.RowKit Go.Maps Go.Sort

theorem ownR_append (f : St → List ByteArray) (a b : List RowX) : ownR f (a ++ b) = ownR f a ++ ownR f b := by simp [ownR]
mutual
theorem ownR_flatI : ∀ (x : St) (f : St → List ByteArray) (d : Int), ownR f (flatI x d false) = (ownS x).flatMap f ∧ ownR f (flatI x d true) = []
  | .mk op nm sec ab wh a b t e c ws, f, d => by
    obtain ⟨t1, t2⟩ := ownR_flatsI t f (d + 1)
    obtain ⟨e1, e2⟩ := ownR_flatsI e f (d + 1)
    obtain ⟨c1, c2⟩ := ownR_flatsI c f (d + 1)
    have hc : ∀ (r : RowX) (R : List RowX), ownR f (r :: R) = (if r.2.1 = true then [] else f r.2.2) ++ ownR f R := fun r R => by simp [ownR]
    constructor
    · simp only [flatI, hc, ownR_append, t1, e1, c2, ownS, List.flatMap_cons, List.flatMap_append]
      simp
    · simp only [flatI, hc, ownR_append, t2, e2, c2]
      simp
theorem ownR_flatsI : ∀ (l : List St) (f : St → List ByteArray) (d : Int), ownR f (flatsI l d false) = (ownL l).flatMap f ∧ ownR f (flatsI l d true) = []
  | [], f, d => by simp [flatsI, ownL, ownR]
  | x :: l, f, d => by
    obtain ⟨x1, x2⟩ := ownR_flatI x f d
    obtain ⟨l1, l2⟩ := ownR_flatsI l f d
    constructor
    · simp only [flatsI, ownR_append, x1, l1, ownL, List.flatMap_append]
    · simp only [flatsI, ownR_append, x2, l2, List.append_nil]
end
theorem ownR_rows (l : List St) (h : (chkL l).2 = 0) (f : St → List ByteArray) : ownR f (rowsX l) = (ownL l).flatMap f := by
  have hl := chk_zero _ 0 (by omega) h
  have he := congrArg List.length (flatsI_flats l 0 false)
  simp only [List.length_map] at he hl
  unfold rowsX
  rw [List.take_of_length_le (by omega), (ownR_flatsI l f 0).1]
theorem addN_mem (s : ByteArray) (ns : List (List UInt8)) (x : List UInt8) : x ∈ addN s ns ↔ (txt s ≠ [] ∧ txt s = x) ∨ x ∈ ns := by
  unfold addN
  by_cases h : (s.toList == []) = true
  · rw [if_pos h]
    rw [beq_iff_eq, ByteArray.toList_eq] at h
    simp [txt, h]
  · rw [if_neg h]
    rw [beq_iff_eq, ByteArray.toList_eq] at h
    simp only [List.mem_cons, txt]
    constructor
    · rintro (rfl | h1)
      · exact .inl ⟨h, rfl⟩
      · exact .inr h1
    · rintro (⟨_, rfl⟩ | h1)
      · exact .inl rfl
      · exact .inr h1
theorem addsN_mem (l : List ByteArray) : ∀ (ns : List (List UInt8)) (x : List UInt8), x ∈ addsN l ns ↔ (∃ s ∈ l, txt s ≠ [] ∧ txt s = x) ∨ x ∈ ns := by
  induction l with
  | nil => intro ns x; simp [addsN]
  | cons s l ih =>
    intro ns x
    have e : addsN (s :: l) ns = addsN l (addN s ns) := rfl
    rw [e, ih, addN_mem]
    simp only [List.mem_cons, exists_eq_or_imp]
    constructor
    · rintro (h | h | h)
      · exact .inl (.inr h)
      · exact .inl (.inl h)
      · exact .inr h
    · rintro ((h | h) | h)
      · exact .inr (.inl h)
      · exact .inl h
      · exact .inr (.inr h)
theorem foldN_mem (f : St → List (List UInt8) → List (List UInt8)) (g : St → List ByteArray) (hf : ∀ y ns x, x ∈ f y ns ↔ (∃ s ∈ g y, txt s ≠ [] ∧ txt s = x) ∨ x ∈ ns) (told : List St) (x : List UInt8) :
    x ∈ foldN f told ↔ ∃ s ∈ told.flatMap g, txt s ≠ [] ∧ txt s = x := by
  unfold foldN
  suffices ∀ ns : List (List UInt8), x ∈ told.foldl (fun ns y => f y ns) ns ↔ (∃ s ∈ told.flatMap g, txt s ≠ [] ∧ txt s = x) ∨ x ∈ ns by simpa using this []
  induction told with
  | nil => intro ns; simp
  | cons y l ih =>
    intro ns
    rw [List.foldl_cons, ih, hf, List.flatMap_cons]
    simp only [List.mem_append]
    constructor
    · rintro (⟨s, h1, h2⟩ | ⟨s, h1, h2⟩ | h)
      · exact .inl ⟨s, .inr h1, h2⟩
      · exact .inl ⟨s, .inl h1, h2⟩
      · exact .inr h
    · rintro (⟨s, h1 | h1, h2⟩ | h)
      · exact .inr (.inl ⟨s, h1, h2⟩)
      · exact .inl ⟨s, h1, h2⟩
      · exact .inr (.inr h)
/-- Sets: the program's row holds what the document's holds. -/
theorem sets_same (l : List St) (h : (chkL l).2 = 0) (ss : List (List UInt8)) (hn : ss.Nodup) (hm : ∀ x, x ∈ ss ↔ x ∈ foldN setsN (ownL l)) : (sortU (ownR setsX (rowsX l))).map txt = ss.mergeSort fun x y => decide (x ≤ y) := by
  refine sorts_same _ ss hn fun x => ?_
  rw [hm, ownR_rows l h, foldN_mem setsN setsX]
  · constructor
    · rintro ⟨s, h1, _, h3⟩; exact ⟨s, h1, h3⟩
    · rintro ⟨s, h1, h3⟩
      refine ⟨s, h1, ?_, h3⟩
      obtain ⟨y, _, hy⟩ := List.mem_flatMap.1 h1
      obtain ⟨op, nm, sec, ab, wh, a, b, t, e, c, ws⟩ := y
      simp only [setsX, List.mem_append] at hy
      rcases hy with hy | hy
      · split at hy
        · simp at hy
        · rename_i hne
          rw [List.mem_singleton] at hy
          subst hy
          simpa [ByteArray.toList_eq] using hne
      · split at hy
        · simp at hy
        · rename_i hne
          rw [List.mem_singleton] at hy
          subst hy
          simpa [ByteArray.toList_eq] using hne
  · rintro ⟨op, nm, sec, ab, wh, a, b, t, e, c, ws⟩ ns x
    have e1 : ((nm.toList == []) = true) = (txt nm = []) := by simp [txt, ByteArray.toList_eq]
    have e2 : ((sec.toList == []) = true) = (txt sec = []) := by simp [txt, ByteArray.toList_eq]
    simp only [setsN, setsX, addN_mem, e1, e2]
    have hc : ∀ (p q r : Prop), (p ∨ q ∨ r) ↔ ((q ∨ p) ∨ r) := fun p q r => ⟨fun h => by rcases h with h | h | h <;> simp [h], fun h => by rcases h with (h | h) | h <;> simp [h]⟩
    have key : ∀ (A C : List UInt8) (_hA : A = txt nm) (_hC : C = txt sec), (C ≠ [] ∧ C = x) ∨ ((A ≠ [] ∧ A = x) ∨ x ∈ ns) ↔ (∃ s ∈ (if A = [] then [] else [nm]) ++ (if C = [] then [] else [sec]), txt s ≠ [] ∧ txt s = x) ∨ x ∈ ns := by
      intro A C hA hC
      by_cases h1 : A = [] <;> by_cases h2 : C = []
      · simp [h1, h2]
      · rw [if_pos h1, if_neg h2]
        simp only [List.nil_append, List.mem_singleton, exists_eq_left, ← hC]
        simp [h1]
      · rw [if_neg h1, if_pos h2]
        simp only [List.append_nil, List.mem_singleton, exists_eq_left, ← hA]
        simp [h2]
      · rw [if_neg h1, if_neg h2]
        simp only [List.mem_append, List.mem_singleton, or_and_right, exists_or, exists_eq_left, ← hA, ← hC]
        exact hc _ _ _
    exact key _ _ rfl rfl
theorem reads_same (l : List St) (h : (chkL l).2 = 0) (ss : List (List UInt8)) (hn : ss.Nodup) (hm : ∀ x, x ∈ ss ↔ x ∈ foldN readsN (ownL l)) : (sortU (ownR readsX (rowsX l))).map txt = ss.mergeSort fun x y => decide (x ≤ y) := by
  refine sorts_same _ ss hn fun x => ?_
  rw [hm, ownR_rows l h, foldN_mem readsN readsX (fun y ns x => addsN_mem (readsX y) ns x)]
  constructor
  · rintro ⟨s, h1, _, h3⟩; exact ⟨s, h1, h3⟩
  · rintro ⟨s, h1, h3⟩
    refine ⟨s, h1, ?_, h3⟩
    obtain ⟨y, hyl, hy⟩ := List.mem_flatMap.1 h1
    have hmay := own_may l h y hyl
    obtain ⟨op, nm, sec, ab, wh, a, b, t, e, c, ws⟩ := y
    obtain ⟨ma, mb, mw⟩ := mayS_parts hmay
    simp only [readsX, List.mem_append] at hy
    have key : s.toList ≠ [] := by
      rcases hy with hy | hy | hy
      · exact (or_names ma).2 s hy
      · exact (or_names mb).2 s hy
      · rcases mw with rfl | ⟨_, mw⟩
        · simp at hy
        · exact mayN_ne (List.all_eq_true.1 mw s hy)
    simpa [ByteArray.toList_eq] using key
end Go.Proofs.Ytnknefdpglnbnaa
