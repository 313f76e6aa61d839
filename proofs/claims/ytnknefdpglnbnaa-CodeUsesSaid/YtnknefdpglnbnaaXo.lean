/- CodeUses, the plain law: what the program's set holds is what the document lists. -/
import Derived.Test.YtnknefdpglnbnaaXn
namespace Go.Proofs.Ytnknefdpglnbnaa
open Go Go.RowKit Go.Maps Go.Sort

theorem ownR_append (f : St → List ByteArray) (a b : List RowX) : ownR f (a ++ b) = ownR f a ++ ownR f b := by simp [ownR]
mutual
theorem ownR_flatI : ∀ (x : St) (f : St → List ByteArray) (d : Int), ownR f (flatI x d false) = (ownS x).flatMap f ∧ ownR f (flatI x d true) = []
  | .mk op nm sec ab wh a b t e c ws, f, d => by
    obtain ⟨t1, t2⟩ := ownR_flatsI t f (d + 1)
    obtain ⟨e1, e2⟩ := ownR_flatsI e f (d + 1)
    obtain ⟨c1, c2⟩ := ownR_flatsI c f (d + 1)
    have hc : ∀ (r : RowX) (R : List RowX), ownR f (r :: R) = (if r.2.1 = true then [] else f r.2.2) ++ ownR f R := fun r R => by simp [ownR]
    constructor
    · simp only [flatI, hc, ownR_append, t1, e1, c2, ownS, List.flatMap_cons, List.flatMap_append]
      simp
    · simp only [flatI, hc, ownR_append, t2, e2, c2]
      simp
theorem ownR_flatsI : ∀ (l : List St) (f : St → List ByteArray) (d : Int), ownR f (flatsI l d false) = (ownL l).flatMap f ∧ ownR f (flatsI l d true) = []
  | [], f, d => by simp [flatsI, ownL, ownR]
  | x :: l, f, d => by
    obtain ⟨x1, x2⟩ := ownR_flatI x f d
    obtain ⟨l1, l2⟩ := ownR_flatsI l f d
    constructor
    · simp only [flatsI, ownR_append, x1, l1, ownL, List.flatMap_append]
    · simp only [flatsI, ownR_append, x2, l2, List.append_nil]
end
theorem ownR_rows (l : List St) (h : (chkL l).2 = 0) (f : St → List ByteArray) : ownR f (rowsX l) = (ownL l).flatMap f := by
  have hl := chk_zero _ 0 (by omega) h
  have he := congrArg List.length (flatsI_flats l 0 false)
  simp only [List.length_map] at he hl
  unfold rowsX
  rw [List.take_of_length_le (by omega), (ownR_flatsI l f 0).1]
theorem addN_mem (s : ByteArray) (ns : List (List UInt8)) (x : List UInt8) : x ∈ addN s ns ↔ (txt s ≠ [] ∧ txt s = x) ∨ x ∈ ns := by
  unfold addN
  by_cases h : (s.toList == []) = true
  · rw [if_pos h]
    rw [beq_iff_eq, ByteArray.toList_eq] at h
    simp [txt, h]
  · rw [if_neg h]
    rw [beq_iff_eq, ByteArray.toList_eq] at h
    simp only [List.mem_cons, txt]
    constructor
    · rintro (rfl | h1)
      · exact .inl ⟨h, rfl⟩
      · exact .inr h1
    · rintro (⟨_, rfl⟩ | h1)
      · exact .inl rfl
      · exact .inr h1
theorem addsN_mem (l : List ByteArray) : ∀ (ns : List (List UInt8)) (x : List UInt8), x ∈ addsN l ns ↔ (∃ s ∈ l, txt s ≠ [] ∧ txt s = x) ∨ x ∈ ns := by
  induction l with
  | nil => intro ns x; simp [addsN]
  | cons s l ih =>
    intro ns x
    have e : addsN (s :: l) ns = addsN l (addN s ns) := rfl
    rw [e, ih, addN_mem]
    simp only [List.mem_cons, exists_eq_or_imp]
    constructor
    · rintro (h | h | h)
      · exact .inl (.inr h)
      · exact .inl (.inl h)
      · exact .inr h
    · rintro ((h | h) | h)
      · exact .inr (.inl h)
      · exact .inl h
      · exact .inr (.inr h)
theorem foldN_mem (f : St → List (List UInt8) → List (List UInt8)) (g : St → List ByteArray) (hf : ∀ y ns x, x ∈ f y ns ↔ (∃ s ∈ g y, txt s ≠ [] ∧ txt s = x) ∨ x ∈ ns) (told : List St) (x : List UInt8) :
    x ∈ foldN f told ↔ ∃ s ∈ told.flatMap g, txt s ≠ [] ∧ txt s = x := by
  unfold foldN
  suffices ∀ ns : List (List UInt8), x ∈ told.foldl (fun ns y => f y ns) ns ↔ (∃ s ∈ told.flatMap g, txt s ≠ [] ∧ txt s = x) ∨ x ∈ ns by simpa using this []
  induction told with
  | nil => intro ns; simp
  | cons y l ih =>
    intro ns
    rw [List.foldl_cons, ih, hf, List.flatMap_cons]
    simp only [List.mem_append]
    constructor
    · rintro (⟨s, h1, h2⟩ | ⟨s, h1, h2⟩ | h)
      · exact .inl ⟨s, .inr h1, h2⟩
      · exact .inl ⟨s, .inl h1, h2⟩
      · exact .inr h
    · rintro (⟨s, h1 | h1, h2⟩ | h)
      · exact .inr (.inl ⟨s, h1, h2⟩)
      · exact .inl ⟨s, h1, h2⟩
      · exact .inr (.inr h)
/-- Sets: the program's row holds what the document's holds. -/
theorem sets_same (l : List St) (h : (chkL l).2 = 0) (ss : List (List UInt8)) (hn : ss.Nodup) (hm : ∀ x, x ∈ ss ↔ x ∈ foldN setsN (ownL l)) : (sortU (ownR setsX (rowsX l))).map txt = ss.mergeSort fun x y => decide (x ≤ y) := by
  refine sorts_same _ ss hn fun x => ?_
  rw [hm, ownR_rows l h, foldN_mem setsN setsX]
  · constructor
    · rintro ⟨s, h1, _, h3⟩; exact ⟨s, h1, h3⟩
    · rintro ⟨s, h1, h3⟩
      refine ⟨s, h1, ?_, h3⟩
      obtain ⟨y, _, hy⟩ := List.mem_flatMap.1 h1
      obtain ⟨op, nm, sec, ab, wh, a, b, t, e, c, ws⟩ := y
      simp only [setsX, List.mem_append] at hy
      rcases hy with hy | hy
      · split at hy
        · simp at hy
        · rename_i hne
          rw [List.mem_singleton] at hy
          subst hy
          simpa [ByteArray.toList_eq] using hne
      · split at hy
        · simp at hy
        · rename_i hne
          rw [List.mem_singleton] at hy
          subst hy
          simpa [ByteArray.toList_eq] using hne
  · rintro ⟨op, nm, sec, ab, wh, a, b, t, e, c, ws⟩ ns x
    have e1 : ((nm.toList == []) = true) = (txt nm = []) := by simp [txt, ByteArray.toList_eq]
    have e2 : ((sec.toList == []) = true) = (txt sec = []) := by simp [txt, ByteArray.toList_eq]
    simp only [setsN, setsX, addN_mem, e1, e2]
    have hc : ∀ (p q r : Prop), (p ∨ q ∨ r) ↔ ((q ∨ p) ∨ r) := fun p q r => ⟨fun h => by rcases h with h | h | h <;> simp [h], fun h => by rcases h with (h | h) | h <;> simp [h]⟩
    have key : ∀ (A C : List UInt8) (_hA : A = txt nm) (_hC : C = txt sec), (C ≠ [] ∧ C = x) ∨ ((A ≠ [] ∧ A = x) ∨ x ∈ ns) ↔ (∃ s ∈ (if A = [] then [] else [nm]) ++ (if C = [] then [] else [sec]), txt s ≠ [] ∧ txt s = x) ∨ x ∈ ns := by
      intro A C hA hC
      by_cases h1 : A = [] <;> by_cases h2 : C = []
      · simp [h1, h2]
      · rw [if_pos h1, if_neg h2]
        simp only [List.nil_append, List.mem_singleton, exists_eq_left, ← hC]
        simp [h1]
      · rw [if_neg h1, if_pos h2]
        simp only [List.append_nil, List.mem_singleton, exists_eq_left, ← hA]
        simp [h2]
      · rw [if_neg h1, if_neg h2]
        simp only [List.mem_append, List.mem_singleton, or_and_right, exists_or, exists_eq_left, ← hA, ← hC]
        exact hc _ _ _
    exact key _ _ rfl rfl
theorem reads_same (l : List St) (h : (chkL l).2 = 0) (ss : List (List UInt8)) (hn : ss.Nodup) (hm : ∀ x, x ∈ ss ↔ x ∈ foldN readsN (ownL l)) : (sortU (ownR readsX (rowsX l))).map txt = ss.mergeSort fun x y => decide (x ≤ y) := by
  refine sorts_same _ ss hn fun x => ?_
  rw [hm, ownR_rows l h, foldN_mem readsN readsX (fun y ns x => addsN_mem (readsX y) ns x)]
  constructor
  · rintro ⟨s, h1, _, h3⟩; exact ⟨s, h1, h3⟩
  · rintro ⟨s, h1, h3⟩
    refine ⟨s, h1, ?_, h3⟩
    obtain ⟨y, hyl, hy⟩ := List.mem_flatMap.1 h1
    have hmay := own_may l h y hyl
    obtain ⟨op, nm, sec, ab, wh, a, b, t, e, c, ws⟩ := y
    obtain ⟨ma, mb, mw⟩ := mayS_parts hmay
    simp only [readsX, List.mem_append] at hy
    have key : s.toList ≠ [] := by
      rcases hy with hy | hy | hy
      · exact (or_names ma).2 s hy
      · exact (or_names mb).2 s hy
      · rcases mw with rfl | ⟨_, mw⟩
        · simp at hy
        · exact mayN_ne (List.all_eq_true.1 mw s hy)
    simpa [ByteArray.toList_eq] using key
end Go.Proofs.Ytnknefdpglnbnaa
