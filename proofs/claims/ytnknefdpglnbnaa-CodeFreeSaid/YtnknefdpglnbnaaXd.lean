/- The plain law of CodeUses: in a statement that may be, the names are few and none of them is empty. -/
import Derived.Test.YtnknefdpglnbnaaLb
import Derived.Test.YtnknefdpglnbnaaXc
namespace Go.Proofs.Ytnknefdpglnbnaa
open Go Go.RowKit

mutual
theorem names_prE : ∀ (x : Ex) (d : Nat), prE x d ≤ 512 → (namesX x).length ≤ prE x d
  | .mk k n s l, d, h => by
    unfold prE at h ⊢
    split at h
    · omega
    · rename_i hd
      rw [if_neg hd]
      have := names_prEs l (d + 1) 1 h
      simp only [namesX, List.length_append]
      have : (if k = 4 then [s] else ([] : List ByteArray)).length ≤ 1 := by split <;> simp
      omega
theorem names_prEs : ∀ (l : List Ex) (d n : Nat), prEs l d n ≤ 512 → n + (namesXs l).length ≤ prEs l d n
  | [], d, n, h => by simp [namesXs, prEs]
  | x :: l, d, n, h => by
    have h5 : n ≤ 512 := Nat.le_trans (prEs_ge (x :: l) d n) h
    unfold prEs at h ⊢
    rw [if_pos h5] at h ⊢
    have h1 := prEs_ge l d (n + prE x d)
    have h2 := names_prE x d (by omega)
    have h3 := names_prEs l d (n + prE x d) h
    simp only [namesXs, List.length_append]
    omega
end
mutual
theorem names_fld : ∀ (x : Ex), fldE x = true → ∀ s ∈ namesX x, mayN s = true
  | .mk k n s l, h, u, hu => by
    simp only [fldE, Bool.and_eq_true] at h
    simp only [namesX, List.mem_append] at hu
    rcases hu with hu | hu
    · by_cases hk : k = 4
      · subst hk
        rw [if_pos rfl] at hu
        have e : u = s := by simpa using hu
        have h2 := h.2
        simp [fldOk] at h2
        rw [e]
        simp_all
      · rw [if_neg hk] at hu
        simp at hu
    · exact names_flds l h.1 u hu
theorem names_flds : ∀ (l : List Ex), fldEs l = true → ∀ s ∈ namesXs l, mayN s = true
  | [], _, u, hu => by simp [namesXs] at hu
  | x :: l, h, u, hu => by
    simp only [fldEs, Bool.and_eq_true] at h
    simp only [namesXs, List.mem_append] at hu
    rcases hu with hu | hu
    · exact names_fld x h.1 u hu
    · exact names_flds l h.2 u hu
end
theorem mayN_ne {s : ByteArray} (h : mayN s = true) : s.toList ≠ [] := by
  intro e
  rw [ByteArray.toList_eq] at e
  simp [mayN, e, headOk] at h
theorem or_names {x : Ex} (h : orNoneE x = true) : (namesX x).length ≤ 512 ∧ ∀ s ∈ namesX x, s.toList ≠ [] := by
  unfold orNoneE at h
  rw [Bool.or_eq_true] at h
  rcases h with h | h
  · obtain ⟨k, n, s, l⟩ := x
    simp [noneX] at h
    obtain ⟨⟨⟨rfl, -⟩, -⟩, rfl⟩ := h
    simp [namesX, namesXs]
  · rw [mayE_eq] at h
    simp only [Bool.and_eq_true, decide_eq_true_eq] at h
    exact ⟨Nat.le_trans (names_prE x 0 h.1) h.1, fun s hs => mayN_ne (names_fld x h.2.2 s hs)⟩
theorem mayS_parts {op : Int} {nm sec : ByteArray} {ab wh : Int} {a b : Ex} {t e c : List St} {ws : List ByteArray} (h : mayS (.mk op nm sec ab wh a b t e c ws) = true) : orNoneE a = true ∧ orNoneE b = true ∧ (ws = [] ∨ (ws.length ≤ 64 ∧ ws.all mayN = true)) := by
  simp only [mayS, zS, orNoneE] at h ⊢
  simp at h ⊢
  repeat' (split at h)
  all_goals simp_all
  all_goals trace_state
end Go.Proofs.Ytnknefdpglnbnaa
