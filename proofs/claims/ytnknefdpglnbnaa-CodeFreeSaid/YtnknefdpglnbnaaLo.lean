/- What is written over at the end of the law on Work: two levels of lists of values, wherever they lie. -/
import Derived.Test.YtnknefdpglnbnaaLn
import Derived.Test.YtnknefdpglnbnaaZj
namespace Go.Proofs.Ytnknefdpglnbnaa
open Go.RowKit

/-- Block b is a row of n values at least. -/
def OkB (w : World) (b n : Nat) : Prop := ∃ cur, BlkN w b 34 cur ∧ n * 5 ≤ cur.size
/-- Block g is a row of values, each with a list of so many values at most, that lies in a row somewhere. -/
def Tops (w : World) (lo hi g : Nat) (L : List Nat) : Prop :=
  OkB w g L.length ∧ ∀ (i : Nat) (h : i < L.length), ∃ k m s A l c r, At w g (i * 5) [.int .u8 k, .int .i64 m, .string s, .slice A l c, .int .i64 r] ∧ l ≤ L[i] ∧ l ≤ c ∧ (0 < l → ∃ b, A = some ⟨b, 0, Option.none⟩ ∧ lo ≤ b ∧ b < hi ∧ OkB w b l)
theorem OkB.set {w : World} {b n : Nat} (h : OkB w b n) (b' o : Nat) (c0 c1 c2 c3 c4 : Value) : OkB (set5 w b' o c0 c1 c2 c3 c4) b n := by
  obtain ⟨cur, h1, h2⟩ := h
  by_cases e : b = b'
  · subst e
    exact ⟨_, set5_blk h1 c0 c1 c2 c3 c4, by simpa using h2⟩
  · exact ⟨cur, (set5_other w b' o c0 c1 c2 c3 c4 e).trans h1, h2⟩
theorem OkB.below {w w' : World} {b n : Nat} (h : OkB w b n) (hb : Below w.heap.size w w') : OkB w' b n := by
  obtain ⟨cur, h1, h2⟩ := h
  exact ⟨cur, h1.below hb, h2⟩
theorem OkB.lt {w : World} {b n : Nat} (h : OkB w b n) : b < w.heap.size := by obtain ⟨cur, h1, _⟩ := h; exact h1.lt
theorem At.below {w w' : World} {b o : Nat} {cs : List Value} (h : At w b o cs) (hl : b < w.heap.size) (hb : Below w.heap.size w w') : At w' b o cs :=
  fun j v hv => (World.cell?_of_block (w := w) (hb.block b hl)).trans (h j v hv)
theorem Tops.below {w w' : World} {lo hi g : Nat} {L : List Nat} (h : Tops w lo hi g L) (hb : Below w.heap.size w w') : Tops w' lo hi g L := by
  obtain ⟨h1, h2⟩ := h
  refine ⟨h1.below hb, fun i hi => ?_⟩
  obtain ⟨k, m, s, A, l, c, r, h3, h4, h5, h6⟩ := h2 i hi
  exact ⟨k, m, s, A, l, c, r, h3.below h1.lt hb, h4, h5, fun hl => by obtain ⟨b, g1, g2, g3, g4⟩ := h6 hl; exact ⟨b, g1, g2, g3, g4.below hb⟩⟩
theorem set5_same {w : World} {g o : Nat} {cur : Array Value} (h : BlkN w g 34 cur) (hs : o + 5 ≤ cur.size) (c0 c1 c2 c3 c4 : Value) : At (set5 w g o c0 c1 c2 c3 c4) g o [c0, c1, c2, c3, c4] := by
  intro j v hv
  rw [(set5_blk h c0 c1 c2 c3 c4).cell_eq]
  have hj : j < 5 := by have := (List.getElem?_eq_some_iff.1 hv).1; simpa using this
  obtain rfl | rfl | rfl | rfl | rfl : j = 0 ∨ j = 1 ∨ j = 2 ∨ j = 3 ∨ j = 4 := by omega
  all_goals
    simp at hv
    subst hv
    simp [Array.getElem?_setIfInBounds]
    try omega
theorem set5_keep {w : World} {g o p : Nat} {cur : Array Value} (h : BlkN w g 34 cur) {cs : List Value} (hc : cs.length = 5) (ha : At w g p cs) (hd : p + 5 ≤ o ∨ o + 5 ≤ p) (c0 c1 c2 c3 c4 : Value) : At (set5 w g o c0 c1 c2 c3 c4) g p cs := by
  intro j v hv
  have hj : j < 5 := by have := (List.getElem?_eq_some_iff.1 hv).1; omega
  have h0 := ha j v hv
  rw [h.cell_eq] at h0
  rw [(set5_blk h c0 c1 c2 c3 c4).cell_eq]
  rw [Array.getElem?_setIfInBounds_ne (by omega), Array.getElem?_setIfInBounds_ne (by omega), Array.getElem?_setIfInBounds_ne (by omega), Array.getElem?_setIfInBounds_ne (by omega), Array.getElem?_setIfInBounds_ne (by omega)]
  exact h0
/-- .. and so it stays where an element of a row is written over by a value with no list. -/
theorem Tops.set {w : World} {lo hi g : Nat} {L : List Nat} (h : Tops w lo hi g L) {b n j : Nat} (hb : OkB w b n) (hj : j < n) (k m : Int) (s : ByteArray) (r : Int) : Tops (set5 w b (j * 5) (.int .u8 k) (.int .i64 m) (.string s) (.slice Option.none 0 0) (.int .i64 r)) lo hi g L := by
  obtain ⟨h1, h2⟩ := h
  refine ⟨h1.set _ _ _ _ _ _ _, fun i hi => ?_⟩
  obtain ⟨k', m', s', A, l, c, r', h3, h4, h5, h6⟩ := h2 i hi
  obtain ⟨cur, hc1, hc2⟩ := h1
  by_cases e : g = b
  · subst e
    obtain ⟨cur', hc1', hc2'⟩ := hb
    by_cases ei : i = j
    · subst ei
      exact ⟨k, m, s, Option.none, 0, 0, r, set5_same hc1' (by omega) _ _ _ _ _, by omega, by omega, fun h => by omega⟩
    · exact ⟨k', m', s', A, l, c, r', set5_keep hc1 rfl h3 (by omega) _ _ _ _ _, h4, h5, fun hl => by obtain ⟨b, g1, g2, g3, g4⟩ := h6 hl; exact ⟨b, g1, g2, g3, g4.set _ _ _ _ _ _ _⟩⟩
  · exact ⟨k', m', s', A, l, c, r', fun j' v hv => (World.cell?_of_block (w := w) (set5_other w b (j * 5) _ _ _ _ _ e)).trans (h3 j' v hv), h4, h5, fun hl => by obtain ⟨b, g1, g2, g3, g4⟩ := h6 hl; exact ⟨b, g1, g2, g3, g4.set _ _ _ _ _ _ _⟩⟩
/-- How long the lists of some values are. -/
def vlen : Va → Nat | .mk _ _ _ m _ => m.length
def lens (l : List Va) : List Nat := l.map vlen
theorem lens_len (l : List Va) : (lens l).length = l.length := by simp [lens]
theorem tops_of {w : World} {lo g : Nat} {l : List Va} (hg : ∃ cur, BlkN w g 34 cur) (h : IsVasR w (Own34 w lo) g 0 l) (_hne : l ≠ []) : Tops w lo w.heap.size g (lens l) := by
  have hok : ∀ {b : Nat} {m : List Va} {R : Nat → Nat → Prop}, (∃ cur, BlkN w b 34 cur) → IsVasR w R b 0 m → OkB w b m.length := by
    rintro b m R ⟨cur, hc⟩ hm
    refine ⟨cur, hc, ?_⟩
    by_cases hz : m.length = 0
    · omega
    · obtain ⟨c0, c1, c2, c3, c4, ha, _⟩ := hm.at (m.length - 1) (by omega)
      have := ha 4 c4 rfl
      rw [hc.cell_eq] at this
      have := (Array.getElem?_eq_some_iff.1 this).1
      omega
  refine ⟨by rw [lens_len]; exact hok hg h, fun i hi => ?_⟩
  rw [lens_len] at hi
  obtain ⟨k, n, s, A, len, cap, r, hat, hx⟩ := h.at2 i hi
  rw [Nat.zero_add] at hat
  have hl : (lens l)[i]'(by rw [lens_len]; exact hi) = vlen l[i] := by simp [lens]
  rw [hl]
  generalize l[i] = x at hx ⊢
  obtain ⟨k', n', s', m, r'⟩ := x
  obtain ⟨_, _, _, _, A', cap', h5, h6, h7⟩ := hx.form
  simp only [Value.agg.injEq, Array.mk.injEq, List.cons.injEq, Value.slice.injEq, and_true] at h6
  obtain ⟨_, _, _, ⟨rfl, rfl, rfl⟩, _⟩ := h6
  refine ⟨k, n, s, A, m.length, cap, r, hat, Nat.le_refl _, h5, fun hpos => ?_⟩
  obtain ⟨b, o, h8, rfl, h9⟩ := h7 (by rintro rfl; simp at hpos)
  obtain ⟨h10, rfl, h11⟩ := h8
  exact ⟨b, rfl, h10, by obtain ⟨cur, hc⟩ := h11; exact hc.lt, hok h11 h9⟩
theorem lens_le {w : World} {R : Nat → Nat → Prop} {b o : Nat} {l : List Va} (h : IsVasR w R b o l) : ∀ x ∈ lens l, x ≤ 140737488351232 := by
  intro x hx
  obtain ⟨i, hi, rfl⟩ := List.mem_iff_getElem.1 hx
  rw [lens_len] at hi
  obtain ⟨c0, c1, c2, c3, c4, _, h2⟩ := h.at i hi
  have hl : (lens l)[i]'(by rw [lens_len]; exact hi) = vlen l[i] := by simp [lens]
  rw [hl]
  generalize l[i] = y at h2 ⊢
  obtain ⟨k', n', s', m, r'⟩ := y
  have := h2.len
  show m.length ≤ _
  omega
end Go.Proofs.Ytnknefdpglnbnaa
