/- Names written over, within a window of blocks. -/
import Derived.Test.YtnknefdpglnbnaaMg
namespace Go.Proofs.Ytnknefdpglnbnaa
open Go.RowKit

/-- The world has changed in the window's blocks alone, and has grown. -/
structure Win (lo hi : Nat) (w w' : World) : Prop where
  os : w'.os = w.os
  tape : w'.tape = w.tape
  output : w'.output = w.output
  size : w.heap.size ≤ w'.heap.size
  block : ∀ b, b < w.heap.size → b < lo ∨ hi ≤ b → w'.heap[b]? = w.heap[b]?
theorem Win.refl (lo hi : Nat) (w : World) : Win lo hi w w := ⟨rfl, rfl, rfl, Nat.le_refl _, fun _ _ _ => rfl⟩
theorem Win.setCell {lo hi : Nat} {w w' : World} (h : Win lo hi w w') {b o : Nat} (h1 : lo ≤ b) (h2 : b < hi) (v : Value) : Win lo hi w (w'.setCell ⟨b, o, Option.none⟩ v) :=
  ⟨h.os, h.tape, h.output, by simpa [World.setCell] using h.size, fun k hk hw => (Below.heap_setCell _ _ _ _ (by show k ≠ b; rcases hw with hw | hw <;> omega)).trans (h.block k hk hw)⟩
theorem Win.grow {lo hi : Nat} {w w' : World} (h : Win lo hi w w') (hl : lo ≤ w.heap.size) : Below lo w w' := ⟨h.os, h.tape, h.output, h.size, fun b hb => h.block b (by omega) (.inl hb)⟩
/-- Block g is a row of names, whose values' lists (so long at most) lie in rows somewhere. -/
def NTopsH (w : World) (lo hi g : Nat) (L : List Nat) : Prop :=
  (∃ cur, BlkN w g 73 cur ∧ L.length * 6 ≤ cur.size) ∧ ∀ (i : Nat) (h : i < L.length), ∃ s k m t A l c r, At w g (i * 6) [.string s, .int .u8 k, .int .i64 m, .string t, .slice A l c, .int .i64 r] ∧ l ≤ L[i] ∧ l ≤ c ∧ (0 < l → ∃ b, A = some ⟨b, 0, Option.none⟩ ∧ lo ≤ b ∧ b < hi ∧ OkB w b l)
theorem NTopsH.set {w : World} {lo hi g : Nat} {L : List Nat} (h : NTopsH w lo hi g L) {b n : Nat} (hb : OkB w b n) (o : Nat) (c0 c1 c2 c3 c4 : Value) : NTopsH (set5 w b o c0 c1 c2 c3 c4) lo hi g L := by
  obtain ⟨⟨cur, h1, h2⟩, h3⟩ := h
  have hne := hb.ne h1
  have hk := set5_other w b o c0 c1 c2 c3 c4 hne
  refine ⟨⟨cur, hk.trans h1, h2⟩, fun i hi => ?_⟩
  obtain ⟨s, k, m, t, A, l, c, r, h4, h5, h6, h7⟩ := h3 i hi
  exact ⟨s, k, m, t, A, l, c, r, fun j v hv => (World.cell?_of_block (w := w) (w' := set5 w b o c0 c1 c2 c3 c4) (a := ⟨g, i * 6 + j, Option.none⟩) hk).trans (h4 j v hv), h5, h6, fun hl => by obtain ⟨b', g1, g2, g9, g3⟩ := h7 hl; exact ⟨b', g1, g2, g9, g3.set _ _ _ _ _ _ _⟩⟩
set_option maxHeartbeats 2000000 in
theorem NTopsH.setN6 {w : World} {lo hi g : Nat} {L : List Nat} (h : NTopsH w lo hi g L) (j : Nat) (hj : j < L.length) (s : ByteArray) (k m : Int) (t : ByteArray) (r : Int) :
    NTopsH (set6 w g (j * 6) (.string s) (.int .u8 k) (.int .i64 m) (.string t) (.slice Option.none 0 0) (.int .i64 r)) lo hi g L := by
  obtain ⟨⟨cur, h1, h2⟩, h3⟩ := h
  have hB := (set5_blk (o := j * 6) h1 (.string s) (.int .u8 k) (.int .i64 m) (.string t) (.slice Option.none 0 0)).set (j * 6 + 5) (.int .i64 r)
  have hok : ∀ {b n : Nat}, OkB w b n → OkB (set6 w g (j * 6) (.string s) (.int .u8 k) (.int .i64 m) (.string t) (.slice Option.none 0 0) (.int .i64 r)) b n := by
    rintro b n ⟨cur', hc, hs⟩
    have hne : b ≠ g := fun e => by subst e; exact (OkB.ne ⟨cur', hc, hs⟩ h1) rfl
    exact ⟨cur', ((Below.heap_setCell _ _ _ _ hne).trans (set5_other w g (j * 6) _ _ _ _ _ hne)).trans hc, hs⟩
  refine ⟨⟨_, hB, by simpa using h2⟩, fun i hi => ?_⟩
  obtain ⟨s', k', m', t', A, l, c, r', h4, h5, h6, h7⟩ := h3 i hi
  by_cases ei : i = j
  · subst ei
    refine ⟨s, k, m, t, Option.none, 0, 0, r, fun q v hv => ?_, by omega, by omega, fun h => by omega⟩
    show World.cell? (set6 _ _ _ _ _ _ _ _ _) _ = _
    unfold set6
    rw [hB.cell_eq]
    have hq : q < 6 := by have := (List.getElem?_eq_some_iff.1 hv).1; simpa using this
    obtain rfl | rfl | rfl | rfl | rfl | rfl : q = 0 ∨ q = 1 ∨ q = 2 ∨ q = 3 ∨ q = 4 ∨ q = 5 := by omega
    all_goals
      simp at hv
      subst hv
      simp [Array.getElem?_setIfInBounds]
      try omega
  · refine ⟨s', k', m', t', A, l, c, r', fun q v hv => ?_, h5, h6, fun hl => by obtain ⟨b', g1, g2, g9, g3⟩ := h7 hl; exact ⟨b', g1, g2, g9, hok g3⟩⟩
    have h0 := h4 q v hv
    have hq : q < 6 := by have := (List.getElem?_eq_some_iff.1 hv).1; simpa using this
    rw [h1.cell_eq] at h0
    show World.cell? (set6 _ _ _ _ _ _ _ _ _) _ = _
    unfold set6
    rw [hB.cell_eq]
    rw [Array.getElem?_setIfInBounds_ne (by omega), Array.getElem?_setIfInBounds_ne (by omega), Array.getElem?_setIfInBounds_ne (by omega), Array.getElem?_setIfInBounds_ne (by omega), Array.getElem?_setIfInBounds_ne (by omega), Array.getElem?_setIfInBounds_ne (by omega)]
    exact h0
set_option maxRecDepth 100000 in
set_option maxHeartbeats 2000000 in
theorem spoilNamesH_any (A : Option Addr) (n cap lo hi g : Nat) (L : List Nat) (w : World) (hcap : n ≤ cap) (hn : n ≤ 140737488351232) (hg : 0 < n → A = some ⟨g, 0, Option.none⟩ ∧ lo ≤ g ∧ g < hi ∧ L.length = n ∧ (∀ x ∈ L, x ≤ 140737488351232) ∧ NTopsH w lo hi g L) :
    Calls Try.prog 44 #[.slice A n cap] w fun e w' => e = .returned (.tuple #[]) ∧ Win lo hi w w' := by
  have HG := Lib.hid hg
  have HG9 : Hid (0 < n → NTopsH w lo hi g L) := Lib.hid (fun h => (hg h).2.2.2.2.2)
  clear hg
  go_enter Try.func44, Try.ntmps44
  go_wp2_with fail
  go_loopw [2] (fun i wr => ∃ j : Nat, j ≤ n ∧ i = .int .i64 j ∧ Win lo hi w wr ∧ (0 < n → NTopsH wr lo hi g L)) (fun i _ => n - (intOf i).toNat)
  case atStart => exact ⟨0, by omega, rfl, Win.refl _ _ _, HG9.out⟩
  case round =>
    obtain ⟨j, hj, rfl, hu, ht⟩ := hrel
    have HU := Lib.hid hu
    have HT := Lib.hid ht
    clear hu ht
    by_cases hlt : j < n
    · obtain ⟨hA1, hg1, hg2, hL1, hL2, _⟩ := HG.out (by omega)
      subst hA1
      have hjL : j < L.length := by omega
      have hM := hL2 _ (List.getElem_mem hjL)
      obtain ⟨M, hMd⟩ : ∃ M, M = L[j] := ⟨_, rfl⟩
      rw [← hMd] at hM
      have HM := Lib.hid hMd
      have HL1 := Lib.hid hL1
      clear hMd hL1 hL2
      go_wp2_with fail
      obtain ⟨wo, rfl⟩ : ∃ wo : World, wo = wr := ⟨_, rfl⟩
      go_loopw [3] (fun i wi => ∃ m : Nat, m ≤ M ∧ i = .int .i64 m ∧ Win lo hi w wi ∧ NTopsH wi lo hi g L) (fun i _ => M - (intOf i).toNat)
      case atStart => exact ⟨0, by omega, rfl, HU.out, HT.out (by omega)⟩
      case round =>
        obtain ⟨m, hm, rfl, hu, ht⟩ := hrel
        have HU1 := Lib.hid hu
        have HT1 := Lib.hid ht
        obtain ⟨s', k', m', t', A', l', c', r', hat, hlM, hlc, htar⟩ := ht.2 j hjL
        rw [← HM.out] at hlM
        have e4 : wr.cell? ⟨g, j * 6 + 4, Option.none⟩ = some (.slice A' l' c') := hat 4 _ rfl
        obtain ⟨cur0, hc0, hs0⟩ := ht.1
        rw [HL1.out] at hs0
        clear hu ht hat
        by_cases hml : m < l'
        · obtain ⟨b', rfl, hb1, hb2, cur, hc, hs⟩ := htar (by omega)
          have hokb : OkB wr b' l' := ⟨cur, hc, hs⟩
          have HOKB := Lib.hid hokb
          obtain ⟨q0, c0⟩ := hc.some (m * 5) (by omega)
          obtain ⟨q1, c1⟩ := hc.some (m * 5 + 1) (by omega)
          obtain ⟨q2, c2⟩ := hc.some (m * 5 + 2) (by omega)
          obtain ⟨q3, c3⟩ := hc.some (m * 5 + 3) (by omega)
          obtain ⟨q4, c4⟩ := hc.some (m * 5 + 4) (by omega)
          have f0 := hc.free (m * 5)
          have f1 := hc.free (m * 5 + 1)
          have f2 := hc.free (m * 5 + 2)
          have f3 := hc.free (m * 5 + 3)
          have f4 := hc.free (m * 5 + 4)
          clear hc hokb htar hs hc0 hs0
          go_wp2_with fail
          go_roundw
          case rel => exact ⟨m + 1, by omega, by go_num, ((((HU1.out.setCell hb1 hb2 _).setCell hb1 hb2 _).setCell hb1 hb2 _).setCell hb1 hb2 _).setCell hb1 hb2 _, HT1.out.set HOKB.out _ _ _ _ _ _⟩
          case measure => simp [intOf]; omega
        · obtain ⟨q0, c0⟩ := hc0.some (j * 6) (by omega)
          obtain ⟨q1, c1⟩ := hc0.some (j * 6 + 1) (by omega)
          obtain ⟨q2, c2⟩ := hc0.some (j * 6 + 2) (by omega)
          obtain ⟨q3, c3⟩ := hc0.some (j * 6 + 3) (by omega)
          obtain ⟨q5, c5⟩ := hc0.some (j * 6 + 5) (by omega)
          have f0 := hc0.free (j * 6)
          have f1 := hc0.free (j * 6 + 1)
          have f2 := hc0.free (j * 6 + 2)
          have f3 := hc0.free (j * 6 + 3)
          have f4 := hc0.free (j * 6 + 4)
          have f5 := hc0.free (j * 6 + 5)
          clear hc0 hs0 htar
          go_wp2_with fail
          go_roundw
          case rel => exact ⟨j + 1, by omega, by go_num, (((((HU1.out.setCell hg1 hg2 _).setCell hg1 hg2 _).setCell hg1 hg2 _).setCell hg1 hg2 _).setCell hg1 hg2 _).setCell hg1 hg2 _, fun _ => HT1.out.setN6 j hjL _ _ _ _ _⟩
          case measure => simp [intOf]; omega
    · obtain rfl : j = n := by omega
      go_wp2_with fail
      go_end0
      exact ⟨rfl, HU.out⟩
/-- What Only told may be written over. -/
theorem ntopsH_of {w : World} {lo : Nat} {v : Value} {l : List Na} (h : Own73 RdN34 w 0 lo v l) (hl : l.length ≤ 140737488351232) :
    ∃ A cap g L, v = .slice A l.length cap ∧ l.length ≤ cap ∧ (0 < l.length → A = some ⟨g, 0, Option.none⟩ ∧ lo ≤ g ∧ g < w.heap.size ∧ L.length = l.length ∧ (∀ x ∈ L, x ≤ 140737488351232) ∧ NTopsH w lo w.heap.size g L) := by
  obtain ⟨xs, h⟩ := h
  obtain ⟨A, cap, h1, h2, h3⟩ := h.row
  by_cases hz : l = []
  · exact ⟨A, cap, 0, [], h1, h2, fun h => by subst hz; simp at h⟩
  · obtain ⟨g, cur, hA, hlo, hc, hs, hp⟩ := h3 hz
    have key : ∀ (i : Nat) (hi : i < l.length), ∃ s k m t A l' c r, At w g (i * 6) [.string s, .int .u8 k, .int .i64 m, .string t, .slice A l' c, .int .i64 r] ∧ l' = vlen l[i].2 ∧ l' ≤ c ∧ l' ≤ 140737488351232 ∧ (0 < l' → ∃ b, A = some ⟨b, 0, Option.none⟩ ∧ lo ≤ b ∧ b < w.heap.size ∧ OkB w b l') := by
      intro i hi
      obtain ⟨cs, _, hat, h0, c0, c1, c2, c3, c4, rfl, hx⟩ := hp i hi
      generalize l[i] = x at hx h0 hat ⊢
      obtain ⟨sn, y⟩ := x
      obtain ⟨k', n', s', m, r'⟩ := y
      have hml := hx.len
      obtain ⟨_, _, _, _, A', cap', h5, h6, h7⟩ := hx.form
      simp only [Value.agg.injEq, Array.mk.injEq, List.cons.injEq, and_true] at h6
      obtain ⟨rfl, rfl, rfl, rfl, rfl⟩ := h6
      refine ⟨sn, k', n', s', A', m.length, cap', r', hat, rfl, h5, by omega, fun hpos => ?_⟩
      obtain ⟨b, o, ⟨hr, rfl, cur', hc'⟩, rfl, h9⟩ := h7 (by rintro rfl; simp at hpos)
      refine ⟨b, rfl, by rcases hr.1 with h | h <;> omega, hr.2, cur', hc', ?_⟩
      obtain ⟨d0, d1, d2, d3, d4, ha, _⟩ := h9.at (m.length - 1) (by omega)
      have := ha 4 d4 rfl
      rw [hc'.cell_eq] at this
      have := (Array.getElem?_eq_some_iff.1 this).1
      omega
    refine ⟨A, cap, g, l.map fun x => vlen x.2, h1, h2, fun _ => ⟨hA, hlo, hc.lt, by simp, fun x hx => ?_, ⟨cur, hc, by simpa using hs⟩, fun i hi => ?_⟩⟩
    · obtain ⟨i, hi, rfl⟩ := List.mem_iff_getElem.1 hx
      obtain ⟨_, _, _, _, _, _, _, _, _, e, _, h4, _⟩ := key i (by simpa using hi)
      simp only [List.getElem_map]
      omega
    · obtain ⟨s, k, m, t, A2, l', c, r, e1, e2, e3, _, e4⟩ := key i (by simpa using hi)
      exact ⟨s, k, m, t, A2, l', c, r, e1, by simp only [List.getElem_map]; omega, e3, e4⟩
theorem NTopsH.below {w w' : World} {lo hi g : Nat} {L : List Nat} (h : NTopsH w lo hi g L) (hb : Below w.heap.size w w') : NTopsH w' lo hi g L := by
  obtain ⟨⟨cur, h1, h2⟩, h3⟩ := h
  refine ⟨⟨cur, h1.below hb, h2⟩, fun i hi => ?_⟩
  obtain ⟨s, k, m, t, A, l, c, r, h4, h5, h6, h7⟩ := h3 i hi
  exact ⟨s, k, m, t, A, l, c, r, h4.below h1.lt hb, h5, h6, fun hl => by obtain ⟨b', g1, g2, g9, g3⟩ := h7 hl; exact ⟨b', g1, g2, g9, g3.below hb⟩⟩
theorem Own73.namesR {w : World} {B lo : Nat} {v : Value} {l : List Na} (h : Own73 RdN w B lo v l) (hl : l.length * 80 ≤ 140737488351232) : IsNsR w (RN B lo w) v l := by
  obtain ⟨xs, h⟩ := h
  obtain ⟨A, cap, h1, h2, h3⟩ := h.list
  exact ⟨hl, A, cap, h2, h1, fun hne => by
    obtain ⟨b, hr, hA, hp⟩ := h3 hne
    refine ⟨b, 0, hr, hA, (RdN.list fun i hi => ?_)⟩
    obtain ⟨cs, e1, e2, e3⟩ := hp i hi
    exact ⟨cs, e1, e2, e3⟩⟩
end Go.Proofs.Ytnknefdpglnbnaa
