/- Names cloned, and their values made the call's own, in place. Set, the program's, walked. -/
import Derived.Test.YtnknefdpglnbnaaMc
import Derived.WalkSpells
import Derived.Deep.Cut
namespace Go.Proofs.Ytnknefdpglnbnaa
open Go.RowKit

/-- v is a row of n names of the call's own, of whose cells P holds. -/
def NR (w : World) (lo : Nat) (v : Value) (n : Nat) (P : Nat → List Value → Prop) : Prop :=
  ∃ xs, w.ownsRow lo 73 6 v n xs ∧ ∀ i, i < n → ∃ cs : List Value, cs.length = 6 ∧ (∀ q u, cs[q]? = some u → xs[i * 6 + q]? = some u) ∧ P i cs
theorem NR.imp {w : World} {lo : Nat} {v : Value} {n : Nat} {P Q : Nat → List Value → Prop} (h : NR w lo v n P) (k : ∀ i cs, i < n → P i cs → Q i cs) : NR w lo v n Q := by
  obtain ⟨xs, h1, h2⟩ := h
  exact ⟨xs, h1, fun i hi => by obtain ⟨cs, g1, g2, g3⟩ := h2 i hi; exact ⟨cs, g1, g2, k i cs hi g3⟩⟩
theorem NR.below {w w' : World} {lo : Nat} {v : Value} {n : Nat} {P : Nat → List Value → Prop} (h : NR w lo v n P) (hb : Below w.heap.size w w') : NR w' lo v n P := by
  obtain ⟨xs, h1, h2⟩ := h
  exact ⟨xs, own_below h1 hb, h2⟩
theorem NR.open {w : World} {lo : Nat} {v : Value} {n : Nat} {P : Nat → List Value → Prop} (h : NR w lo v n P) (hn : 0 < n) :
    ∃ g cap cur, v = .slice (some ⟨g, 0, Option.none⟩) n cap ∧ lo ≤ g ∧ BlkN w g 73 cur ∧ n ≤ cap ∧ cur.size = cap * 6 ∧ ∀ i, i < n → ∃ cs : List Value, cs.length = 6 ∧ At w g (i * 6) cs ∧ P i cs := by
  obtain ⟨xs, h1, h2⟩ := h
  have hc := fun g hg => h1.cells (g := g) hg
  rcases h1.2 with ⟨_, h0⟩ | ⟨g, cap, cur, rfl, hb, hg, hcap, _, hcs, _⟩
  · omega
  · refine ⟨g, cap, cur, rfl, hb, hg, hcap, hcs, fun i hi => ?_⟩
    obtain ⟨cs, g1, g2, g3⟩ := h2 i hi
    refine ⟨cs, g1, fun q u hu => ?_, g3⟩
    have := hc g rfl (i * 6 + q) u (g2 q u hu)
    rw [add_lit] at this
    exact this
theorem NR.val {w : World} {lo : Nat} {v : Value} {n : Nat} {P : Nat → List Value → Prop} (h : NR w lo v n P) : ∃ A cap, v = .slice A n cap ∧ n ≤ cap := by
  obtain ⟨xs, h1, _⟩ := h
  rcases h1.2 with ⟨rfl, h0⟩ | ⟨g, cap, cur, rfl, _, _, hcap, _⟩
  · exact ⟨Option.none, 0, by rw [h0], by omega⟩
  · exact ⟨_, cap, rfl, hcap⟩
/-- A value stored into a name of the row. -/
theorem NR.store {w : World} {lo : Nat} {n g cap : Nat} {P Q : Nat → List Value → Prop} (h : NR w lo (.slice (some ⟨g, 0, Option.none⟩) n cap) n P) (i : Nat) (hi : i < n) (c0 c1 c2 c3 c4 : Value) (hQ : ∀ j cs, j ≠ i → j < n → P j cs → Q j cs) (hi' : ∀ s cs, P i (s :: cs) → Q i [s, c0, c1, c2, c3, c4]) :
    NR (set5 w g (i * 6 + 1) c0 c1 c2 c3 c4) lo (.slice (some ⟨g, 0, Option.none⟩) n cap) n Q := by
  obtain ⟨xs, h1, h2⟩ := h
  rcases h1.2 with ⟨hv, _⟩ | ⟨g', cap', cur, hv, hb, hg, hcap, hcm, hcs, htake⟩
  · cases hv
  · simp only [Value.slice.injEq, Option.some.injEq, Addr.mk.injEq, and_true] at hv
    obtain ⟨rfl, _, rfl⟩ := hv
    have hB : BlkN w g 73 cur := hg
    have hB' := set5_blk (o := i * 6 + 1) hB c0 c1 c2 c3 c4
    have hxs : ∀ j q, j < n → q < 6 → xs[j * 6 + q]? = cur[j * 6 + q]? := fun j q hj hq => by
      rw [← htake, List.getElem?_take, if_pos (by omega), Array.getElem?_toList]
    refine ⟨_, ⟨?_, .inr ⟨g, cap, _, rfl, hb, hB', hcap, hcm, by simpa using hcs, rfl⟩⟩, fun j hj => ?_⟩
    · have : n * 6 ≤ cur.size := by rw [hcs]; exact Nat.mul_le_mul_right 6 hcap
      simp
      omega
    · obtain ⟨cs, g1, g2, g3⟩ := h2 j hj
      have hq6 : ∀ q, q < 6 → ((((((cur.setIfInBounds (i * 6 + 1) c0).setIfInBounds (i * 6 + 1 + 1) c1).setIfInBounds (i * 6 + 1 + 2) c2).setIfInBounds (i * 6 + 1 + 3) c3).setIfInBounds (i * 6 + 1 + 4) c4).toList.take (n * 6))[j * 6 + q]? = ((((((cur.setIfInBounds (i * 6 + 1) c0).setIfInBounds (i * 6 + 1 + 1) c1).setIfInBounds (i * 6 + 1 + 2) c2).setIfInBounds (i * 6 + 1 + 3) c3).setIfInBounds (i * 6 + 1 + 4) c4))[j * 6 + q]? := fun q hq => by
        rw [List.getElem?_take, if_pos (by omega), Array.getElem?_toList]
      by_cases e : j = i
      · subst e
        match cs, g1 with
        | [s, _, _, _, _, _], _ =>
          have hs := g2 0 s rfl
          rw [hxs j 0 hj (by omega)] at hs
          have hlt : j * 6 + 6 ≤ cur.size := by
            have : n * 6 ≤ cur.size := by rw [hcs]; exact Nat.mul_le_mul_right 6 hcap
            omega
          refine ⟨[s, c0, c1, c2, c3, c4], rfl, fun q u hu => ?_, hi' s _ g3⟩
          have hq : q < 6 := by have := (List.getElem?_eq_some_iff.1 hu).1; simpa using this
          rw [hq6 q hq]
          obtain rfl | rfl | rfl | rfl | rfl | rfl : q = 0 ∨ q = 1 ∨ q = 2 ∨ q = 3 ∨ q = 4 ∨ q = 5 := by omega
          · rw [Array.getElem?_setIfInBounds_ne (by omega), Array.getElem?_setIfInBounds_ne (by omega), Array.getElem?_setIfInBounds_ne (by omega), Array.getElem?_setIfInBounds_ne (by omega), Array.getElem?_setIfInBounds_ne (by omega), hs]
            exact hu
          all_goals
            simp at hu
            subst hu
            simp [Array.getElem?_setIfInBounds]
            try omega
      · refine ⟨cs, g1, fun q u hu => ?_, hQ j cs e hj g3⟩
        have hq : q < 6 := by have := (List.getElem?_eq_some_iff.1 hu).1; omega
        have h0 := g2 q u hu
        rw [hxs j q hj hq] at h0
        rw [hq6 q hq, Array.getElem?_setIfInBounds_ne (by omega), Array.getElem?_setIfInBounds_ne (by omega), Array.getElem?_setIfInBounds_ne (by omega), Array.getElem?_setIfInBounds_ne (by omega), Array.getElem?_setIfInBounds_ne (by omega), h0]
theorem nas_cells {w : World} {R : Nat → Nat → Prop} {b : Nat} : ∀ (l : List Na) (o : Nat), IsNasR w R b o l → ∃ xs : List Value, xs.length = l.length * 6 ∧ (∀ q u, xs[q]? = some u → w.cell? ⟨b, o + q, Option.none⟩ = some u) ∧ (∀ u ∈ xs, u.oneCell' = true) ∧
    ∀ (i : Nat) (hi : i < l.length), ∃ cs : List Value, cs.length = 6 ∧ (∀ q u, cs[q]? = some u → xs[i * 6 + q]? = some u) ∧ RdN.P w R cs l[i]
  | [], o, _ => ⟨[], rfl, fun q u h => by simp at h, by simp, fun i hi => absurd hi (by simp)⟩
  | (s, x) :: l, o, h => by
    unfold IsNasR at h
    obtain ⟨⟨h0, c0, c1, c2, c3, c4, hat, hx⟩, ht⟩ := h
    obtain ⟨xs, e1, e2, e3, e4⟩ := nas_cells l (o + 6) ht
    obtain ⟨k', n', s', A', len', cap', r', rfl, rfl, rfl, rfl, rfl⟩ := hx.cells
    refine ⟨[.string s, .int .u8 k', .int .i64 n', .string s', .slice A' len' cap', .int .i64 r'] ++ xs, by simp [e1]; omega, fun q u hu => ?_, fun u hu => ?_, fun i hi => ?_⟩
    · by_cases hq : q < 6
      · rw [List.getElem?_append_left (by simpa using hq)] at hu
        exact hat q u hu
      · rw [List.getElem?_append_right (by simp; omega)] at hu
        have := e2 _ u hu
        simp only [List.length_cons, List.length_nil] at this
        rwa [show o + 6 + (q - (0 + 1 + 1 + 1 + 1 + 1 + 1)) = o + q by omega] at this
    · rcases List.mem_append.1 hu with hu | hu
      · simp only [List.mem_cons, List.not_mem_nil, or_false] at hu
        rcases hu with rfl | rfl | rfl | rfl | rfl | rfl <;> rfl
      · exact e3 u hu
    · cases i with
      | zero => exact ⟨_, rfl, fun q u hu => by
          have hq : q < 6 := by have := (List.getElem?_eq_some_iff.1 hu).1; simpa using this
          rw [Nat.zero_mul, Nat.zero_add, List.getElem?_append_left (by simpa using hq)]; exact hu, h0, _, _, _, _, _, rfl, hx⟩
      | succ i =>
        obtain ⟨cs, g1, g2, g3⟩ := e4 i (by simpa using hi)
        refine ⟨cs, g1, fun q u hu => ?_, g3⟩
        rw [List.getElem?_append_right (by simp; omega)]
        have := g2 q u hu
        simp only [List.length_cons, List.length_nil]
        rwa [show (i + 1) * 6 + q - (0 + 1 + 1 + 1 + 1 + 1 + 1) = i * 6 + q by omega]
set_option maxRecDepth 100000 in
set_option maxHeartbeats 1000000 in
theorem Clone124_any {B : Nat} {v : Value} {l : List Na} (w : World) (h : IsNs w B v l) (hB : B ≤ w.heap.size) :
    Calls Try.prog 124 #[v] w fun e w' => ∃ v', e = .returned v' ∧ NR w' w.heap.size v' l.length (fun i cs => ∃ hi : i < l.length, RdN.P w' (fun b _ => b < B) cs l[i]) ∧ Below w.heap.size w w' := by
  obtain ⟨hlen, A, cap, hcap, rfl, h7⟩ := h
  obtain ⟨i0, hi, hz0, hz1, hz2⟩ := info_parts info73
  have HIN := Lib.hid hi
  clear hi
  cases A with
  | none =>
    have hl0 : l = [] := by
      cases l with
      | nil => rfl
      | cons x l => obtain ⟨_, _, _, hA, _⟩ := h7 (by simp); cases hA
    subst hl0
    have heq := fun w => Lib.run_eql_slice_nil (P := Try.prog) w 22 73 Option.none 0 cap 0 0 Try.underlying22
    go_enter Try.func124, Try.ntmps124
    go_wp2_with fail
    go_ret
    exact ⟨_, rfl, ⟨[], World.ownsRow_nil _ _ _ _, fun i hi => by simp at hi⟩, Below.refl _ _⟩
  | some ad =>
    have heq := fun w => Lib.run_eql_slice_nil (P := Try.prog) w 22 73 (some ad) l.length cap 0 0 Try.underlying22
    obtain ⟨xs, e1, e2, e3, e4⟩ : ∃ xs : List Value, xs.length = l.length * 6 ∧ (∀ q u, xs[q]? = some u → w.cell? (ad.add q) = some u) ∧ (∀ u ∈ xs, u.oneCell' = true) ∧ ∀ (i : Nat) (hi : i < l.length), ∃ cs : List Value, cs.length = 6 ∧ (∀ q u, cs[q]? = some u → xs[i * 6 + q]? = some u) ∧ RdN.P w (fun b _ => b < B) cs l[i] := by
      by_cases hl0 : l = []
      · subst hl0
        exact ⟨[], rfl, fun q u h => by simp at h, by simp, fun i hi => absurd hi (by simp)⟩
      · obtain ⟨b, o, hb, hA, hx⟩ := h7 hl0
        cases hA
        obtain ⟨xs, g1, g2, g3, g4⟩ := nas_cells l o hx
        exact ⟨xs, g1, fun q u hu => by
          rw [show (⟨b, o, Option.none⟩ : Addr).add q = ⟨b, o + q, Option.none⟩ from by unfold Addr.add; split <;> simp_all]
          exact g2 q u hu, g3, g4⟩
    have E2 := Lib.hid e2
    have E3 := Lib.hid e3
    have E4 := Lib.hid e4
    have E1 := Lib.hid e1
    have hba : Below w.heap.size w (w.alloc (.cells #[] 73)) := (Below.refl _ _).alloc (Nat.le_refl _) _
    have HBA := Lib.hid hba
    have hown : (w.alloc (.cells #[] 73)).ownsRow w.heap.size 73 6 (.slice (some ⟨w.heap.size, 0, Option.none⟩) 0 0) 0 [] := ⟨rfl, .inr ⟨w.heap.size, 0, #[], rfl, Nat.le_refl _, (BlkN.at_ (w := w) rfl 73 #[]), Nat.le_refl _, by unfold maxLen; omega, rfl, rfl⟩⟩
    have HOWN := Lib.hid hown
    clear e1 e2 e3 e4 hba hown h7
    go_enter Try.func124, Try.ntmps124
    go_wp2_with (refine wpList_append_row _ rfl (.tmp 5) (.tmp 6) 22 rfl w.heap.size 73 i0 _ 6 80 Try.underlying22 HIN.out hz0 hz1 hz2 rfl (by decide) (.slice (some ⟨w.heap.size, 0, Option.none⟩) 0 0) 0 [] rfl HOWN.out ad l.length cap xs rfl E1.out ?hy2 E3.out ?hy4 ?hy5 ?hy6 ?_)
    case hy2 =>
      intro j u hu
      have h1 := E2.out j u hu
      exact (HBA.out.cell (p := ad.add j) (block_lt_of_cell h1)).trans h1
    case hy4 => unfold maxLen; omega
    case hy5 => omega
    case hy6 => simp
    intro v' w3 hown' hgrow hor
    have hb3 : Below w.heap.size w w3 := HBA.out.grown hgrow (by simp) (fun g hg => by simp [Value.ownBlock] at hg; omega)
    have HB3 := Lib.hid hb3
    have HO := Lib.hid hown'
    clear hown' hgrow hor hb3
    go_wp2_with fail
    go_ret
    refine ⟨_, rfl, ⟨xs, HO.out, fun i hi => ?_⟩, HB3.out⟩
    obtain ⟨cs, g1, g2, g3⟩ := E4.out i hi
    exact ⟨cs, g1, g2, hi, RdN.keep (fun b o hb => HB3.out.block b (by omega)) g3⟩
/-- .. as the values are made the call's own, one behind the other. -/
def OwnAt (w : World) (lo B : Nat) (v : Value) (l : List Na) (j i : Nat) (cs : List Value) : Prop :=
  ∃ hi : i < l.length, if i < j then RdN34.P w (fun b o => RN 0 lo w b o ∧ v.ownBlock ≠ some b) cs l[i] else RdN.P w (fun b _ => b < B) cs l[i]
theorem mayNs_all {l : List Na} (h : mayNs l = true) (i : Nat) (hi : i < l.length) : mayV l[i].2 = true := by
  simp only [mayNs, Bool.and_eq_true, List.all_eq_true] at h
  exact (h.1.2 _ (List.getElem_mem hi)).2
set_option maxRecDepth 100000 in
set_option maxHeartbeats 2000000 in
theorem ownNames89_any {B : Nat} {v : Value} {l : List Na} (w : World) (h : IsNs w B v l) (hB : B ≤ w.heap.size) (hm : mayNs l = true) :
    Calls Try.prog 89 #[v] w fun e w' => ∃ v', e = .returned v' ∧ NR w' w.heap.size v' l.length (OwnAt w' w.heap.size B v' l l.length) ∧ Below w.heap.size w w' := by
  have C124 := Lib.hid (Clone124_any w h hB)
  have HM := Lib.hid hm
  have hlen := h.1
  obtain ⟨A, cap, rfl, hcap⟩ := h.list
  clear h hm
  go_enter Try.func89, Try.ntmps89
  go_wp2_with (go_at_call 124; refine C124.out.mono ?_; rintro e w1 ⟨v1, rfl, hv1, hb1⟩; obtain ⟨A1, cap1, rfl, hcap1⟩ := hv1.val)
  have HV0 : Hid (NR w1 w.heap.size (.slice A1 l.length cap1) l.length (OwnAt w1 w.heap.size B (.slice A1 l.length cap1) l 0)) := Lib.hid (hv1.imp fun i cs hi ⟨hi', hp⟩ => ⟨hi', by rw [if_neg (by omega)]; exact hp⟩)
  have HB0 := Lib.hid hb1
  clear hv1 hb1
  go_loopw [9] (fun i wr => ∃ j : Nat, j ≤ l.length ∧ i = .int .i64 j ∧ NR wr w.heap.size (.slice A1 l.length cap1) l.length (OwnAt wr w.heap.size B (.slice A1 l.length cap1) l j) ∧ Below w.heap.size w wr) (fun i _ => l.length - (intOf i).toNat)
  case atStart => exact ⟨0, by omega, rfl, HV0.out, HB0.out⟩
  case round =>
    obtain ⟨j, hj, rfl, hv, hu⟩ := hrel
    have HV := Lib.hid hv
    have HU := Lib.hid hu
    by_cases hlt : j < l.length
    · obtain ⟨g, cap', cur, he, hlo, hcur, hcapc, hcs, hel⟩ := hv.open (by omega)
      simp only [Value.slice.injEq] at he
      obtain ⟨rfl, _, rfl⟩ := he
      obtain ⟨cs, hcl, hat, hi', hp⟩ := hel j hlt
      rw [if_neg (by omega)] at hp
      obtain ⟨hsz, c0, c1, c2, c3, c4, rfl, hx⟩ := hp
      obtain ⟨k', n', s', A', len', cap'', r', rfl, rfl, rfl, rfl, rfl⟩ := hx.cells
      obtain ⟨e0, e1, e2, e3, e4, e5⟩ := hat.six
      have hcu : l.length * 6 ≤ cur.size := by rw [hcs]; exact Nat.mul_le_mul_right 6 hcapc
      have f1 := hcur.free (j * 6 + 1)
      have f2 := hcur.free (j * 6 + 1 + 1)
      have f3 := hcur.free (j * 6 + 1 + 2)
      have f4 := hcur.free (j * 6 + 1 + 3)
      have f5 := hcur.free (j * 6 + 1 + 4)
      have hgl := hcur.lt
      have hOx := ownXE_yes (mayNs_all HM.out j hlt)
      have hB2 : B ≤ wr.heap.size := Nat.le_trans hB HU.out.size
      have C85 := fun w' (hb : Below wr.heap.size wr w') => Own_any (B := B) w' (IsVaR.keep (fun b o hr => hb.block b (Nat.lt_of_lt_of_le hr hB2)) hx) (Nat.le_trans hB2 hb.size)
      rw [hOx.1, hOx.2] at C85
      have C85' := Lib.hid C85
      obtain ⟨sn, hsn⟩ : ∃ sn, sn = l[j].1 := ⟨_, rfl⟩
      rw [← hsn] at e0
      have HSN := Lib.hid hsn
      have HCU := Lib.hid hcur
      have hbx : Below wr.heap.size wr (wr.alloc (.cells #[.string sn, .int .u8 k', .int .i64 n', .string s', .slice A' len' cap'', .int .i64 r'] 73)) := (Below.refl _ _).alloc (Nat.le_refl _) _
      have HBX := Lib.hid hbx
      clear hv hu hel hat hx hsn hOx C85 hbx hcur
      go_wp2_with (go_at_call 85; refine (C85'.out _ HBX.out).mono ?_; rintro e w2 ⟨v2, rfl, hv2, hb2⟩; obtain ⟨k2, n2, s2, A2, len2, cap2, r2, rfl⟩ := hv2.shape; have hcu2 := (HCU.out.below HBX.out).below hb2; have g1 : w2.cell? ⟨g, j * 6 + 1, Option.none⟩ = some (.int .u8 k') := ((bnext HBX.out hb2).cell (p := ⟨g, j * 6 + 1, Option.none⟩) hgl).trans e1; have g2 : w2.cell? ⟨g, j * 6 + 1 + 1, Option.none⟩ = some (.int .i64 n') := ((bnext HBX.out hb2).cell (p := ⟨g, j * 6 + 1 + 1, Option.none⟩) hgl).trans e2; have g3 : w2.cell? ⟨g, j * 6 + 1 + 2, Option.none⟩ = some (.string s') := ((bnext HBX.out hb2).cell (p := ⟨g, j * 6 + 1 + 2, Option.none⟩) hgl).trans e3; have g4 : w2.cell? ⟨g, j * 6 + 1 + 3, Option.none⟩ = some (.slice A' len' cap'') := ((bnext HBX.out hb2).cell (p := ⟨g, j * 6 + 1 + 3, Option.none⟩) hgl).trans e4; have g5 : w2.cell? ⟨g, j * 6 + 1 + 4, Option.none⟩ = some (.int .i64 r') := ((bnext HBX.out hb2).cell (p := ⟨g, j * 6 + 1 + 4, Option.none⟩) hgl).trans e5; have f1 := hcu2.free (j * 6 + 1); have f2 := hcu2.free (j * 6 + 1 + 1); have f3 := hcu2.free (j * 6 + 1 + 2); have f4 := hcu2.free (j * 6 + 1 + 3); have f5 := hcu2.free (j * 6 + 1 + 4))
      have hb12 : Below wr.heap.size wr w2 := bnext HBX.out hb2
      have hs12 := hb12.size
      have hkW : ∀ b, b ≠ g → (set5 w2 g (j * 6 + 1) (.int .u8 k2) (.int .i64 n2) (.string s2) (.slice A2 len2 cap2) (.int .i64 r2)).heap[b]? = w2.heap[b]? := fun b hb => set5_other _ _ _ _ _ _ _ _ hb
      have hszW : (set5 w2 g (j * 6 + 1) (.int .u8 k2) (.int .i64 n2) (.string s2) (.slice A2 len2 cap2) (.int .i64 r2)).heap.size = w2.heap.size := by simp [set5, World.setCell]
      have HW : Hid (NR (set5 w2 g (j * 6 + 1) (.int .u8 k2) (.int .i64 n2) (.string s2) (.slice A2 len2 cap2) (.int .i64 r2)) w.heap.size (.slice (some ⟨g, 0, Option.none⟩) l.length cap1) l.length (OwnAt (set5 w2 g (j * 6 + 1) (.int .u8 k2) (.int .i64 n2) (.string s2) (.slice A2 len2 cap2) (.int .i64 r2)) w.heap.size B (.slice (some ⟨g, 0, Option.none⟩) l.length cap1) l (j + 1))) := Lib.hid (by
        refine NR.store (HV.out.below hb12) j hlt _ _ _ _ _ (fun i cs hij hi ⟨hi2, hp⟩ => ⟨hi2, ?_⟩) (fun s cs ⟨hi2, hp⟩ => ⟨hi2, ?_⟩)
        · by_cases hc : i < j
          · rw [if_pos hc] at hp
            rw [if_pos (by omega)]
            exact RdN34.mono (fun b o hr => ⟨⟨hr.1.1, by rw [hszW]; exact Nat.lt_of_lt_of_le hr.1.2 hs12⟩, hr.2⟩) (RdN34.keep (fun b o hr => (hkW b (fun e => hr.2 (by rw [e]; rfl))).trans (hb12.block b hr.1.2)) hp)
          · rw [if_neg hc] at hp
            rw [if_neg (by omega)]
            exact RdN.keep (fun b o hr => (hkW b (by omega)).trans (hb12.block b (by omega))) hp
        · rw [if_neg (by omega)] at hp
          rw [if_pos (by omega)]
          obtain ⟨h0, d0, d1, d2, d3, d4, hd, _⟩ := hp
          simp only [List.cons.injEq] at hd
          refine ⟨h0, _, _, _, _, _, by rw [hd.1], ?_⟩
          refine (hv2.keep (fun b o hr => hkW b (by have := hr.1; simp at this; omega))).mono fun b o hr => ⟨⟨⟨.inr (by have := hr.1; have := HU.out.size; simp at *; omega), by rw [hszW]; exact hr.lt⟩, fun e => by have := hr.1; simp [Value.ownBlock] at this e; omega⟩, hr.2.1, ?_⟩
          obtain ⟨cur', hc'⟩ := hr.2.2
          exact ⟨cur', (hkW b (by have := hr.1; simp at this; omega)).trans hc'⟩)
      have HBW : Hid (Below w.heap.size w (set5 w2 g (j * 6 + 1) (.int .u8 k2) (.int .i64 n2) (.string s2) (.slice A2 len2 cap2) (.int .i64 r2))) := Lib.hid (by
        unfold set5
        exact (((((bnext HU.out hb12).setCell hlo _).setCell hlo _).setCell hlo _).setCell hlo _).setCell hlo _)
      clear hb12 hs12 hkW hszW hv2 hb2
      go_roundw
      case rel => exact ⟨j + 1, by omega, by go_num, HW.out, HBW.out⟩
      case measure => simp [intOf]; omega
    · obtain rfl : j = l.length := by omega
      go_wp2_with fail
      go_ret
      exact ⟨_, rfl, HV.out, HU.out⟩
end Go.Proofs.Ytnknefdpglnbnaa
namespace Go.Proofs.Ytnknefdpglnbnaa
open Go.RowKit

def setN (ns : List Na) (s : ByteArray) (v : Va) : List Na := ns.map fun x => if x.1.toList == s.toList then (x.1, v) else x
/-- What Set answers. -/
def setW (ns : List Na) (s : ByteArray) (v : Va) : List Na × Int :=
  if mayNs ns && (mayN s && mayV v) then (if getB ns s then (setN ns s v, 0) else if 64 ≤ ns.length then ([], 8) else (ns ++ [(s, v)], 0)) else ([], 2)
theorem NR.own73 {w : World} {lo B : Nat} {v : Value} {l : List Na} (h : NR w lo v l.length (OwnAt w lo B v l l.length)) : Own73 RdN34 w 0 lo v l := by
  obtain ⟨xs, h1, h2⟩ := h
  refine ⟨xs, h1, fun i hi => ?_⟩
  obtain ⟨cs, g1, g2, hi', g3⟩ := h2 i hi
  rw [if_pos hi] at g3
  exact ⟨cs, g1, g2, g3⟩
theorem GRow.low {α : Type} {D : Rd α} {E : TypeId} {sz : Nat} {w : World} {B lo lo' : Nat} {v : Value} {vs : List α} {xs : List Value} (h : GRow D E sz w B lo v vs xs) (hl : lo' ≤ lo) : GRow D E sz w B lo' v vs xs := by
  obtain ⟨⟨h0, h1⟩, h2⟩ := h
  refine ⟨⟨h0, h1.imp id fun ⟨g, cap, cur, a1, a2, a3⟩ => ⟨g, cap, cur, a1, Nat.le_trans hl a2, a3⟩⟩, fun i hi => ?_⟩
  obtain ⟨cs, g1, g2, g3⟩ := h2 i hi
  exact ⟨cs, g1, g2, D.mono (fun b o hr => ⟨hr.1.low hl, hr.2⟩) g3⟩
theorem Own73.low {D : Rd Na} {w : World} {B lo lo' : Nat} {v : Value} {l : List Na} (h : Own73 D w B lo v l) (hl : lo' ≤ lo) : Own73 D w B lo' v l := by
  obtain ⟨xs, h⟩ := h; exact ⟨xs, h.low hl⟩
theorem setN_set (l : List Na) (s : ByteArray) (v : Va) (j : Nat) (hj : j < l.length) (hu : uniq (l.map (·.1))) (he : (l[j].1.toList == s.toList) = true) : setN l s v = l.set j (l[j].1, v) := by
  apply List.ext_getElem
  · simp [setN]
  · intro i h1 h2
    have hi : i < l.length := by simpa [setN] using h1
    simp only [setN, List.getElem_map, List.getElem_set]
    by_cases e : j = i
    · subst e; simp only [he, if_true]
    · rw [if_neg e, if_neg]
      intro hc
      rw [beq_iff_eq] at he hc
      have hd : l[i].1.data.toList = l[j].1.data.toList := by rw [← ByteArray.toList_eq, ← ByteArray.toList_eq, hc, he]
      unfold uniq at hu
      have hp := List.pairwise_iff_getElem.1 hu
      rcases Nat.lt_or_ge i j with h | h
      · have := hp i j (by simpa using hi) (by simpa using hj) h
        simp only [List.getElem_map] at this
        exact this hd
      · have := hp j i (by simpa using hj) (by simpa using hi) (by omega)
        simp only [List.getElem_map] at this
        exact this hd.symm
theorem mayNs_uniq {l : List Na} (h : mayNs l = true) : uniq (l.map (·.1)) := by
  simp only [mayNs, Bool.and_eq_true, twB, Bool.not_not, decide_eq_true_eq] at h
  exact h.2
theorem mayNs_len {l : List Na} (h : mayNs l = true) : l.length ≤ 64 := by
  simp only [mayNs, Bool.and_eq_true, decide_eq_true_eq] at h
  exact h.1.1
/-- A value of the call's own stored into a name of such a row. -/
theorem Own73.store {w w' : World} {lo g cap n : Nat} {l : List Na} (h : Own73 RdN34 w 0 lo (.slice (some ⟨g, 0, Option.none⟩) n cap) l) (hn : n = l.length) (j : Nat) (hj : j < l.length) (y : Va) (c0 c1 c2 c3 c4 : Value) (hw : w' = set5 w g (j * 6 + 1) c0 c1 c2 c3 c4)
    (hy : IsVaR w (fun b o => (RN 0 lo w b o ∧ b ≠ g) ∧ T34 w b o) (.agg #[c0, c1, c2, c3, c4]) y) : Own73 RdN34 w' 0 lo (.slice (some ⟨g, 0, Option.none⟩) n cap) (l.set j (l[j].1, y)) := by
  subst hw hn
  obtain ⟨xs, h1, h2⟩ := h
  have hkW : ∀ b, b ≠ g → (set5 w g (j * 6 + 1) c0 c1 c2 c3 c4).heap[b]? = w.heap[b]? := fun b hb => set5_other _ _ _ _ _ _ _ _ hb
  have hszW : (set5 w g (j * 6 + 1) c0 c1 c2 c3 c4).heap.size = w.heap.size := by simp [set5, World.setCell]
  have hNR : NR w lo (.slice (some ⟨g, 0, Option.none⟩) l.length cap) l.length (fun i cs => ∃ hi : i < l.length, RdN34.P w (fun b o => RN 0 lo w b o ∧ (Value.slice (some ⟨g, 0, Option.none⟩) l.length cap).ownBlock ≠ some b) cs l[i]) :=
    ⟨xs, h1, fun i hi => by obtain ⟨cs, g1, g2, g3⟩ := h2 i hi; exact ⟨cs, g1, g2, hi, g3⟩⟩
  obtain ⟨xs', h1', h2'⟩ := hNR.store j hj c0 c1 c2 c3 c4 (Q := fun i cs => ∃ hi : i < (l.set j (l[j].1, y)).length, RdN34.P (set5 w g (j * 6 + 1) c0 c1 c2 c3 c4) (fun b o => RN 0 lo (set5 w g (j * 6 + 1) c0 c1 c2 c3 c4) b o ∧ (Value.slice (some ⟨g, 0, Option.none⟩) l.length cap).ownBlock ≠ some b) cs (l.set j (l[j].1, y))[i]) (fun i cs hij hi ⟨hi2, hp⟩ => ⟨by simpa using hi, by
      rw [List.getElem_set_ne (by omega)]
      exact RdN34.mono (fun b o hr => ⟨⟨hr.1.1, by rw [hszW]; exact hr.1.2⟩, hr.2⟩) (RdN34.keep (fun b o hr => hkW b (fun e => hr.2 (by rw [e]; rfl))) hp)⟩) (fun s cs ⟨hi2, hp⟩ => ⟨by simpa using hj, by
      rw [List.getElem_set_self]
      obtain ⟨h0, d0, d1, d2, d3, d4, hd, _⟩ := hp
      simp only [List.cons.injEq] at hd
      refine ⟨h0, _, _, _, _, _, by rw [hd.1], ?_⟩
      refine (hy.keep (fun b o hr => hkW b hr.1.2)).mono fun b o hr => ⟨⟨⟨hr.1.1.1, by rw [hszW]; exact hr.1.1.2⟩, fun e => hr.1.2 (by simp [Value.ownBlock] at e; exact e.symm)⟩, hr.2.1, ?_⟩
      obtain ⟨cur', hc'⟩ := hr.2.2
      exact ⟨cur', (hkW b hr.1.2).trans hc'⟩⟩)
  exact ⟨xs', by rw [List.length_set]; exact h1', fun i hi => by
    obtain ⟨cs, g1, g2, hi', g3⟩ := h2' i (by simpa using hi)
    exact ⟨cs, g1, g2, g3⟩⟩
/-- Set45 -/
theorem getB_drop (l : List Na) (nm : ByteArray) (j : Nat) (h : j < l.length) (hg : getN l nm = getN (l.drop j) nm) (he : (l[j].1.toList == nm.toList) = true) : getB l nm = true := by
  unfold getB
  rw [hg, getN_drop_cons l j h nm, he]
  rfl
set_option maxRecDepth 100000 in
set_option maxHeartbeats 4000000 in
theorem Set45_any {B : Nat} {vn v : Value} {ns : List Na} {x : Va} (s : ByteArray) (w : World) (hns : IsNs w B vn ns) (hv : IsVa w B v x) (hs : s.size ≤ 140737488351232) (hB : B ≤ w.heap.size) :
    Calls Try.prog 45 #[vn, .string s, v] w fun e w' => ∃ v', e = .returned (.tuple #[v', .int .i64 (setW ns s x).2]) ∧ Own73 RdN34 w' 0 w.heap.size v' (setW ns s x).1 ∧ Below w.heap.size w w' := by
  have C40 := Lib.hid (fun w' (hb : Below w.heap.size w w') => MayNames_any (B := B) w' (hns.keep fun b hl => hb.block b (by omega)) (Nat.le_trans hB hb.size))
  have C38 := Lib.hid (fun w' => mayName_any s w')
  have C64 := Lib.hid (fun w' (hb : Below w.heap.size w w') => vmay_any (B := B) (x := x) w' (hv.keep fun b hl => hb.block b (by omega)) (Nat.le_trans hB hb.size))
  have C85 := Lib.hid (fun w' (hb : Below w.heap.size w w') => Own_any (B := B) (x := x) w' (hv.keep fun b hl => hb.block b (by omega)) (Nat.le_trans hB hb.size))
  have C89 := Lib.hid (fun (hm : mayNs ns = true) w' (hb : Below w.heap.size w w') => ownNames89_any (B := B) w' (hns.keep fun b hl => hb.block b (by omega)) (Nat.le_trans hB hb.size) hm)
  obtain ⟨W, hWW⟩ : ∃ W, W = setW ns s x := ⟨_, rfl⟩
  rw [← hWW]
  have HW : Hid (W = if mayNs ns && (mayN s && mayV x) then (if getB ns s then (setN ns s x, 0) else if 64 ≤ ns.length then ([], 8) else (ns ++ [(s, x)], 0)) else ([], 2)) := Lib.hid hWW
  obtain ⟨An, ncap, rfl, hncap⟩ := hns.list
  obtain ⟨k, n, t, A, len, cap, r, rfl⟩ := hv.shape
  have HB0 := Lib.hid ((Below.refl w.heap.size w).alloc (Nat.le_refl _) (.cells #[.int .u8 k, .int .i64 n, .string t, .slice A len cap, .int .i64 r] 34))
  have HQ : Hid (BlkN (w.alloc (.cells #[.int .u8 k, .int .i64 n, .string t, .slice A len cap, .int .i64 r] 34)) w.heap.size 34 #[.int .u8 k, .int .i64 n, .string t, .slice A len cap, .int .i64 r]) := Lib.hid (BlkN.at_ rfl _ _)
  clear hns hv hWW
  cases hmn : mayNs ns
  · have HF : Hid (W = ([], 2)) := Lib.hid (by rw [HW.out, hmn]; rfl)
    rw [hmn] at C40
    clear C89 hmn
    go_enter Try.func45, Try.ntmps45
    go_wp2_with (go_at_call 40; refine (C40.out _ HB0.out).mono ?_; rintro e w1 ⟨rfl, hb1⟩)
    go_ret2
    exact ⟨.slice Option.none 0 0, by rw [HF.out]; rfl, by rw [HF.out]; exact own73_nil _ _ _ _, bnext HB0.out hb1⟩
  cases hms : mayN s
  · have HF : Hid (W = ([], 2)) := Lib.hid (by rw [HW.out, hms]; simp)
    rw [hmn] at C40
    rw [hms] at C38
    clear C89 hmn hms
    go_enter Try.func45, Try.ntmps45
    go_wp2_with (first | (go_at_call 40; refine (C40.out _ HB0.out).mono ?_; rintro e w1 ⟨rfl, hb1⟩) | (go_at_call 38; refine (C38.out _).mono ?_; rintro e w2 ⟨rfl, hb2⟩))
    go_ret2
    exact ⟨.slice Option.none 0 0, by rw [HF.out]; rfl, by rw [HF.out]; exact own73_nil _ _ _ _, bnext (bnext HB0.out hb1) hb2⟩
  cases hmv : mayV x
  · have HF : Hid (W = ([], 2)) := Lib.hid (by rw [HW.out, hmv]; simp)
    rw [hmn] at C40
    rw [hms] at C38
    rw [hmv] at C64
    clear C89 hmn hms hmv
    go_enter Try.func45, Try.ntmps45
    go_wp2_with (first | (go_at_call 40; refine (C40.out _ HB0.out).mono ?_; rintro e w1 ⟨rfl, hb1⟩) | (go_at_call 38; refine (C38.out _).mono ?_; rintro e w2 ⟨rfl, hb2⟩; have hq2 := (HQ.out.below hb1).below hb2; have q0 := hq2.cell 0 rfl; have q1 := hq2.cell 1 rfl; have q2 := hq2.cell 2 rfl; have q3 := hq2.cell 3 rfl; have q4 := hq2.cell 4 rfl; have hB2 := bnext (bnext HB0.out hb1) hb2) | (go_at_call 64; refine (C64.out _ hB2).mono ?_; rintro e w3 ⟨rfl, hb3⟩))
    go_ret2
    exact ⟨.slice Option.none 0 0, by rw [HF.out]; rfl, by rw [HF.out]; exact own73_nil _ _ _ _, bnext hB2 hb3⟩
  have HF : Hid (W = if getB ns s then (setN ns s x, 0) else if 64 ≤ ns.length then ([], 8) else (ns ++ [(s, x)], 0)) := Lib.hid (by rw [HW.out, hmn, hms, hmv]; rfl)
  have HMN := Lib.hid hmn
  have hl64 := mayNs_len hmn
  have C89' := Lib.hid (C89.out hmn)
  have hox := ownXE_yes hmv
  rw [hmn] at C40
  rw [hms] at C38
  rw [hmv] at C64
  rw [hox.1, hox.2] at C85
  clear C89 hmn hms hmv hox HW
  go_enter Try.func45, Try.ntmps45
  go_upto_region 5 with (first | (go_at_call 40; refine (C40.out _ HB0.out).mono ?_; rintro e w1 ⟨rfl, hb1⟩) | (go_at_call 38; refine (C38.out _).mono ?_; rintro e w2 ⟨rfl, hb2⟩; have hq2 := (HQ.out.below hb1).below hb2; have q0 := hq2.cell 0 rfl; have q1 := hq2.cell 1 rfl; have q2 := hq2.cell 2 rfl; have q3 := hq2.cell 3 rfl; have q4 := hq2.cell 4 rfl; have hB2 := bnext (bnext HB0.out hb1) hb2) | (go_at_call 64; refine (C64.out _ hB2).mono ?_; rintro e w3 ⟨rfl, hb3⟩; have hB3 := bnext hB2 hb3; have hq3 := hq2.below hb3) | (go_at_call 89; refine (C89'.out _ hB3).mono ?_; rintro e w4 ⟨v1, rfl, hv1, hb4⟩; obtain ⟨A1, cap1, rfl, hcap1⟩ := hv1.val; have hB4 := bnext hB3 hb4; have hq4 := hq3.below hb4; have q0 := hq4.cell 0 rfl; have q1 := hq4.cell 1 rfl; have q2 := hq4.cell 2 rfl; have q3 := hq4.cell 3 rfl; have q4 := hq4.cell 4 rfl) | (go_at_call 85; refine (C85.out _ hB4).mono ?_; rintro e w5 ⟨v2, rfl, hv2, hb5⟩; obtain ⟨k2, n2, t2, A2, len2, cap2, r2, rfl⟩ := hv2.shape; have hB5 := bnext hB4 hb5; have hq5 := hq4.below hb5; have q0 := hq5.cell 0 rfl; have q1 := hq5.cell 1 rfl; have q2 := hq5.cell 2 rfl; have q3 := hq5.cell 3 rfl; have q4 := hq5.cell 4 rfl; have f0 := hq5.free 0; have f1 := hq5.free 1; have f2 := hq5.free 2; have f3 := hq5.free 3; have f4 := hq5.free 4))
  obtain ⟨W6, hW6⟩ : ∃ W6, W6 = set5 w5 w.heap.size 0 (.int .u8 k2) (.int .i64 n2) (.string t2) (.slice A2 len2 cap2) (.int .i64 r2) := ⟨_, rfl⟩
  have hW6' : ((((w5.setCell ⟨w.heap.size, 0, Option.none⟩ (.int .u8 k2)).setCell ⟨w.heap.size, 1, Option.none⟩ (.int .i64 n2)).setCell ⟨w.heap.size, 2, Option.none⟩ (.string t2)).setCell ⟨w.heap.size, 3, Option.none⟩ (.slice A2 len2 cap2)).setCell ⟨w.heap.size, 4, Option.none⟩ (.int .i64 r2) = W6 := hW6.symm
  rw [hW6']
  have hs3 : w.heap.size + 1 ≤ w3.heap.size := by have := hq3.lt; omega
  have hs4 := hb4.size
  have hs5 := hb5.size
  have hk6 : ∀ b, b ≠ w.heap.size → W6.heap[b]? = w5.heap[b]? := fun b hb => by rw [hW6]; exact set5_other _ _ _ _ _ _ _ _ hb
  have hz6 : W6.heap.size = w5.heap.size := by rw [hW6]; simp [set5, World.setCell]
  have hq6 : BlkN W6 w.heap.size 34 #[.int .u8 k2, .int .i64 n2, .string t2, .slice A2 len2 cap2, .int .i64 r2] := by rw [hW6]; exact set5_blk (o := 0) hq5 _ _ _ _ _
  have hup : Upd w.heap.size w5 W6 := ⟨by rw [hW6]; rfl, by rw [hW6]; rfl, by rw [hW6]; rfl, by rw [hz6]; exact Nat.le_refl _, fun b _ hb => hk6 b hb⟩
  have hB6 : Below w.heap.size w W6 := by rw [hW6]; unfold set5; exact ((((hB5.setCell (Nat.le_refl _) _).setCell (Nat.le_refl _) _).setCell (Nat.le_refl _) _).setCell (Nat.le_refl _) _).setCell (Nat.le_refl _) _
  have hv1' : Own73 RdN34 W6 0 w3.heap.size (.slice A1 ns.length cap1) ns := by
    obtain ⟨xs, h⟩ := hv1.own73
    exact ⟨xs, (h.below hb5).upd hup (by omega) (Nat.zero_le _)⟩
  have hv2' : IsVaR W6 (Own34 W6 w4.heap.size) (.agg #[.int .u8 k2, .int .i64 n2, .string t2, .slice A2 len2 cap2, .int .i64 r2]) x := hv2.other hk6 (by omega)
  have HV1 := Lib.hid hv1'
  have HV2 := Lib.hid hv2'
  have HB6 := Lib.hid hB6
  have HQ6 := Lib.hid hq6
  have q0' := hq6.cell 0 rfl
  have q1' := hq6.cell 1 rfl
  have q2' := hq6.cell 2 rfl
  have q3' := hq6.cell 3 rfl
  have q4' := hq6.cell 4 rfl
  have HG4 : Hid (∀ g, (Value.slice A1 ns.length cap1).ownBlock = some g → g < w4.heap.size) := Lib.hid (fun g hg => by obtain ⟨xs, h⟩ := hv1.own73; exact (h.blk hg).2)
  have HZ6 : Hid (w3.heap.size ≤ w4.heap.size ∧ w4.heap.size ≤ W6.heap.size ∧ w.heap.size + 1 ≤ w3.heap.size) := Lib.hid (by omega)
  clear hW6 hW6' hs4 hs5 hk6 hz6 hq6 hup hB6 hv1' hv2' hv1 hv2 hb1 hb2 hb3 hb4 hb5 hq2 hq3 hq4 hq5 hB2 hB3 hB4 hB5 q0 q1 q2 q3 q4 f0 f1 f2 f3 f4 C40 C38 C64 C85 C89' HB0 HQ
  obtain ⟨W7, rfl⟩ : ∃ W7 : World, W7 = W6 := ⟨_, rfl⟩
  go_wp2_with fail
  go_loop [32] (fun i => ∃ j : Nat, j ≤ ns.length ∧ i = .int .i64 j ∧ getN ns s = getN (ns.drop j) s) (fun i => ns.length - (intOf i).toNat)
  case atStart => exact ⟨0, by omega, rfl, rfl⟩
  case round =>
    obtain ⟨j, hj, rfl, hgn⟩ := hrel
    have HGN := Lib.hid hgn
    clear hgn
    by_cases hlt : j < ns.length
    · obtain ⟨xs, hrow⟩ := HV1.out
      obtain ⟨A', cap', he, _, hr⟩ := hrow.row
      simp only [Value.slice.injEq] at he
      obtain ⟨rfl, _, rfl⟩ := he
      obtain ⟨g, cur, rfl, hlo, hcur, hcs, hel⟩ := hr (by rintro rfl; simp at hlt)
      obtain ⟨cs, hcl, hat, hsz, c0, c1, c2, c3, c4, rfl, hx⟩ := hel j hlt
      have e0 := hat 0 _ rfl
      rw [Nat.add_zero] at e0
      obtain ⟨sn, hsn⟩ : ∃ sn, sn = ns[j].1 := ⟨_, rfl⟩
      rw [← hsn] at e0
      have HSN := Lib.hid hsn
      have HCU := Lib.hid hcur
      have HCS := Lib.hid hcs
      have HLO := Lib.hid hlo
      clear hrow hr hel hat hx hsn hcur hcs hlo
      cases heq : (sn.toList == s.toList)
      · have HEQ := Lib.hid heq
        go_wp2_with fail
        go_round
        case rel => exact ⟨j + 1, by omega, by go_num, by rw [HGN.out, getN_drop_cons ns j hlt s, ← HSN.out, HEQ.out]; rfl⟩
        case measure => simp [intOf]; omega
      · have hcl6 : ns.length * 6 ≤ cur.size := HCS.out
        obtain ⟨u1, g1⟩ := HCU.out.some (j * 6 + 1) (by omega)
        obtain ⟨u2, g2⟩ := HCU.out.some (j * 6 + 1 + 1) (by omega)
        obtain ⟨u3, g3⟩ := HCU.out.some (j * 6 + 1 + 2) (by omega)
        obtain ⟨u4, g4⟩ := HCU.out.some (j * 6 + 1 + 3) (by omega)
        obtain ⟨u5, g5⟩ := HCU.out.some (j * 6 + 1 + 4) (by omega)
        have f1 := HCU.out.free (j * 6 + 1)
        have f2 := HCU.out.free (j * 6 + 1 + 1)
        have f3 := HCU.out.free (j * 6 + 1 + 2)
        have f4 := HCU.out.free (j * 6 + 1 + 3)
        have f5 := HCU.out.free (j * 6 + 1 + 4)
        have HFF : Hid (W = (ns.set j (ns[j].1, x), 0)) := Lib.hid (by rw [HF.out, getB_drop ns s j hlt HGN.out (by rw [← HSN.out]; exact heq), if_pos rfl, setN_set ns s x j hlt (mayNs_uniq HMN.out) (by rw [← HSN.out]; exact heq)])
        go_wp2_with fail
        go_ret2
        have hlo := HLO.out
        have hglt := HCU.out.lt
        have hne : ∀ b o, Own34 W7 w4.heap.size b o → b ≠ g := fun b o hr e => by
          subst e
          obtain ⟨cur', hc'⟩ := hr.2.2
          have := hc'.symm.trans HCU.out
          simp at this
        refine ⟨_, by rw [HFF.out]; rfl, ?_, ((((HB6.out.setCell (by show w.heap.size ≤ g; omega) _).setCell (by show w.heap.size ≤ g; omega) _).setCell (by show w.heap.size ≤ g; omega) _).setCell (by show w.heap.size ≤ g; omega) _).setCell (by show w.heap.size ≤ g; omega) _⟩
        rw [HFF.out]
        exact ((HV1.out.store rfl j hlt x _ _ _ _ _ rfl (HV2.out.mono fun b o hr => ⟨⟨⟨.inr (by have := hr.1; have := HZ6.out.1; omega), hr.lt⟩, hne b o hr⟩, hr.2⟩)).low (by have := HZ6.out.2.2; omega))
    · obtain rfl : j = ns.length := by omega
      have hnb : getB ns s = false := by unfold getB; rw [HGN.out, List.drop_length]; rfl
      have HF2 : Hid (W = if 64 ≤ ns.length then ([], 8) else (ns ++ [(s, x)], 0)) := Lib.hid (by rw [HF.out, hnb]; rfl)
      clear hnb
      by_cases h64 : 64 ≤ ns.length
      · have HFF : Hid (W = ([], 8)) := Lib.hid (by rw [HF2.out, if_pos h64])
        have h64' : (64 : Int) ≤ ns.length := by omega
        go_wp2_with fail
        go_ret2
        exact ⟨.slice Option.none 0 0, by rw [HFF.out]; rfl, by rw [HFF.out]; exact own73_nil _ _ _ _, HB6.out⟩
      · have HFF : Hid (W = (ns ++ [(s, x)], 0)) := Lib.hid (by rw [HF2.out, if_neg h64])
        have h64' : ¬ (64 : Int) ≤ ns.length := by omega
        obtain ⟨i0, hi, hz0, hz1, hz2⟩ := info_parts info73
        have HIN := Lib.hid hi
        clear hi
        obtain ⟨xs, hrow⟩ := HV1.out
        have HROW := Lib.hid hrow
        have hA1 : Below W7.heap.size W7 (W7.alloc (.cells #[.string s, .int .u8 k2, .int .i64 n2, .string t2, .slice A2 len2 cap2, .int .i64 r2] 73)) := (Below.refl _ _).alloc (Nat.le_refl _) _
        have HA1 := Lib.hid hA1
        clear hrow hA1
        go_wp2_with (refine wpList_append_row _ rfl (.tmp 52) (.tmp 56) 22 rfl w3.heap.size 73 i0 _ 6 80 Try.underlying22 HIN.out hz0 hz1 hz2 rfl (by decide) (.slice A1 ns.length cap1) ns.length xs rfl (HROW.out.below HA1.out).1 ⟨W7.heap.size, 0, Option.none⟩ 1 1 [.string s, .int .u8 k2, .int .i64 n2, .string t2, .slice A2 len2 cap2, .int .i64 r2] rfl rfl ?hy2 ?hy3 ?hy4 ?hy5 ?hy6 ?_)
        case hy3 => exact ⟨rfl, rfl, rfl, rfl, rfl, rfl⟩
        case hy4 => unfold maxLen; omega
        case hy5 => omega
        case hy6 => have := HZ6.out; simp; omega
        intro sl' w8 hown' hgrow hor
        have hb := HROW.out.below HA1.out
        have hz := HZ6.out
        have hpush := GRow.push (x := (s, x)) (cs := [.string s, .int .u8 k2, .int .i64 n2, .string t2, .slice A2 len2 cap2, .int .i64 r2]) (lo2 := w4.heap.size) hb rfl ⟨hs, _, _, _, _, _, rfl, (HV2.out.keep fun b o hr => HA1.out.block b hr.lt).mono fun b o hr => ⟨⟨.inr hr.1, by have := hr.lt; have := HA1.out.size; omega⟩, hr.2.1, by obtain ⟨cur, hc⟩ := hr.2.2; exact ⟨cur, (HA1.out.block b hc.lt).trans hc⟩⟩⟩ hz.1 (Nat.zero_le _) HG4.out hown' hgrow (by simpa using hor)
        have HU3 : Hid (Below w.heap.size w w8) := Lib.hid ((HB6.out.alloc HB6.out.size _).grown hgrow (HB6.out.alloc HB6.out.size _).size (fun g hg => by have := (HROW.out.blk hg).1; omega))
        have HP : Hid (Own73 RdN34 w8 0 w.heap.size sl' (ns ++ [(s, x)])) := Lib.hid (Own73.low ⟨_, hpush⟩ (by omega))
        clear hown' hgrow hor hpush hb hz
        go_wp2_with fail
        go_ret2
        exact ⟨_, by rw [HFF.out]; rfl, by rw [HFF.out]; exact HP.out, HU3.out⟩
end Go.Proofs.Ytnknefdpglnbnaa
