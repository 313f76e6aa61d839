/- The plain law of CodeJoins: what is used by two codes, one behind the other; whether they may be. The plain law of CodeJoins, of the blocks. CodeJoins: the two codes appended, one behind the other, read as one. -/
import Derived.Test.YtnknefdpglnbnaaZk
import Derived.Test.YtnknefdpglnbnaaH
import Derived.Test.YtnknefdpglnbnaaOc
import Derived.Test.YtnknefdpglnbnaaZi
namespace Go.Proofs.Ytnknefdpglnbnaa
open Go.RowKit

theorem joinI_nat0 : ∀ a b : Fin 64, bits .or .u8 (bits .or .u8 0 ((a.1 : Nat) : Int)) ((b.1 : Nat) : Int) = ((a.1 ||| b.1 : Nat) : Int) := by decide +kernel
theorem or_nat0 : ∀ a b : Fin 64, bits .or .u8 ((a.1 : Nat) : Int) ((b.1 : Nat) : Int) = ((a.1 ||| b.1 : Nat) : Int) := by decide +kernel
theorem lor64 (a b : Nat) (ha : a < 64) (hb : b < 64) : a ||| b < 64 := Nat.or_lt_two_pow (n := 6) ha hb
theorem joinI_nat (a : Nat) (y : Int) (ha : a < 64) : joinI a y = ((a ||| (y % 64).toNat : Nat) : Int) := by
  have h := joinI_nat0 ⟨a, ha⟩ ⟨(y % 64).toNat, by omega⟩
  simp only at h
  unfold joinI
  rw [show ((a : Int) % 64) = a from by omega]
  rw [show (((y % 64).toNat : Nat) : Int) = y % 64 from by omega] at h
  exact h
/-- The abilities, as a number. -/
def stepA (u : Nat) : St → Nat
  | .mk op _ _ ab _ _ _ _ _ _ _ => if op = 2 then u ||| (ab % 64).toNat else if op = 9 then u ||| 1 else u
def foldA (l : List (Int × St)) (u : Nat) : Nat := l.foldl (fun u x => stepA u x.2) u
theorem stepA_lor (u v : Nat) (x : St) : stepA (u ||| v) x = u ||| stepA v x := by
  obtain ⟨op, nm, sec, ab, wh, a, b, t, e, c, ws⟩ := x
  simp only [stepA]
  split
  · rw [Nat.or_assoc]
  · split
    · rw [Nat.or_assoc]
    · rfl
theorem foldA_lor (l : List (Int × St)) (u v : Nat) : foldA l (u ||| v) = u ||| foldA l v := by
  induction l generalizing v with
  | nil => rfl
  | cons x l ih =>
    show foldA l (stepA (u ||| v) x.2) = u ||| foldA l (stepA v x.2)
    rw [stepA_lor, ih]
theorem foldA_append (l m : List (Int × St)) : foldA (l ++ m) 0 = foldA l 0 ||| foldA m 0 := by
  unfold foldA
  rw [List.foldl_append]
  have := foldA_lor m (foldA l 0) 0
  rw [Nat.or_zero] at this
  exact this
theorem stepA_lt (u : Nat) (x : St) (h : u < 64) : stepA u x < 64 := by
  obtain ⟨op, nm, sec, ab, wh, a, b, t, e, c, ws⟩ := x
  simp only [stepA]
  split
  · exact lor64 _ _ h (by omega)
  · split
    · exact lor64 _ _ h (by omega)
    · exact h
theorem foldA_lt (l : List (Int × St)) (u : Nat) (h : u < 64) : foldA l u < 64 := by
  induction l generalizing u with
  | nil => exact h
  | cons x l ih => exact ih _ (stepA_lt u x.2 h)
theorem usesStep_a (u : US) (n : Nat) (x : St) (hu : u.a = n) (hn : n < 64) : (usesStep u x).a = (stepA n x : Nat) := by
  obtain ⟨op, nm, sec, ab, wh, a, b, t, e, c, ws⟩ := x
  simp only [usesStep, stepA]
  split
  · simp only [hu]; exact joinI_nat n ab hn
  · split
    · simp only [hu]; exact joinI_nat n 1 hn
    · split
      · exact hu
      · split <;> exact hu
theorem usesFold_a (l : List (Int × St)) (u : US) (n : Nat) (hu : u.a = n) (hn : n < 64) : (l.foldl (fun u x => usesStep u x.2) u).a = (foldA l n : Nat) := by
  induction l generalizing u n with
  | nil => exact hu
  | cons x l ih => exact ih _ _ (usesStep_a u n x.2 hu hn) (stepA_lt n x.2 hn)
theorem usesF_a (l : List (Int × St)) : (usesF l).a = (foldA l 0 : Nat) := usesFold_a l _ 0 rfl (by omega)
theorem usesF_or (l m : List (Int × St)) : (usesF (l ++ m)).a = bits .or .u8 (usesF l).a (usesF m).a := by
  rw [usesF_a, usesF_a, usesF_a, foldA_append]
  exact (or_nat0 ⟨foldA l 0, foldA_lt l 0 (by omega)⟩ ⟨foldA m 0, foldA_lt m 0 (by omega)⟩).symm
def makesS : St → Bool | .mk op _ _ _ _ _ _ _ _ _ _ => op == 3
def repS : St → Bool | .mk op _ _ _ _ a _ _ _ _ _ => op == 7 && !(namesX a).isEmpty
theorem usesFold_m (l : List (Int × St)) (u : US) : (l.foldl (fun u x => usesStep u x.2) u).m = (u.m || l.any fun x => makesS x.2) ∧ (l.foldl (fun u x => usesStep u x.2) u).r = (u.r || l.any fun x => repS x.2) := by
  induction l generalizing u with
  | nil => simp
  | cons x l ih =>
    obtain ⟨d, op, nm, sec, ab, wh, a, b, t, e, c, ws⟩ := x
    simp only [List.foldl_cons, List.any_cons]
    rw [(ih _).1, (ih _).2]
    simp only [usesStep, makesS, repS]
    by_cases h2 : op = 2
    · simp [h2]
    · by_cases h9 : op = 9
      · simp [h9]
      · by_cases h3 : op = 3
        · simp [h3]
        · by_cases h7 : op = 7
          · simp [h7, Bool.or_assoc]
          · have e3 : (op == 3) = false := by simpa using h3
            have e7 : (op == 7) = false := by simpa using h7
            simp [h2, h9, h3, h7, e3, e7]
theorem usesF_m (l : List (Int × St)) : (usesF l).m = l.any fun x => makesS x.2 := by have := (usesFold_m l ⟨0, false, false⟩).1; simpa [usesF] using this
theorem usesF_r (l : List (Int × St)) : (usesF l).r = l.any fun x => repS x.2 := by have := (usesFold_m l ⟨0, false, false⟩).2; simpa [usesF] using this
theorem usesF_m_append (l m : List (Int × St)) : (usesF (l ++ m)).m = ((usesF l).m || (usesF m).m) := by rw [usesF_m, usesF_m, usesF_m, List.any_append]
theorem usesF_r_append (l m : List (Int × St)) : (usesF (l ++ m)).r = ((usesF l).r || (usesF m).r) := by rw [usesF_r, usesF_r, usesF_r, List.any_append]
/-- A code that may be: all statements may be, and there are 512 at most. -/
theorem chk_zero_may (L : List St) (i : Nat) (hi : i ≤ 512) (h : (chk L i).2 = 0) : (L.all mayS) = true := by
  induction L generalizing i with
  | nil => rfl
  | cons x l ih =>
    simp only [chk] at h
    split at h
    · simp at h
    · split at h
      · rename_i hx; rw [List.all_cons, hx, Bool.true_and]; exact ih (i + 1) (by omega) h
      · simp at h
theorem chk_all (L : List St) (i : Nat) (h : (L.all mayS) = true) (hi : i + L.length ≤ 512) : chk L i = (0, 0) := by
  induction L generalizing i with
  | nil => rfl
  | cons x l ih =>
    simp only [List.all_cons, Bool.and_eq_true] at h
    simp only [List.length_cons] at hi
    simp only [chk]
    rw [if_neg (by omega), if_pos h.1]
    exact ih (i + 1) h.2 (by omega)
theorem chk_long (L : List St) (i : Nat) (h : (L.all mayS) = true) (hi : i ≤ 512) (hl : 512 < i + L.length) : chk L i = (512, 4) := by
  induction L generalizing i with
  | nil => simp at hl; omega
  | cons x l ih =>
    simp only [List.all_cons, Bool.and_eq_true] at h
    simp only [List.length_cons] at hl
    simp only [chk]
    by_cases hc : i = 512
    · simp [hc]
    · rw [if_neg hc, if_pos h.1]
      exact ih (i + 1) h.2 (by omega) (by omega)
theorem chkL_join (c d : List St) (hc : (chkL c).2 = 0) (hd : (chkL d).2 = 0) : chkL (c ++ d) = if (flats c 0).length + (flats d 0).length ≤ 512 then (0, 0) else (512, 4) := by
  unfold chkL at *
  have h1 := chk_zero_may _ 0 (by omega) hc
  have h2 := chk_zero_may _ 0 (by omega) hd
  have h3 : ((flats (c ++ d) 0).map (·.2)).all mayS = true := by rw [flats_append, List.map_append, List.all_append, h1, h2]; rfl
  have h4 : ((flats (c ++ d) 0).map (·.2)).length = (flats c 0).length + (flats d 0).length := by rw [flats_append]; simp
  split
  · exact chk_all _ 0 h3 (by omega)
  · exact chk_long _ 0 h3 (by omega) (by omega)
end Go.Proofs.Ytnknefdpglnbnaa
namespace Go.Proofs.Ytnknefdpglnbnaa
open Go.RowKit

mutual
theorem flat_snd : ∀ (x : St) (d d' : Int), (flat x d).map (·.2) = (flat x d').map (·.2)
  | .mk op nm sec ab wh a b t e c ws, d, d' => by
    simp only [flat, List.map_cons, List.map_append]
    rw [flats_snd t (d + 1) (d' + 1), flats_snd e (d + 1) (d' + 1), flats_snd c (d + 1) (d' + 1)]
theorem flats_snd : ∀ (l : List St) (d d' : Int), (flats l d).map (·.2) = (flats l d').map (·.2)
  | [], _, _ => by simp [flats]
  | x :: l, d, d' => by
    simp only [flats, List.map_append]
    rw [flat_snd x d d', flats_snd l d d']
end
theorem usesF_map (l : List (Int × St)) : usesF l = (l.map (·.2)).foldl usesStep ⟨0, false, false⟩ := by
  unfold usesF
  rw [List.foldl_map]
theorem usesF_depth (l : List St) (d d' : Int) : usesF (flats l d) = usesF (flats l d') := by rw [usesF_map, usesF_map, flats_snd l d d']
def blocksOf : St → List (List St) | .mk _ _ _ _ _ _ _ t e c _ => [t, e, c]
theorem flat_block (x : St) (d : Int) (b : List St) (hb : b ∈ blocksOf x) : ∃ p q, flat x d = p ++ (flats b (d + 1) ++ q) := by
  obtain ⟨op, nm, sec, ab, wh, xa, xb, t, e, c, ws⟩ := x
  simp only [blocksOf, List.mem_cons, List.not_mem_nil, or_false] at hb
  rcases hb with rfl | rfl | rfl
  · exact ⟨[(d, .mk op nm sec ab wh xa xb b e c ws)], flats e (d + 1) ++ flats c (d + 1), by simp [flat]⟩
  · exact ⟨(d, .mk op nm sec ab wh xa xb t b c ws) :: flats t (d + 1), flats c (d + 1), by simp [flat]⟩
  · exact ⟨(d, .mk op nm sec ab wh xa xb t e b ws) :: (flats t (d + 1) ++ flats e (d + 1)), [], by simp [flat]⟩
theorem flats_block (l : List St) (i : Nat) (hi : i < l.length) (b : List St) (hb : b ∈ blocksOf l[i]) : ∃ p q, flats l 0 = p ++ (flats b 1 ++ q) := by
  obtain ⟨p, q, h⟩ := flat_block l[i] 0 b hb
  refine ⟨flats (l.take i) 0 ++ p, q ++ flats (l.drop (i + 1)) 0, ?_⟩
  rw [flats_split l 0 i hi, h]
  simp
theorem block_chk (l : List St) (hl : (chkL l).2 = 0) (i : Nat) (hi : i < l.length) (b : List St) (hb : b ∈ blocksOf l[i]) : (chkL b).2 = 0 := by
  obtain ⟨p, q, h⟩ := flats_block l i hi b hb
  have h1 := chk_zero_may _ 0 (by omega) hl
  have h2 := chk_zero _ 0 (by omega) hl
  rw [h, List.map_append, List.map_append, List.all_append, List.all_append, Bool.and_eq_true, Bool.and_eq_true] at h1
  rw [h] at h2
  unfold chkL
  rw [flats_snd b 0 1, chk_all _ 0 h1.2.1 (by simp at h2 ⊢; omega)]
theorem sub0 : ∀ a b : Fin 64, (a.1 ||| b.1 = b.1) → bits .andNot .u8 ((a.1 : Nat) : Int) ((b.1 : Nat) : Int) = 0 := by decide +kernel
theorem block_a (l : List St) (i : Nat) (hi : i < l.length) (b : List St) (hb : b ∈ blocksOf l[i]) : bits .andNot .u8 (usesF (flats b 0)).a (usesF (flats l 0)).a = 0 := by
  obtain ⟨p, q, h⟩ := flats_block l i hi b hb
  rw [usesF_depth b 0 1, h, usesF_a, usesF_a, foldA_append, foldA_append]
  have h1 := foldA_lt (flats b 1) 0 (by omega)
  have h2 := foldA_lt p 0 (by omega)
  have h3 := foldA_lt q 0 (by omega)
  refine sub0 ⟨foldA (flats b 1) 0, h1⟩ ⟨foldA p 0 ||| (foldA (flats b 1) 0 ||| foldA q 0), lor64 _ _ h2 (lor64 _ _ h1 h3)⟩ ?_
  simp only
  apply Nat.eq_of_testBit_eq
  intro k
  simp only [Nat.testBit_or]
  cases (foldA (flats b 1) 0).testBit k <;> cases (foldA p 0).testBit k <;> simp
theorem block_m (l : List St) (i : Nat) (hi : i < l.length) (b : List St) (hb : b ∈ blocksOf l[i]) (h : (usesF (flats b 0)).m = true) : (usesF (flats l 0)).m = true := by
  obtain ⟨p, q, e⟩ := flats_block l i hi b hb
  rw [usesF_depth b 0 1] at h
  rw [e, usesF_m_append, usesF_m_append, h]
  simp
theorem block_r (l : List St) (i : Nat) (hi : i < l.length) (b : List St) (hb : b ∈ blocksOf l[i]) (h : (usesF (flats b 0)).r = true) : (usesF (flats l 0)).r = true := by
  obtain ⟨p, q, e⟩ := flats_block l i hi b hb
  rw [usesF_depth b 0 1] at h
  rw [e, usesF_r_append, usesF_r_append, h]
  simp
end Go.Proofs.Ytnknefdpglnbnaa
namespace Go.Proofs.Ytnknefdpglnbnaa
open Go.RowKit

/-- The cells of a list of statements, whose structs are these. -/
def cellsOf (ss : List SV) : List Value := ss.flatMap fun s => s.arr.toList
theorem cellsOf_len (ss : List SV) : (cellsOf ss).length = ss.length * 17 := by
  induction ss with
  | nil => rfl
  | cons s ss ih =>
    show (s.arr.toList ++ cellsOf ss).length = _
    rw [List.length_append, ih]
    simp [s.size]
    omega
theorem cellsOf_at (ss : List SV) (i : Nat) (hi : i < ss.length) (j : Nat) (hj : j < 17) : (cellsOf ss)[i * 17 + j]? = ss[i].arr.toList[j]? := by
  induction ss generalizing i with
  | nil => simp at hi
  | cons s ss ih =>
    show (s.arr.toList ++ cellsOf ss)[i * 17 + j]? = _
    cases i with
    | zero =>
      rw [Nat.zero_mul, Nat.zero_add, List.getElem?_append_left (by simp [s.size]; omega)]
      rfl
    | succ i =>
      rw [List.getElem?_append_right (by simp [s.size]; omega)]
      have e : (i + 1) * 17 + j - s.arr.toList.length = i * 17 + j := by simp [s.size]; omega
      rw [e, ih i (by simpa using hi)]
      rfl
theorem cellsOf_one (ss : List SV) : ∀ u ∈ cellsOf ss, u.oneCell' = true := by
  intro u hu
  obtain ⟨s, _, hs⟩ := List.mem_flatMap.1 hu
  exact s.one u hs
/-- The structs of a list of statements. -/
theorem svs_of {w : World} {R : Nat → Nat → Prop} {b : Nat} (l : List St) (o : Nat) (h : IsStsR w R b o l) : ∃ ss : List SV, ss.length = l.length ∧ (∀ j u, (cellsOf ss)[j]? = some u → w.cell? ⟨b, o + j, Option.none⟩ = some u) ∧ ∀ (i : Nat) (hi : i < l.length) (hs : i < ss.length), IsStR w R ss[i] l[i] := by
  induction l generalizing o with
  | nil => exact ⟨[], rfl, fun j u h => by simp [cellsOf] at h, fun i hi => absurd hi (by simp)⟩
  | cons x l ih =>
    unfold IsStsR at h
    obtain ⟨⟨s, h1, h2⟩, h3⟩ := h
    obtain ⟨ss, e, hc, hp⟩ := ih (o + 17) h3
    refine ⟨s :: ss, by simp [e], fun j u hj => ?_, fun i hi hs => ?_⟩
    · have hj' : (s.arr.toList ++ cellsOf ss)[j]? = some u := hj
      by_cases hlt : j < 17
      · rw [List.getElem?_append_left (by simp [s.size]; omega)] at hj'
        exact h1 j u hj'
      · rw [List.getElem?_append_right (by simp [s.size]; omega)] at hj'
        have := hc _ u hj'
        rw [show o + 17 + (j - s.arr.toList.length) = o + j from by simp [s.size]; omega] at this
        exact this
    · cases i with
      | zero => exact h2
      | succ i => exact hp i (by simpa using hi) (by simpa using hs)
/-- A row of the call's own with the cells of these structs reads as the list. -/
theorem LR_of_row {w : World} {base B : Nat} {v : Value} {l : List St} {ss : List SV} (h : w.ownsRow base 58 17 v l.length (cellsOf ss)) (hl : ss.length = l.length) (hB : B ≤ w.heap.size) (hp : ∀ (i : Nat) (hi : i < l.length) (hs : i < ss.length), IsSt w B ss[i] l[i]) (hby : l.length * 256 ≤ 140737488351232) :
    ∃ (A : Option Addr) (cap : Nat), v = .slice A l.length cap ∧ LR (fun b _ => b < w.heap.size) 256 A l.length cap l (fun b o => IsSts w w.heap.size b o l) := by
  rcases h.2 with ⟨rfl, h0⟩ | ⟨g, cap, cur, rfl, hbg, hg, hnc, _⟩
  · rw [h0]
    have : l = [] := List.eq_nil_of_length_eq_zero h0
    subst this
    exact ⟨Option.none, 0, rfl, LR_nil⟩
  · refine ⟨_, cap, rfl, rfl, hnc, hby, fun hne => ⟨g, 0, lt_of_block hg, rfl, ?_⟩⟩
    refine sts_of l 0 fun i hi => ⟨ss[i]'(by omega), fun j u hj => ?_, (hp i hi (by omega)).mono fun b o hb => Nat.lt_of_lt_of_le hb hB⟩
    have hj17 : j < 17 := by have := (List.getElem?_eq_some_iff.1 hj).1; simpa [SV.size] using this
    have hc := h.cells (g := g) rfl (i * 17 + j) u (by rw [cellsOf_at ss i (by omega) j hj17]; exact hj)
    rw [addP] at hc
    rw [Nat.zero_add]
    rwa [Nat.zero_add] at hc
theorem cellsOf_append (a b : List SV) : cellsOf (a ++ b) = cellsOf a ++ cellsOf b := by simp [cellsOf]
end Go.Proofs.Ytnknefdpglnbnaa
