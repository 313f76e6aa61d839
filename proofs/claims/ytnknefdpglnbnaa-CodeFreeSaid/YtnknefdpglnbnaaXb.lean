/- The document's side of CodeUses: texts sorted, each once. -/
import Derived.Test.YtnknefdpglnbnaaXa
import Derived.Test.YtnknefdpglnbnaaLi
import Derived.BigQuiet
namespace Go.Proofs.Ytnknefdpglnbnaa
open Go Go.RowKit

def lessB (x y : ByteArray) : Bool := Op.bytesLess x.toList y.toList
/-- How many of them, from the front, are less. -/
def posU (x : ByteArray) : List ByteArray → Nat
  | [] => 0
  | y :: l => if lessB y x then posU x l + 1 else 0
def insU (o : List ByteArray) (x : ByteArray) : List ByteArray :=
  if (o[posU x o]?.map fun y => y.toList == x.toList) = some true then o else o.take (posU x o) ++ x :: o.drop (posU x o)
def sortU (l : List ByteArray) : List ByteArray := l.foldl insU []
theorem posU_le (x : ByteArray) : ∀ l, posU x l ≤ l.length
  | [] => Nat.le_refl _
  | y :: l => by
    have := posU_le x l
    unfold posU
    split <;> simp <;> omega
theorem posU_lt (x : ByteArray) : ∀ (l : List ByteArray) (q : Nat) (_h : q < posU x l), ∃ h : q < l.length, lessB l[q] x = true
  | [], q, h => by simp [posU] at h
  | y :: l, q, h => by
    unfold posU at h
    split at h
    · rename_i hy
      cases q with
      | zero => exact ⟨by simp, hy⟩
      | succ q =>
        obtain ⟨h1, h2⟩ := posU_lt x l q (by omega)
        exact ⟨by simpa using h1, by simpa using h2⟩
    · omega
theorem posU_at (x : ByteArray) : ∀ (l : List ByteArray) (h : posU x l < l.length), lessB l[posU x l] x = false
  | [], h => by simp at h
  | y :: l, h => by
    by_cases hy : lessB y x = true
    · have e : posU x (y :: l) = posU x l + 1 := by simp [posU, hy]
      have := posU_at x l (by rw [e] at h; simpa using h)
      simp only [e, List.getElem_cons_succ]
      exact this
    · have e : posU x (y :: l) = 0 := by simp [posU, hy]
      simp only [e, List.getElem_cons_zero]
      simpa using hy
theorem insU_len (o : List ByteArray) (x : ByteArray) : (insU o x).length ≤ o.length + 1 := by
  have := posU_le x o
  unfold insU
  split
  · omega
  · simp; omega
theorem sortU_len (l : List ByteArray) : (sortU l).length ≤ l.length := by
  unfold sortU
  suffices ∀ o : List ByteArray, (l.foldl insU o).length ≤ o.length + l.length by simpa using this []
  induction l with
  | nil => intro o; simp
  | cons x l ih =>
    intro o
    have := ih (insU o x)
    have := insU_len o x
    simp only [List.foldl_cons, List.length_cons]
    omega
theorem sortU_take (l : List ByteArray) (j : Nat) (h : j < l.length) : sortU (l.take (j + 1)) = insU (sortU (l.take j)) l[j] := by
  unfold sortU
  rw [List.take_add_one, List.getElem?_eq_getElem h, List.foldl_append]
  rfl
theorem nm_list {w : World} {lo : Nat} {sl : Value} {l : List ByteArray} (h : NmRow w lo sl l) : ∃ A cap, sl = .slice A l.length cap ∧ l.length ≤ cap ∧ ∀ (i : Nat) (hi : i < l.length), ∃ g, A = some ⟨g, 0, Option.none⟩ ∧ g < w.heap.size ∧ w.cell? ⟨g, i, Option.none⟩ = some (.string l[i]) := by
  have hc := h
  rcases h.2 with ⟨rfl, h0⟩ | ⟨g, cap, cur, rfl, h1, h2, h3, _⟩
  · exact ⟨Option.none, 0, by rw [h0], by omega, fun i hi => by omega⟩
  · refine ⟨_, cap, rfl, h3, fun i hi => ⟨g, rfl, lt_of_block h2, ?_⟩⟩
    have := World.ownsRow.cells hc (g := g) rfl i (.string l[i]) (by simp [List.getElem?_eq_getElem hi])
    rw [add_lit] at this
    exact this
theorem nm_shape {w : World} {lo : Nat} {A : Option Addr} {n c : Nat} {l : List ByteArray} (h : NmRow w lo (.slice A n c) l) : (A = Option.none ∧ c = 0 ∧ l = []) ∨ ∃ g, A = some ⟨g, 0, Option.none⟩ ∧ g < w.heap.size := by
  rcases h.2 with ⟨e, h0⟩ | ⟨g, cap, cur, e, h1, h2, _⟩
  · injection e with e1 e2 e3
    exact .inl ⟨e1, e3, List.eq_nil_of_length_eq_zero h0⟩
  · injection e with e1 e2 e3
    exact .inr ⟨g, e1, lt_of_block h2⟩
set_option maxRecDepth 100000 in
theorem wpList_append_nms {w : World} {ops : Array Oper} {rest : List Oper} {o : Oper} {a : Act} {Q : Exit → Act → World → Prop} (hgd : o.guard = Option.none) (s x : Operand)
    (ho : o.op = .call { callee := .builtin .append, args := #[s, x], argTypes := #[56, 56] }) (base : Nat) (v : Value) (n : Nat) (xs : List Value) (hs : a.eval s = v) (hown : w.ownsRow base 9 1 v n xs)
    (A : Option Addr) (m c : Nat) (hx : a.eval x = .slice A m c) (ys : List ByteArray) (hm : m = ys.length) (hA : ∀ (i : Nat) (hi : i < ys.length), ∃ ad, A = some ad ∧ w.cell? (ad.add i) = some (.string ys[i])) (h63 : n + ys.length ≤ maxLen) (hby : (n + ys.length) * 16 ≤ 140737488355328) (hbase : base ≤ w.heap.size)
    (h : ∀ v' w', w'.ownsRow base 9 1 v' (n + ys.length) (xs ++ ys.map Value.string) → w.grownBy w' v.ownBlock → wpList Try.prog ops Q rest (a.put o.dst v') w') : wpList Try.prog ops Q (o :: rest) a w := by
  obtain ⟨i0, hi, hz0, hz1, hz2⟩ := info_parts info9
  subst hm
  by_cases h0 : ys = []
  · subst h0
    refine wpList_append_zero hgd s x 56 ho base 9 i0 1 Try.underlying56 hi v n xs hs hown A c hx ?_
    exact h v w (by simpa using hown) ⟨rfl, rfl, rfl, Nat.le_refl _, fun _ _ _ => rfl⟩
  · obtain ⟨ad, rfl, _⟩ := hA 0 (by cases ys with | nil => exact absurd rfl h0 | cons => simp)
    refine wpList_append_row w hgd s x 56 ho base 9 i0 (.string ⟨#[]⟩) 1 16 Try.underlying56 hi hz0 hz1 hz2 rfl (by decide) v n xs hs hown ad ys.length c (ys.map Value.string) hx (by simp) (fun i u hu => ?_) (nm_one ys) h63 hby hbase (fun v' w' h1 h2 _ => h v' w' h1 h2)
    have hi' : i < ys.length := by have := (List.getElem?_eq_some_iff.1 hu).1; simpa using this
    obtain ⟨ad', e, hc⟩ := hA i hi'
    injection e with e
    subst e
    rw [hc]
    simp [List.getElem?_eq_getElem hi'] at hu
    rw [hu]
theorem nm_three {w : World} {lo : Nat} {sl : Value} {a b : List ByteArray} {x : ByteArray} (h : w.ownsRow lo 9 1 sl (0 + a.length + [x].length + b.length) (([] ++ a.map Value.string ++ [x].map Value.string) ++ b.map Value.string)) : NmRow w lo sl (a ++ x :: b) := by
  unfold NmRow
  have e1 : (a ++ x :: b).length = 0 + a.length + [x].length + b.length := by simp; omega
  have e2 : (a ++ x :: b).map Value.string = ([] ++ a.map Value.string ++ [x].map Value.string) ++ b.map Value.string := by simp
  rw [e1, e2]
  exact h
theorem add_off (g o j : Nat) : (⟨g, o, Option.none⟩ : Addr).add j = ⟨g, o + j, Option.none⟩ := by simp [Addr.add]
theorem one_cells (w6 : World) (x : ByteArray) : ∀ (i : Nat) (_hi : i < [x].length), ∃ ad, some (⟨w6.heap.size, 0, Option.none⟩ : Addr) = some ad ∧ (w6.alloc (.cells #[.string x] 9)).cell? (ad.add i) = some (.string [x][i]) := by
  intro i hi
  have h0 : i = 0 := by simpa using hi
  subst h0
  exact ⟨_, rfl, by rw [add_lit]; exact (Blk.new w6 9 (.string x)).cell⟩
/-- What is put in, where it is not there yet. -/
theorem insU_put (o : List ByteArray) (x : ByteArray) (h : ∀ h : posU x o < o.length, (o[posU x o].toList == x.toList) = false) : insU o x = o.take (posU x o) ++ x :: o.drop (posU x o) := by
  unfold insU
  rw [if_neg]
  intro e
  by_cases hl : posU x o < o.length
  · rw [List.getElem?_eq_getElem hl] at e
    have := h hl
    simp [this] at e
  · rw [List.getElem?_eq_none (by omega)] at e
    simp at e
theorem insU_met (o : List ByteArray) (x : ByteArray) (hl : posU x o < o.length) (h : (o[posU x o].toList == x.toList) = true) : insU o x = o := by
  unfold insU
  rw [if_pos]
  rw [List.getElem?_eq_getElem hl]
  simpa using h
attribute [local irreducible] wpList wpQuiet
set_option maxRecDepth 100000 in
set_option maxHeartbeats 2000000 in
theorem sorted102_any (l : List ByteArray) (w : World) (lo0 : Nat) (sl : Value) (h : NmRow w lo0 sl l) (hn : l.length ≤ 1000000) :
    Calls Try.prog 102 #[sl] w fun e w' => ∃ sl', e = .returned sl' ∧ NmRow w' w.heap.size sl' (sortU l) ∧ Below w.heap.size w w' := by
  obtain ⟨A, cap, rfl, hcap, hA⟩ := nm_list h
  have HA := Lib.hid hA
  obtain ⟨i0, hi, hz0, hz1, hz2⟩ := info_parts info9
  clear h hA
  go_enter Try.func102, Try.ntmps102
  go_wp2_with fail
  go_loopw [3, 4] (fun o i wr => ∃ j : Nat, j ≤ l.length ∧ i = .int .i64 j ∧ NmRow wr w.heap.size o (sortU (l.take j)) ∧ Below w.heap.size w wr) (fun _ i _ => l.length - (intOf i).toNat)
  case atStart => exact ⟨0, Nat.zero_le _, rfl, World.ownsRow_nil _ _ _ _, Below.refl _ _⟩
  case round =>
    obtain ⟨W, rfl⟩ : ∃ W : World, W = wr := ⟨_, rfl⟩
    obtain ⟨j, hj, rfl, hr, hb⟩ := hrel
    obtain ⟨O, hO⟩ : ∃ O, O = sortU (l.take j) := ⟨_, rfl⟩
    rw [← hO] at hr
    have hOl : O.length ≤ j := by rw [hO]; have := sortU_len (l.take j); simp at this; omega
    obtain ⟨Ao, co, rfl, hco, hOc⟩ := nm_list hr
    have HAO := Lib.hid (nm_shape hr)
    have HO := Lib.hid hO
    have HR := Lib.hid hr
    have HB := Lib.hid hb
    have HOC := Lib.hid hOc
    have hsr := hb.size
    clear hO hr hb hOc
    by_cases hlt : j < l.length
    · obtain ⟨g, hAe, hg, hgc⟩ := HA.out j hlt
      have HG := Lib.hid hgc
      subst hAe
      obtain ⟨x, hx⟩ : ∃ x, x = l[j] := ⟨_, rfl⟩
      rw [← hx] at HG
      have HX := Lib.hid hx
      have HE : Hid (sortU (l.take (j + 1)) = insU O x) := Lib.hid (by rw [hx, HO.out, sortU_take l j hlt])
      clear hx hgc
      obtain ⟨P, hP⟩ : ∃ P, P = posU x O := ⟨_, rfl⟩
      have hPl : P ≤ O.length := by rw [hP]; exact posU_le _ _
      have HP := Lib.hid hP
      clear hP
      go_wp2_with fail
      go_loopw [5] (fun i ws => ∃ q : Nat, q ≤ P ∧ i = .int .i64 q ∧ Below W.heap.size W ws) (fun i _ => P - (intOf i).toNat)
      case atStart => exact ⟨0, by omega, rfl, Below.refl _ _⟩
      case round =>
        obtain ⟨q, hq, rfl, hs⟩ := hrel
        have HS := Lib.hid hs
        have hss := hs.size
        clear hs
        have e2 := (World.cell?_of_block (w := w) (a := ⟨g, j, Option.none⟩) ((HS.out.block g (by omega)).trans (HB.out.block g hg))).trans HG.out
        by_cases hqP : q < P
        · have hqO : q < O.length := by omega
          obtain ⟨go, hAo, hgo, hco'⟩ := HOC.out q hqO
          obtain ⟨_, hless⟩ := posU_lt x O q (by rw [← HP.out]; exact hqP)
          have e1 := (World.cell?_of_block (w := W) (a := ⟨go, q, Option.none⟩) (HS.out.block go hgo)).trans hco'
          have hdec : decide ((q : Int) < (O.length : Int)) = true := by simp; omega
          have hl' : Op.bytesLess O[q].toList x.toList = true := hless
          subst hAo
          clear hco' hless
          go_wp2_with fail
          go_quiet (fail)
          go_wp2_with fail
          go_roundw
          case rel => exact ⟨q + 1, by omega, by go_num, belowN HS.out _⟩
          case measure => simp [intOf]; omega
        · obtain rfl : q = P := by omega
          by_cases hqO : q < O.length
          · obtain ⟨go, hAo, hgo, hco'⟩ := HOC.out q hqO
            have hless : lessB O[q] x = false := by
              have := posU_at x O (by rw [← HP.out]; exact hqO)
              simp only [← HP.out] at this
              exact this
            have e1 := (World.cell?_of_block (w := W) (a := ⟨go, q, Option.none⟩) (HS.out.block go hgo)).trans hco'
            have hdec : decide ((q : Int) < (O.length : Int)) = true := by simp; omega
            have hl' : Op.bytesLess O[q].toList x.toList = false := hless
            subst hAo
            clear hco' hless
            have HTK : Hid (∀ w', Below W.heap.size W w' → ∀ (i : Nat) (hi : i < (O.take q).length), ∃ ad, some (⟨go, 0, Option.none⟩ : Addr) = some ad ∧ w'.cell? (ad.add i) = some (.string (O.take q)[i])) := Lib.hid (fun w' hb i hi => by
              simp only [List.length_take] at hi
              obtain ⟨g', e, h1, h2⟩ := HOC.out i (by omega)
              injection e with e
              injection e with e
              subst e
              exact ⟨_, rfl, by rw [add_lit, List.getElem_take]; exact (World.cell?_of_block (hb.block go h1)).trans h2⟩)
            have HDP : Hid (∀ w', Below W.heap.size W w' → ∀ (i : Nat) (hi : i < (O.drop q).length), ∃ ad, some (⟨go, q, Option.none⟩ : Addr) = some ad ∧ w'.cell? (ad.add i) = some (.string (O.drop q)[i])) := Lib.hid (fun w' hb i hi => by
              simp only [List.length_drop] at hi
              obtain ⟨g', e, h1, h2⟩ := HOC.out (q + i) (by omega)
              injection e with e
              injection e with e
              subst e
              exact ⟨_, rfl, by rw [add_off, List.getElem_drop]; exact (World.cell?_of_block (hb.block go h1)).trans h2⟩)
            cases heq : (O[q].toList == x.toList)
            · have HPUT : Hid (insU O x = O.take q ++ x :: O.drop q) := Lib.hid (by
                rw [HP.out]
                refine insU_put O x fun h => ?_
                simp only [← HP.out]
                exact heq)
              go_wp2_with fail
              go_quiet (fail)
              go_wp2_with fail
              go_quiet (fail)
              go_wp2_with (first
                | (at_builtin; refine wpList_append_nms rfl (.tmp 45) (.tmp 48) rfl W.heap.size (.slice Option.none 0 0) 0 [] rfl (World.ownsRow_nil _ _ _ _) _ q _ rfl (O.take q) (by simp; omega) (fun i hi => HTK.out _ (belowN HS.out _) i hi) (by simp; unfold maxLen; omega) (by simp; omega) (belowN HS.out _).size ?_; intro v1 w6 r6 g6; have HR6 := Lib.hid r6; have hb6 := (belowN HS.out _).grown g6 (belowN HS.out _).size (fun k e => by cases e); have HB6 := Lib.hid hb6; have e26 := (World.cell?_of_block (w := w) (a := ⟨g, j, Option.none⟩) ((hb6.block g (by omega)).trans (HB.out.block g hg))).trans HG.out; clear r6 g6 hb6)
                | (at_builtin; refine wpList_append_nms rfl (.tmp 50) (.tmp 55) rfl W.heap.size v1 _ _ rfl (HR6.out.alloc _) _ 1 1 rfl [x] rfl (one_cells w6 x) (by simp; unfold maxLen; omega) (by simp; omega) (HB6.out.alloc HB6.out.size _).size ?_; intro v2 w7 r7 g7; have HR7 := Lib.hid r7; have hb7 := (HB6.out.alloc HB6.out.size (.cells #[.string x] 9)).grown g7 (HB6.out.alloc HB6.out.size _).size (fun k e => (HR6.out.lt k e).1); have HB7 := Lib.hid hb7; clear r7 g7 hb7)
                | (at_builtin; refine wpList_append_nms rfl (.tmp 57) (.tmp 60) rfl W.heap.size v2 _ _ rfl HR7.out _ (O.length - q) _ rfl (O.drop q) (by simp) (fun i hi => HDP.out _ HB7.out i hi) (by simp; unfold maxLen; omega) (by simp; omega) HB7.out.size ?_; intro v3 w8 r8 g8; have HR8 := Lib.hid r8; have hb8 := HB7.out.grown g8 HB7.out.size (fun k e => (HR7.out.lt k e).1); have HB8 := Lib.hid hb8; clear r8 g8 hb8))
              go_roundw
              case rel => exact ⟨j + 1, by omega, by go_num, by rw [HE.out, HPUT.out]; exact row_low (nm_three HR8.out) hsr, HB.out.trans (HB8.out.mono hsr)⟩
              case measure => simp [intOf]; omega
            · have HMET : Hid (insU O x = O) := Lib.hid (by
                refine insU_met O x (by rw [← HP.out]; exact hqO) ?_
                simp only [← HP.out]
                exact heq)
              go_wp2_with fail
              go_quiet (fail)
              go_wp2_with fail
              go_quiet (fail)
              go_wp2_with fail
              go_roundw
              case rel => exact ⟨j + 1, by omega, by go_num, by rw [HE.out, HMET.out]; exact own_below HR.out (belowN HS.out _), HB.out.trans ((belowN HS.out _).mono hsr)⟩
              case measure => simp [intOf]; omega
          · have hdec : decide ((q : Int) < (O.length : Int)) = false := by simp; omega
            obtain rfl : q = O.length := by omega
            rcases HAO.out with ⟨rfl, rfl, rfl⟩ | ⟨go, rfl, hgo⟩
            · have HPUT : Hid (insU [] x = [x]) := Lib.hid rfl
              go_wp2_with fail
              go_quiet (fail)
              go_wp2_with fail
              go_quiet (fail)
              go_wp2_with (first
                | (at_builtin; refine wpList_append_nms rfl (.tmp 50) (.tmp 55) rfl W.heap.size (.slice Option.none 0 0) 0 [] rfl (World.ownsRow_nil _ _ _ _) _ 1 1 rfl [x] rfl (one_cells _ x) (by simp; unfold maxLen; omega) (by simp) ((belowN HS.out _).alloc (belowN HS.out _).size _).size ?_; intro v2 w7 r7 g7; have HR7 := Lib.hid r7; have hb7 := ((belowN HS.out _).alloc (belowN HS.out _).size _).grown g7 ((belowN HS.out _).alloc (belowN HS.out _).size _).size (fun k e => by cases e); have HB7 := Lib.hid hb7; clear r7 g7 hb7)
                | (at_builtin; refine wpList_append_nms rfl (.tmp 57) (.tmp 60) rfl W.heap.size v2 _ _ rfl HR7.out _ 0 _ rfl [] rfl (fun i hi => by simp at hi) (by simp; unfold maxLen; omega) (by simp) HB7.out.size ?_; intro v3 w8 r8 g8; have HR8 := Lib.hid r8; have hb8 := HB7.out.grown g8 HB7.out.size (fun k e => (HR7.out.lt k e).1); have HB8 := Lib.hid hb8; clear r8 g8 hb8))
              go_roundw
              case rel => exact ⟨j + 1, by omega, by go_num, by rw [HE.out, HPUT.out]; exact row_low (by have := HR8.out; simpa using this) hsr, HB.out.trans (HB8.out.mono hsr)⟩
              case measure => simp [intOf]; omega
            · have HPUT : Hid (insU O x = O.take O.length ++ x :: []) := Lib.hid (by
                have := insU_put O x fun h => by have := HP.out; omega
                rw [this, ← HP.out]
                simp)
              have HTK : Hid (∀ w', Below W.heap.size W w' → ∀ (i : Nat) (hi : i < (O.take O.length).length), ∃ ad, some (⟨go, 0, Option.none⟩ : Addr) = some ad ∧ w'.cell? (ad.add i) = some (.string (O.take O.length)[i])) := Lib.hid (fun w' hb i hi => by
                simp only [List.length_take] at hi
                obtain ⟨g', e, h1, h2⟩ := HOC.out i (by omega)
                injection e with e
                injection e with e
                subst e
                exact ⟨_, rfl, by rw [add_lit, List.getElem_take]; exact (World.cell?_of_block (hb.block go h1)).trans h2⟩)
              go_wp2_with fail
              go_quiet (fail)
              go_wp2_with fail
              go_quiet (fail)
              go_wp2_with (first
                | (at_builtin; refine wpList_append_nms rfl (.tmp 45) (.tmp 48) rfl W.heap.size (.slice Option.none 0 0) 0 [] rfl (World.ownsRow_nil _ _ _ _) _ O.length _ rfl (O.take O.length) (by simp) (fun i hi => HTK.out _ (belowN HS.out _) i hi) (by simp; unfold maxLen; omega) (by simp; omega) (belowN HS.out _).size ?_; intro v1 w6 r6 g6; have HR6 := Lib.hid r6; have hb6 := (belowN HS.out _).grown g6 (belowN HS.out _).size (fun k e => by cases e); have HB6 := Lib.hid hb6; have e26 := (World.cell?_of_block (w := w) (a := ⟨g, j, Option.none⟩) ((hb6.block g (by omega)).trans (HB.out.block g hg))).trans HG.out; clear r6 g6 hb6)
                | (at_builtin; refine wpList_append_nms rfl (.tmp 50) (.tmp 55) rfl W.heap.size v1 _ _ rfl (HR6.out.alloc _) _ 1 1 rfl [x] rfl (one_cells w6 x) (by simp; unfold maxLen; omega) (by simp; omega) (HB6.out.alloc HB6.out.size _).size ?_; intro v2 w7 r7 g7; have HR7 := Lib.hid r7; have hb7 := (HB6.out.alloc HB6.out.size (.cells #[.string x] 9)).grown g7 (HB6.out.alloc HB6.out.size _).size (fun k e => (HR6.out.lt k e).1); have HB7 := Lib.hid hb7; clear r7 g7 hb7)
                | (at_builtin; refine wpList_append_nms rfl (.tmp 57) (.tmp 60) rfl W.heap.size v2 _ _ rfl HR7.out _ 0 _ rfl [] rfl (fun i hi => by simp at hi) (by simp; unfold maxLen; omega) (by simp; omega) HB7.out.size ?_; intro v3 w8 r8 g8; have HR8 := Lib.hid r8; have hb8 := HB7.out.grown g8 HB7.out.size (fun k e => (HR7.out.lt k e).1); have HB8 := Lib.hid hb8; clear r8 g8 hb8))
              go_roundw
              case rel => exact ⟨j + 1, by omega, by go_num, by rw [HE.out, HPUT.out]; exact row_low (nm_three HR8.out) hsr, HB.out.trans (HB8.out.mono hsr)⟩
              case measure => simp [intOf]; omega
    · obtain rfl : j = l.length := by omega
      go_wp2_with fail
      go_ret
      have hz := HR.out
      rw [HO.out, List.take_length] at hz
      exact ⟨_, rfl, (by have h2 := HO.out; rw [List.take_length] at h2; rw [← h2]; exact HR.out), HB.out⟩
end Go.Proofs.Ytnknefdpglnbnaa
