/- SameTokens at one list; the statements' tokens: three lists that are one; the first one is written over. The statements' handed and left: tokens with room behind them, in which a mark stands. -/
import Derived.Test.YtjmelamllapmiaaGreatDoorRa
import Derived.Test.YtjmelamllapmiaaGreatDoorQ
namespace Go.Proofs.YtjmelamllapmiaaGreatDoor
open Go.RowKit

theorem At.five' {w : World} {b o : Nat} {c0 c1 c2 c3 c4 : Value} (h : At w b o [c0, c1, c2, c3, c4]) :
    w.cell? ⟨b, o, Option.none⟩ = some c0 ∧ w.cell? ⟨b, o + 1, Option.none⟩ = some c1 ∧ w.cell? ⟨b, o + 2, Option.none⟩ = some c2 ∧ w.cell? ⟨b, o + 3, Option.none⟩ = some c3 ∧ w.cell? ⟨b, o + 4, Option.none⟩ = some c4 :=
  ⟨h 0 c0 rfl, h 1 c1 rfl, h 2 c2 rfl, h 3 c3 rfl, h 4 c4 rfl⟩
theorem tkCells_get : ∀ (l : List Tk) (i : Nat) (hi : i < l.length) (j : Nat) (v : Value), (l[i]).arr.toList[j]? = some v → (tkCells l)[i * 5 + j]? = some v
  | t :: l, 0, _, j, v, h => by
    have hj : j < 5 := by have := (List.getElem?_eq_some_iff.1 h).1; simpa [Tk.arr] using this
    simp only [List.getElem_cons_zero] at h
    rw [Nat.zero_mul, Nat.zero_add, tkCells, List.getElem?_append_left (by simpa [Tk.arr] using hj)]
    exact h
  | t :: l, i + 1, hi, j, v, h => by
    have := tkCells_get l i (by simpa using hi) j v (by simpa using h)
    rw [tkCells, List.getElem?_append_right (by simp [Tk.arr]; omega)]
    have e : (i + 1) * 5 + j - t.arr.toList.length = i * 5 + j := by simp [Tk.arr]; omega
    rw [e]
    exact this
theorem tkCells_len : ∀ (l : List Tk), (tkCells l).length = l.length * 5
  | [] => rfl
  | t :: l => by simp [tkCells, tkCells_len l, Tk.arr]; omega
/-- A row of tokens reads as them. -/
theorem TRow.tks {w : World} {lo : Nat} {v : Value} {l : List Tk} (h : TRow w lo v l) (hl : l.length * 48 ≤ 140737488351232) {B : Nat} (hB : ∀ g, v.ownBlock = some g → g < B) : IsTks w B v l := by
  refine ⟨hl, ?_⟩
  rcases h.2 with ⟨rfl, h0⟩ | ⟨g, cap, cur, rfl, hb, hg, hc, hm, hs, ht⟩
  · obtain rfl : l = [] := List.eq_nil_of_length_eq_zero h0
    exact ⟨Option.none, 0, Nat.le_refl _, rfl, fun h => absurd rfl h⟩
  · refine ⟨_, cap, hc, rfl, fun _ => ⟨g, 0, hB g rfl, rfl, fun i hi j v hv => ?_⟩⟩
    have hj : j < 5 := by have := (List.getElem?_eq_some_iff.1 hv).1; simpa [Tk.arr] using this
    have h1 := tkCells_get l i hi j v hv
    rw [← ht, List.getElem?_take_of_lt (by omega)] at h1
    have hB : BlkN w g 58 cur := hg
    rw [hB.cell_eq, Nat.zero_add]
    simpa using h1
set_option maxRecDepth 100000 in
set_option maxHeartbeats 4000000 in
theorem sameTks_any (l : List Tk) (w : World) (B C : Nat) (v u : Value) (hv : IsTks w B v l) (hu : IsTks w C u l) (hB : B ≤ w.heap.size) (hC : C ≤ w.heap.size) :
    Calls Tryz.prog 52 #[v, u, .bool true] w fun e w' => e = .returned (.bool true) ∧ Below w.heap.size w w' := by
  obtain ⟨hl, A, cap, hcap, rfl, h7⟩ := hv
  obtain ⟨-, A', cap', hcap', rfl, h7'⟩ := hu
  have H7 := Lib.hid h7
  have H7' := Lib.hid h7'
  clear h7 h7'
  go_enter Tryz.func52, Tryz.ntmps52
  go_wp2_with fail
  go_loopw [7, 8] (fun ix _ wr => ∃ j : Nat, j ≤ l.length ∧ ix = .int .i64 j ∧ Below w.heap.size w wr) (fun ix _ _ => l.length - (intOf ix).toNat)
  case atStart => exact ⟨0, by omega, rfl, Below.refl _ _⟩
  case round =>
    obtain ⟨j, hj, rfl, hu⟩ := hrel
    have HU := Lib.hid hu
    clear hu
    by_cases hlt : j < l.length
    · obtain ⟨b, o, hbB, hA, hx⟩ := H7.out (by rintro rfl; simp at hlt)
      obtain ⟨b', o', hbB', hA', hx'⟩ := H7'.out (by rintro rfl; simp at hlt)
      subst hA hA'
      have hat := (hx j hlt).keep hbB (fun b hb => HU.out.block b (by omega))
      have hat2 := (hx' j hlt).keep hbB' (fun b hb => HU.out.block b (by omega))
      obtain ⟨e0, e1, e2, e3, e4⟩ := At.five' hat
      obtain ⟨f0, f1, f2, f3, f4⟩ := At.five' hat2
      have HAT2 := Lib.hid hat2
      have hji : (j : Int) < l.length := by omega
      have hb2l : b' < wr.heap.size := by have := HU.out.size; omega
      clear hat hat2 hx hx' f0 f1 f2 f3 f4
      go_upto_region 9 with fail
      obtain ⟨X, hX⟩ : ∃ X, X = wr.alloc (.cells #[.int .u8 l[j].k, .int .i64 l[j].at_, .int .i64 l[j].n, .string (txtV l[j].s), .int .i64 l[j].r] 58) := ⟨_, rfl⟩
      have HP : Hid (BlkN X wr.heap.size 58 #[.int .u8 l[j].k, .int .i64 l[j].at_, .int .i64 l[j].n, .string (txtV l[j].s), .int .i64 l[j].r]) := Lib.hid (by rw [hX]; exact BlkN.at_ rfl _ _)
      have HX : Hid (Below wr.heap.size wr X) := Lib.hid (by rw [hX]; exact (Below.refl _ _).alloc (Nat.le_refl _) _)
      rw [← hX]
      clear hX e0 e1 e2 e3 e4
      obtain ⟨f0, f1, f2, f3, f4⟩ := At.five' (HAT2.out.keep hb2l (fun b hb => HX.out.block b hb))
      have p0 := HP.out.cell 0 rfl
      have p1 := HP.out.cell 1 rfl
      have p2 := HP.out.cell 2 rfl
      have p3 := HP.out.cell 3 rfl
      have p4 := HP.out.cell 4 rfl
      have hpX := HP.out.lt
      go_quiet (fail)
      go_wp2_with fail
      go_roundw
      case rel => exact ⟨j + 1, by omega, by go_num, bnext HU.out (belowN HX.out _)⟩
      case measure => simp only [intOf]; omega
    · obtain rfl : j = l.length := by omega
      go_wp2_with fail
      go_ret
      exact ⟨rfl, HU.out⟩
/-- The first of five cells and the rest are written over. -/
theorem store5T {V : World} {b : Nat} {T : TypeId} {cur : Array Value} (h : BlkN V b T cur) (i : Nat) (c0 c1 c2 c3 c4 : Value) :
    ∃ V', ((((V.setCell ⟨b, i, Option.none⟩ c0).setCell ⟨b, i + 1, Option.none⟩ c1).setCell ⟨b, i + 2, Option.none⟩ c2).setCell ⟨b, i + 3, Option.none⟩ c3).setCell ⟨b, i + 4, Option.none⟩ c4 = V' ∧ (∃ cur', BlkN V' b T cur' ∧ cur'.size = cur.size) ∧ Upd b V V' :=
  ⟨_, rfl, ⟨_, ((((BlkN.set h i c0).set (i + 1) c1).set (i + 2) c2).set (i + 3) c3).set (i + 4) c4, by simp⟩, (((((Upd.refl b V).set i c0).set (i + 1) c1).set (i + 2) c2).set (i + 3) c3).set (i + 4) c4⟩
theorem Upd.toLow' {p lo : Nat} {w w' : World} (h : Upd p w w') (hp : lo ≤ p) (hs : lo ≤ w.heap.size) : Below lo w w' := ⟨h.os, h.tape, h.output, h.size, fun k hk => h.block k (by omega) (by omega)⟩
set_option maxRecDepth 100000 in
set_option maxHeartbeats 4000000 in
theorem tokens_any (l : List Tk) (hl : l.length * 48 ≤ 140737488351232) (w : World) (lo m : Nat) (v u q : Value) (hv : TRow w lo v l) (hvm : ∀ g, v.ownBlock = some g → g < m) (hu : TRow w m u l) (hq : TRow w m q l) (hlo : lo ≤ m) (hm : m ≤ w.heap.size) :
    Calls Tryz.prog 18 #[v, u, q] w fun e w' => e = .returned (.bool true) ∧ Below lo w w' := by
  have HU := Lib.hid hu
  have HQ := Lib.hid hq
  have C52 : Hid (Calls Tryz.prog 52 #[v, q, .bool true] w fun e w' => e = .returned (.bool true) ∧ Below w.heap.size w w') := Lib.hid (sameTks_any l w w.heap.size w.heap.size v q (hv.tks hl fun g hg => (hv.blk hg).2) (hq.tks hl fun g hg => (hq.blk hg).2) (Nat.le_refl _) (Nat.le_refl _))
  obtain ⟨b, hlb, hb, hbl⟩ : ∃ b, lo ≤ b ∧ (b < m ∨ w.heap.size + 3 ≤ b) ∧ (l ≠ [] → b < m ∧ ∃ cap cur, v = .slice (some ⟨b, 0, Option.none⟩) l.length cap ∧ l.length ≤ cap ∧ BlkN w b 58 cur ∧ l.length * 5 ≤ cur.size) := by
    rcases hv.2 with ⟨rfl, h0⟩ | ⟨g, cap, cur, rfl, h1, h2, h3, h4, h5, h6⟩
    · exact ⟨w.heap.size + 3, by omega, by omega, fun h => absurd (List.eq_nil_of_length_eq_zero h0) h⟩
    · exact ⟨g, h1, .inl (hvm g rfl), fun _ => ⟨hvm g rfl, cap, cur, rfl, h3, h2, by omega⟩⟩
  have C52b : Hid (∀ w', Upd b w w' → Calls Tryz.prog 52 #[u, q, .bool true] w' fun e w2 => e = .returned (.bool true) ∧ Below w'.heap.size w' w2) := Lib.hid (fun w' hk => by
    have keepR : ∀ z, TRow w m z l → TRow w' m z l := fun z hz => by
      refine ⟨hz.1, hz.2.imp id fun ⟨g, cap, cur, a1, a2, a3, a4⟩ => ⟨g, cap, cur, a1, a2, ?_, a4⟩⟩
      have hgl := lt_of_block a3
      exact (hk.block g hgl (by omega)).trans a3
    have hu' := keepR u HU.out
    have hq' := keepR q HQ.out
    exact sameTks_any l w' w'.heap.size w'.heap.size u q (hu'.tks hl fun g hg => (hu'.blk hg).2) (hq'.tks hl fun g hg => (hq'.blk hg).2) (Nat.le_refl _) (Nat.le_refl _))
  obtain ⟨A, cap, rfl, hcap⟩ := hv.slice
  have HBL := Lib.hid hbl
  clear hbl hv hu hq
  go_enter Tryz.func18, Tryz.ntmps18
  go_wp2_with (first | (go_at_call 52; refine C52.out.mono ?_; rintro e w1 ⟨rfl, hb1⟩; have HB1 := Lib.hid hb1; clear hb1))
  go_loopw [7] (fun ix wr => ∃ j : Nat, j ≤ l.length ∧ ix = .int .i64 j ∧ Upd b w wr ∧ (l ≠ [] → ∃ cur, BlkN wr b 58 cur ∧ l.length * 5 ≤ cur.size)) (fun ix _ => l.length - (intOf ix).toNat)
  case atStart => exact ⟨0, by omega, rfl, Upd.ofBelow HB1.out b, fun h => let ⟨_, _, cur, _, _, g1, g2⟩ := HBL.out h; ⟨cur, g1.below HB1.out, g2⟩⟩
  case round =>
    obtain ⟨j, hj, rfl, ht, g3⟩ := hrel
    have HU1 := Lib.hid ht
    have HG3 := Lib.hid g3
    clear ht g3
    by_cases hlt : j < l.length
    · have hl0 : l ≠ [] := by rintro rfl; simp at hlt
      obtain ⟨hbm, cap2, -, hsl, -, -, -⟩ := HBL.out hl0
      injection hsl with hA _ _
      subst hA
      obtain ⟨cur, hc, hcs⟩ := HG3.out hl0
      have HC := Lib.hid hc
      have hbs := hc.lt
      obtain ⟨d0, e0⟩ := hc.some (j * 5) (by omega)
      obtain ⟨d1, e1⟩ := hc.some (j * 5 + 1) (by omega)
      obtain ⟨d2, e2⟩ := hc.some (j * 5 + 2) (by omega)
      obtain ⟨d3, e3⟩ := hc.some (j * 5 + 3) (by omega)
      obtain ⟨d4, e4⟩ := hc.some (j * 5 + 4) (by omega)
      have f0 := hc.free (j * 5)
      have f1 := hc.free (j * 5 + 1)
      have f2 := hc.free (j * 5 + 2)
      have f3 := hc.free (j * 5 + 3)
      have f4 := hc.free (j * 5 + 4)
      have hji : (j : Int) < l.length := by omega
      clear hc
      go_upto_region 5 with fail
      obtain ⟨V', hV', ⟨cur', hc', hcs'⟩, hu'⟩ := store5T HC.out (j * 5) (.int .u8 99) (.int .i64 0) (.int .i64 0) (.string ⟨#[]⟩) (.int .i64 0)
      rw [hV']
      go_wp2_with fail
      go_roundw
      case rel => exact ⟨j + 1, by omega, by go_num, HU1.out.trans hu', fun _ => ⟨cur', hc', by omega⟩⟩
      case measure => simp [intOf]; omega
    · obtain rfl : j = l.length := by omega
      go_wp2_with (first | (go_at_call 52; refine (C52b.out _ HU1.out).mono ?_; rintro e w2 ⟨rfl, hb2⟩))
      go_ret
      exact ⟨rfl, Upd.toLow' (HU1.out.below hb2) hlb (by omega)⟩
theorem cutL_len (N : Nat) : ∀ (f : Nat) (t : L8) (tight : Bool) (l : List Tk) (x : List Tk) (r : L8), cutL N f t tight l = .ok x r → x.length ≤ l.length + f
  | 0, t, tight, l, x, r, h => by simp [cutL] at h
  | f + 1, [], tight, l, x, r, h => by
    simp only [cutL, Rs.ok.injEq] at h
    rw [← h.1]; omega
  | f + 1, c :: t, tight, l, x, r, h => by
    by_cases h32 : c = 32
    · rw [cutL_blank _ _ _ _ _ _ h32] at h
      have := cutL_len N f t false l x r h; omega
    · by_cases hb : tight = true ∧ sgnB c = false
      · rw [cutL_bad _ _ _ _ _ _ h32 hb] at h; cases h
      · rw [cutL_tok _ _ _ _ _ _ h32 hb] at h
        cases hT : tokL N ((N - (c :: t).length : Nat) : Int) (c :: t) with
        | no r2 => rw [hT] at h; cases h
        | ok k r2 =>
          rw [hT] at h
          have := cutL_len N f r2 _ (l ++ [k]) x r h
          simp at this; omega
end Go.Proofs.YtjmelamllapmiaaGreatDoor
namespace Go.Proofs.YtjmelamllapmiaaGreatDoor
open Go.RowKit


theorem run_append_owned_zero {P : Program} {w : World} (base : Nat) (t ty e : TypeId) (i : TypeInfo) (size : Nat) (ht : P.underlying t = some (.slice e)) (hi : P.info? e = some i)
    (v : Value) (n : Nat) (xs : List Value) (hown : w.ownsRow base e size v n xs) (A : Option Addr) (cap : Nat) :
    (Builtin.append_ #[t, t] ty #[v, .slice A 0 cap]).run P w = .ok v w := by
  have hl : ∀ a, (loadCells a 0).run P w = .ok #[] w := fun a => run_loadCells_list (P := P) w a [] (fun j v hv => by simp at hv)
  rcases hown.2 with ⟨rfl, rfl⟩ | ⟨g, c, cur, rfl, _, _, hnc, _⟩ <;> cases A
  · simp [Builtin.append_, run_underlying ht, sizeOf, typeInfo, hi, Builtin.lenOf, Builtin.firstCells]
  · simp [Builtin.append_, run_underlying ht, sizeOf, typeInfo, hi, Builtin.lenOf, Builtin.firstCells, hl]
  · simp [Builtin.append_, run_underlying ht, sizeOf, typeInfo, hi, Builtin.lenOf, Builtin.firstCells, hnc, storeCells]
  · simp [Builtin.append_, run_underlying ht, sizeOf, typeInfo, hi, Builtin.lenOf, Builtin.firstCells, hnc, storeCells, hl]
theorem wpList_append_zero {P : Program} {w : World} {ops : Array Oper} {rest : List Oper} {o : Oper} {a : Act} {Q : Exit → Act → World → Prop} (hgd : o.guard = Option.none) (s x : Operand) (t : TypeId)
    (ho : o.op = .call { callee := .builtin .append, args := #[s, x], argTypes := #[t, t] })
    (base : Nat) (e : TypeId) (i : TypeInfo) (size : Nat) (ht : P.underlying t = some (.slice e)) (hi : P.info? e = some i)
    (v : Value) (n : Nat) (xs : List Value) (hs : a.eval s = v) (hown : w.ownsRow base e size v n xs) (A : Option Addr) (cap : Nat) (hx : a.eval x = .slice A 0 cap)
    (h : wpList P ops Q rest (a.put o.dst v) w) : wpList P ops Q (o :: rest) a w := by
  refine wpList_plain hgd fun K hK => ?_
  have hrun := run_append_owned_zero (P := P) (w := w) base t o.type e i size ht hi v n xs hown A cap
  unfold Oper.wp
  simp [execOp, ho, resolve, invoke, builtin, hs, hx, hrun, Result.andThen]
  exact hK _ _ h
theorem tkCells_at : ∀ (l : List Tk) (j : Nat) (u : Value), (tkCells l)[j]? = some u → ∃ (i : Nat) (hi : i < l.length) (q : Nat), j = i * 5 + q ∧ q < 5 ∧ (l[i]).arr.toList[q]? = some u
  | [], j, u, h => by simp [tkCells] at h
  | t :: l, j, u, h => by
    by_cases hj : j < 5
    · rw [tkCells, List.getElem?_append_left (by simpa [Tk.arr] using hj)] at h
      exact ⟨0, by simp, j, by omega, hj, h⟩
    · rw [tkCells, List.getElem?_append_right (by simp [Tk.arr]; omega)] at h
      have e : j - t.arr.toList.length = j - 5 := by simp [Tk.arr]
      rw [e] at h
      obtain ⟨i, hi, q, h1, h2, h3⟩ := tkCells_at l (j - 5) u h
      exact ⟨i + 1, by simpa using hi, q, by omega, h2, by simpa using h3⟩
theorem tkCells_one {l : List Tk} {u : Value} (h : u ∈ tkCells l) : u.oneCell' = true := by
  obtain ⟨j, hj⟩ := List.mem_iff_getElem?.1 h
  obtain ⟨i, hi, q, -, hq, h3⟩ := tkCells_at l j u hj
  have : u ∈ (l[i]).arr.toList := List.mem_of_getElem? h3
  simp only [Tk.arr, List.mem_cons, List.not_mem_nil, or_false] at this
  rcases this with rfl | rfl | rfl | rfl | rfl <;> rfl
/-- Tokens appended to a row of the call's own. -/
theorem wpList_append_tks (w : World) {ops : Array Oper} {rest : List Oper} {o : Oper} {a : Act} {Q : Exit → Act → World → Prop} (hgd : o.guard = Option.none) (s x : Operand)
    (ho : o.op = .call { callee := .builtin .append, args := #[s, x], argTypes := #[22, 22] })
    (lo B : Nat) (v : Value) (l0 : List Tk) (hs : a.eval s = v) (hown : TRow w lo v l0) (u : Value) (l : List Tk) (hx : a.eval x = u) (hl : IsTks w B u l)
    (hlen : (l0.length + l.length) * 48 ≤ 140737488355328) (hbase : lo ≤ w.heap.size)
    (h : ∀ v' w', TRow w' lo v' (l0 ++ l) → w.grownBy w' v.ownBlock → (v'.ownBlock = v.ownBlock ∨ ∃ g, v'.ownBlock = some g ∧ w.heap.size ≤ g) → wpList Tryz.prog ops Q rest (a.put o.dst v') w') : wpList Tryz.prog ops Q (o :: rest) a w := by
  obtain ⟨i0, hi, hz0, hz1, hz2⟩ := info_parts info56
  obtain ⟨hl48, A, cap, hcap, rfl, h7⟩ := hl
  by_cases hl0 : l = []
  · subst hl0
    refine wpList_append_zero hgd s x 22 ho lo 58 i0 5 Tryz.underlying22 hi v l0.length (tkCells l0) hs hown A cap hx (h v w (by simpa using hown) ⟨rfl, rfl, rfl, Nat.le_refl _, fun _ _ _ => rfl⟩ (.inl rfl))
  · obtain ⟨b, o', hb, rfl, hx7⟩ := h7 hl0
    refine wpList_append_row w hgd s x 22 ho lo 58 i0 (.agg zeroT) 5 48 Tryz.underlying22 hi hz0 hz1 hz2 rfl (by decide) v l0.length (tkCells l0) hs hown ⟨b, o', Option.none⟩ l.length cap (tkCells l) hx (tkCells_len l) (fun j u hu => ?_) (fun u hu => tkCells_one hu) (by unfold maxLen; omega) hlen hbase ?_
    · obtain ⟨i, hi, q, rfl, hq, h3⟩ := tkCells_at l j u hu
      have := hx7 i hi q u h3
      have e : (⟨b, o', Option.none⟩ : Addr).add (i * 5 + q) = ⟨b, o' + i * 5 + q, Option.none⟩ := by unfold Addr.add; split <;> simp_all <;> omega
      rw [e]
      exact this
    · intro v' w' h1 h2 h3
      refine h v' w' ?_ h2 h3
      unfold TRow
      rw [tkCells_append, List.length_append]
      exact h1
/-- The mark. -/
def t77 : Tk := ⟨77, 0, 0, [], 0⟩
/-- v reads as the tokens; a mark stands behind them, in a row of the call's own. -/
def Handed (w : World) (lo : Nat) (v : Value) (l : List Tk) : Prop :=
  ∃ g cap, v = .slice (some ⟨g, 0, Option.none⟩) l.length cap ∧ TRow w lo (.slice (some ⟨g, 0, Option.none⟩) (l.length + 1) cap) (l ++ [t77]) ∧ l.length + 1 ≤ cap
theorem Handed.below {w w' : World} {lo : Nat} {v : Value} {l : List Tk} (h : Handed w lo v l) (hb : Below w.heap.size w w') : Handed w' lo v l :=
  let ⟨g, cap, h1, h2, h3⟩ := h; ⟨g, cap, h1, h2.below hb, h3⟩
theorem TRow.some {w : World} {lo : Nat} {v : Value} {l : List Tk} (h : TRow w lo v l) (hl : l ≠ []) : ∃ g cap, v = .slice (some ⟨g, 0, Option.none⟩) l.length cap ∧ l.length ≤ cap := by
  rcases h.2 with ⟨rfl, h0⟩ | ⟨g, cap, cur, rfl, hb, hg, hc, _⟩
  · exact absurd (List.eq_nil_of_length_eq_zero h0) hl
  · exact ⟨g, cap, rfl, hc⟩
theorem TRow.new0 (w : World) : TRow (w.alloc (.cells #[] 58)) w.heap.size (.slice (Option.some ⟨w.heap.size, 0, Option.none⟩) 0 0) [] :=
  ⟨rfl, .inr ⟨w.heap.size, 0, #[], rfl, Nat.le_refl _, BlkN.at_ rfl 58 _, Nat.le_refl _, by unfold maxLen; omega, rfl, rfl⟩⟩
theorem Handed.tks {w : World} {lo : Nat} {v : Value} {l : List Tk} (h : Handed w lo v l) (hl : l.length * 48 ≤ 140737488351232) : IsTks w w.heap.size v l := by
  obtain ⟨g, cap, rfl, h2, h3⟩ := h
  refine ⟨hl, _, cap, by omega, rfl, fun _ => ⟨g, 0, (h2.blk rfl).2, rfl, fun i hi j u hu => ?_⟩⟩
  rcases h2.2 with ⟨h4, _⟩ | ⟨g', cap', cur, h4, h5, h6, h7, h8, h9, h10⟩
  · cases h4
  · injection h4 with e1 e2 e3
    simp only [Option.some.injEq, Addr.mk.injEq, and_true] at e1
    subst e1 e3
    have hj : j < 5 := by have := (List.getElem?_eq_some_iff.1 hu).1; simpa [Tk.arr] using this
    have hi2 : i < (l ++ [t77]).length := by simp; omega
    have h1 := tkCells_get (l ++ [t77]) i hi2 j u (by rw [List.getElem_append_left hi]; exact hu)
    rw [← h10, List.getElem?_take_of_lt (by simp <;> omega)] at h1
    have hB : BlkN w g 58 cur := h6
    rw [hB.cell_eq, Nat.zero_add]
    simpa using h1
theorem Handed.mark {w : World} {lo g cap : Nat} {l : List Tk} (h2 : TRow w lo (.slice (some ⟨g, 0, Option.none⟩) (l.length + 1) cap) (l ++ [t77])) : w.cell? ⟨g, l.length * 5, Option.none⟩ = Option.some (.int .u8 77) := by
  rcases h2.2 with ⟨h4, _⟩ | ⟨g', cap', cur, h4, h5, h6, h7, h8, h9, h10⟩
  · cases h4
  · injection h4 with e1 e2 e3
    simp only [Option.some.injEq, Addr.mk.injEq, and_true] at e1
    subst e1 e3
    have h1 := tkCells_get (l ++ [t77]) l.length (by simp) 0 (.int .u8 77) (by simp [t77, Tk.arr])
    rw [← h10, List.getElem?_take_of_lt (by simp <;> omega)] at h1
    have hB : BlkN w g 58 cur := h6
    rw [hB.cell_eq]
    simpa using h1
set_option maxRecDepth 100000 in
set_option maxHeartbeats 4000000 in
theorem handed_any {B : Nat} {v : Value} {l : List Tk} (w : World) (h : IsTks w B v l) (hB : B ≤ w.heap.size) (hl : l.length ≤ 2932031007317) :
    Calls Tryz.prog 9 #[v] w fun e w' => Below w.heap.size w w' ∧ ∃ v', e = .returned v' ∧ Handed w' w.heap.size v' l := by
  have hh := h
  obtain ⟨hl48, A, cap, hcap, rfl, -⟩ := h
  have HH := Lib.hid hh
  clear hh
  go_enter Tryz.func9, Tryz.ntmps9
  go_wp2_with (first
    | (refine wpList_append_tks _ rfl (.tmp 3) (.tmp 4) rfl w.heap.size B (.slice (some ⟨w.heap.size, 0, Option.none⟩) 0 0) [] rfl (TRow.new0 w) (.slice A l.length cap) l rfl (HH.out.keep fun b hb => Below.heap_alloc _ _ _ (by omega)) (by simp; omega) (by simp) ?_
       intro v2 w2 hv2 hg2 ho2
       have hv2 : TRow w2 w.heap.size v2 l := by simpa using hv2
       have HB2 : Hid (Below w.heap.size w w2) := Lib.hid (((Below.refl _ w).alloc (Nat.le_refl _) _).grown hg2 (by simp) (fun g hg => by simp [Value.ownBlock] at hg; omega))
       have HV2 := Lib.hid hv2
       obtain ⟨A2, cap2, rfl, hcap2⟩ := hv2.slice
       have hs2 := HB2.out.size
       clear hv2 hg2 ho2)
    | (refine wpList_append_tk _ rfl (.tmp 5) (.tmp 7) rfl w.heap.size (.slice A2 l.length cap2) l rfl (HV2.out.below ((Below.refl _ w2).alloc (Nat.le_refl _) (.cells t77.arr 58))) w2.heap.size t77 rfl (BlkN.at_ rfl _ _) (by omega) (by simp; omega) ?_
       intro v3 w3 hv3 hg3
       obtain ⟨g3, cap3, rfl, hcap3⟩ := hv3.some (by simp)
       have e3 : (l ++ [t77]).length = l.length + 1 := by simp
       have HB3 : Hid (Below w.heap.size w w3) := Lib.hid ((HB2.out.alloc hs2 _).grown hg3 (by simp; omega) (fun g hg => (HV2.out.blk hg).1))
       have HV3 := Lib.hid hv3
       have hl3 : (l.length : Int) ≤ cap3 := by omega
       clear hv3 hg3))
  go_ret
  exact ⟨HB3.out, _, rfl, g3, cap3, rfl, by have := HV3.out; simpa using this, by simpa using hcap3⟩
set_option maxRecDepth 100000 in
set_option maxHeartbeats 4000000 in
theorem left_any {B lo : Nat} {v u : Value} {l : List Tk} (w : World) (h : Handed w lo v l) (hu : IsTks w B u l) (hB : B ≤ w.heap.size) :
    Calls Tryz.prog 13 #[v, u] w fun e w' => e = .returned (.bool true) ∧ Below w.heap.size w w' := by
  have C52 := Lib.hid (sameTks_any l w w.heap.size B v u (h.tks hu.1) hu (Nat.le_refl _) hB)
  obtain ⟨g, cap, rfl, h2, h3⟩ := h
  obtain ⟨hl48, A, cap2, hcap2, rfl, -⟩ := hu
  have H2 := Lib.hid h2
  clear h2
  have hlc : (l.length : Int) + 1 ≤ cap := by omega
  go_enter Tryz.func13, Tryz.ntmps13
  go_wp2_with (first | (go_at_call 52; refine C52.out.mono ?_; rintro e w1 ⟨rfl, hb1⟩; have HT1 := Lib.hid (H2.out.below hb1); have m0 := Handed.mark HT1.out; have hg1 := (HT1.out.blk (g := g) rfl).2; have HB1 := Lib.hid hb1; clear hb1))
  go_ret
  exact ⟨rfl, HB1.out⟩
end Go.Proofs.YtjmelamllapmiaaGreatDoor
