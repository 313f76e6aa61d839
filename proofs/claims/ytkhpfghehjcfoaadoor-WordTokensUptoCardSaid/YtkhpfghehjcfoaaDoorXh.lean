/- The statements' handed and left: tokens with room behind them, in which a mark stands. -/
import Derived.Test.YtkhpfghehjcfoaaDoorXe
namespace Go.Proofs.YtkhpfghehjcfoaaDoor
open Go.RowKit


theorem run_append_owned_zero {P : Program} {w : World} (base : Nat) (t ty e : TypeId) (i : TypeInfo) (size : Nat) (ht : P.underlying t = some (.slice e)) (hi : P.info? e = some i)
    (v : Value) (n : Nat) (xs : List Value) (hown : w.ownsRow base e size v n xs) (A : Option Addr) (cap : Nat) :
    (Builtin.append_ #[t, t] ty #[v, .slice A 0 cap]).run P w = .ok v w := by
  have hl : ∀ a, (loadCells a 0).run P w = .ok #[] w := fun a => run_loadCells_list (P := P) w a [] (fun j v hv => by simp at hv)
  rcases hown.2 with ⟨rfl, rfl⟩ | ⟨g, c, cur, rfl, _, _, hnc, _⟩ <;> cases A
  · simp [Builtin.append_, run_underlying ht, sizeOf, typeInfo, hi, Builtin.lenOf, Builtin.firstCells]
  · simp [Builtin.append_, run_underlying ht, sizeOf, typeInfo, hi, Builtin.lenOf, Builtin.firstCells, hl]
  · simp [Builtin.append_, run_underlying ht, sizeOf, typeInfo, hi, Builtin.lenOf, Builtin.firstCells, hnc, storeCells]
  · simp [Builtin.append_, run_underlying ht, sizeOf, typeInfo, hi, Builtin.lenOf, Builtin.firstCells, hnc, storeCells, hl]
theorem wpList_append_zero {P : Program} {w : World} {ops : Array Oper} {rest : List Oper} {o : Oper} {a : Act} {Q : Exit → Act → World → Prop} (hgd : o.guard = Option.none) (s x : Operand) (t : TypeId)
    (ho : o.op = .call { callee := .builtin .append, args := #[s, x], argTypes := #[t, t] })
    (base : Nat) (e : TypeId) (i : TypeInfo) (size : Nat) (ht : P.underlying t = some (.slice e)) (hi : P.info? e = some i)
    (v : Value) (n : Nat) (xs : List Value) (hs : a.eval s = v) (hown : w.ownsRow base e size v n xs) (A : Option Addr) (cap : Nat) (hx : a.eval x = .slice A 0 cap)
    (h : wpList P ops Q rest (a.put o.dst v) w) : wpList P ops Q (o :: rest) a w := by
  refine wpList_plain hgd fun K hK => ?_
  have hrun := run_append_owned_zero (P := P) (w := w) base t o.type e i size ht hi v n xs hown A cap
  unfold Oper.wp
  simp [execOp, ho, resolve, invoke, builtin, hs, hx, hrun, Result.andThen]
  exact hK _ _ h
theorem tkCells_at : ∀ (l : List Tk) (j : Nat) (u : Value), (tkCells l)[j]? = some u → ∃ (i : Nat) (hi : i < l.length) (q : Nat), j = i * 5 + q ∧ q < 5 ∧ (l[i]).arr.toList[q]? = some u
  | [], j, u, h => by simp [tkCells] at h
  | t :: l, j, u, h => by
    by_cases hj : j < 5
    · rw [tkCells, List.getElem?_append_left (by simpa [Tk.arr] using hj)] at h
      exact ⟨0, by simp, j, by omega, hj, h⟩
    · rw [tkCells, List.getElem?_append_right (by simp [Tk.arr]; omega)] at h
      have e : j - t.arr.toList.length = j - 5 := by simp [Tk.arr]
      rw [e] at h
      obtain ⟨i, hi, q, h1, h2, h3⟩ := tkCells_at l (j - 5) u h
      exact ⟨i + 1, by simpa using hi, q, by omega, h2, by simpa using h3⟩
theorem tkCells_one {l : List Tk} {u : Value} (h : u ∈ tkCells l) : u.oneCell' = true := by
  obtain ⟨j, hj⟩ := List.mem_iff_getElem?.1 h
  obtain ⟨i, hi, q, -, hq, h3⟩ := tkCells_at l j u hj
  have : u ∈ (l[i]).arr.toList := List.mem_of_getElem? h3
  simp only [Tk.arr, List.mem_cons, List.not_mem_nil, or_false] at this
  rcases this with rfl | rfl | rfl | rfl | rfl <;> rfl
/-- Tokens appended to a row of the call's own. -/
theorem wpList_append_tks (w : World) {ops : Array Oper} {rest : List Oper} {o : Oper} {a : Act} {Q : Exit → Act → World → Prop} (hgd : o.guard = Option.none) (s x : Operand)
    (ho : o.op = .call { callee := .builtin .append, args := #[s, x], argTypes := #[40, 40] })
    (lo B : Nat) (v : Value) (l0 : List Tk) (hs : a.eval s = v) (hown : TRow w lo v l0) (u : Value) (l : List Tk) (hx : a.eval x = u) (hl : IsTks w B u l)
    (hlen : (l0.length + l.length) * 48 ≤ 140737488355328) (hbase : lo ≤ w.heap.size)
    (h : ∀ v' w', TRow w' lo v' (l0 ++ l) → w.grownBy w' v.ownBlock → (v'.ownBlock = v.ownBlock ∨ ∃ g, v'.ownBlock = some g ∧ w.heap.size ≤ g) → wpList Tryd.prog ops Q rest (a.put o.dst v') w') : wpList Tryd.prog ops Q (o :: rest) a w := by
  obtain ⟨i0, hi, hz0, hz1, hz2⟩ := info_parts info56
  obtain ⟨hl48, A, cap, hcap, rfl, h7⟩ := hl
  by_cases hl0 : l = []
  · subst hl0
    refine wpList_append_zero hgd s x 40 ho lo 56 i0 5 Tryd.underlying40 hi v l0.length (tkCells l0) hs hown A cap hx (h v w (by simpa using hown) ⟨rfl, rfl, rfl, Nat.le_refl _, fun _ _ _ => rfl⟩ (.inl rfl))
  · obtain ⟨b, o', hb, rfl, hx7⟩ := h7 hl0
    refine wpList_append_row w hgd s x 40 ho lo 56 i0 (.agg zeroT) 5 48 Tryd.underlying40 hi hz0 hz1 hz2 rfl (by decide) v l0.length (tkCells l0) hs hown ⟨b, o', Option.none⟩ l.length cap (tkCells l) hx (tkCells_len l) (fun j u hu => ?_) (fun u hu => tkCells_one hu) (by unfold maxLen; omega) hlen hbase ?_
    · obtain ⟨i, hi, q, rfl, hq, h3⟩ := tkCells_at l j u hu
      have := hx7 i hi q u h3
      have e : (⟨b, o', Option.none⟩ : Addr).add (i * 5 + q) = ⟨b, o' + i * 5 + q, Option.none⟩ := by unfold Addr.add; split <;> simp_all <;> omega
      rw [e]
      exact this
    · intro v' w' h1 h2 h3
      refine h v' w' ?_ h2 h3
      unfold TRow
      rw [tkCells_append, List.length_append]
      exact h1
/-- The mark. -/
def t77 : Tk := ⟨77, 0, 0, [], 0⟩
/-- v reads as the tokens; a mark stands behind them, in a row of the call's own. -/
def Handed (w : World) (lo : Nat) (v : Value) (l : List Tk) : Prop :=
  ∃ g cap, v = .slice (some ⟨g, 0, Option.none⟩) l.length cap ∧ TRow w lo (.slice (some ⟨g, 0, Option.none⟩) (l.length + 1) cap) (l ++ [t77]) ∧ l.length + 1 ≤ cap
theorem Handed.below {w w' : World} {lo : Nat} {v : Value} {l : List Tk} (h : Handed w lo v l) (hb : Below w.heap.size w w') : Handed w' lo v l :=
  let ⟨g, cap, h1, h2, h3⟩ := h; ⟨g, cap, h1, h2.below hb, h3⟩
theorem TRow.some {w : World} {lo : Nat} {v : Value} {l : List Tk} (h : TRow w lo v l) (hl : l ≠ []) : ∃ g cap, v = .slice (some ⟨g, 0, Option.none⟩) l.length cap ∧ l.length ≤ cap := by
  rcases h.2 with ⟨rfl, h0⟩ | ⟨g, cap, cur, rfl, hb, hg, hc, _⟩
  · exact absurd (List.eq_nil_of_length_eq_zero h0) hl
  · exact ⟨g, cap, rfl, hc⟩
theorem TRow.new0 (w : World) : TRow (w.alloc (.cells #[] 56)) w.heap.size (.slice (Option.some ⟨w.heap.size, 0, Option.none⟩) 0 0) [] :=
  ⟨rfl, .inr ⟨w.heap.size, 0, #[], rfl, Nat.le_refl _, BlkN.at_ rfl 56 _, Nat.le_refl _, by unfold maxLen; omega, rfl, rfl⟩⟩
theorem Handed.tks {w : World} {lo : Nat} {v : Value} {l : List Tk} (h : Handed w lo v l) (hl : l.length * 48 ≤ 140737488351232) : IsTks w w.heap.size v l := by
  obtain ⟨g, cap, rfl, h2, h3⟩ := h
  refine ⟨hl, _, cap, by omega, rfl, fun _ => ⟨g, 0, (h2.blk rfl).2, rfl, fun i hi j u hu => ?_⟩⟩
  rcases h2.2 with ⟨h4, _⟩ | ⟨g', cap', cur, h4, h5, h6, h7, h8, h9, h10⟩
  · cases h4
  · injection h4 with e1 e2 e3
    simp only [Option.some.injEq, Addr.mk.injEq, and_true] at e1
    subst e1 e3
    have hj : j < 5 := by have := (List.getElem?_eq_some_iff.1 hu).1; simpa [Tk.arr] using this
    have hi2 : i < (l ++ [t77]).length := by simp; omega
    have h1 := tkCells_get (l ++ [t77]) i hi2 j u (by rw [List.getElem_append_left hi]; exact hu)
    rw [← h10, List.getElem?_take_of_lt (by simp <;> omega)] at h1
    have hB : BlkN w g 56 cur := h6
    rw [hB.cell_eq, Nat.zero_add]
    simpa using h1
theorem Handed.mark {w : World} {lo g cap : Nat} {l : List Tk} (h2 : TRow w lo (.slice (some ⟨g, 0, Option.none⟩) (l.length + 1) cap) (l ++ [t77])) : w.cell? ⟨g, l.length * 5, Option.none⟩ = Option.some (.int .u8 77) := by
  rcases h2.2 with ⟨h4, _⟩ | ⟨g', cap', cur, h4, h5, h6, h7, h8, h9, h10⟩
  · cases h4
  · injection h4 with e1 e2 e3
    simp only [Option.some.injEq, Addr.mk.injEq, and_true] at e1
    subst e1 e3
    have h1 := tkCells_get (l ++ [t77]) l.length (by simp) 0 (.int .u8 77) (by simp [t77, Tk.arr])
    rw [← h10, List.getElem?_take_of_lt (by simp <;> omega)] at h1
    have hB : BlkN w g 56 cur := h6
    rw [hB.cell_eq]
    simpa using h1
set_option maxRecDepth 100000 in
set_option maxHeartbeats 4000000 in
theorem handed_any {B : Nat} {v : Value} {l : List Tk} (w : World) (h : IsTks w B v l) (hB : B ≤ w.heap.size) (hl : l.length ≤ 2000000) :
    Calls Tryd.prog 27 #[v] w fun e w' => Below w.heap.size w w' ∧ ∃ v', e = .returned v' ∧ Handed w' w.heap.size v' l := by
  have hh := h
  obtain ⟨hl48, A, cap, hcap, rfl, -⟩ := h
  have HH := Lib.hid hh
  clear hh
  go_enter Tryd.func27, Tryd.ntmps27
  go_wp2_with (first
    | (refine wpList_append_tks _ rfl (.tmp 3) (.tmp 4) rfl w.heap.size B (.slice (some ⟨w.heap.size, 0, Option.none⟩) 0 0) [] rfl (TRow.new0 w) (.slice A l.length cap) l rfl (HH.out.keep fun b hb => Below.heap_alloc _ _ _ (by omega)) (by simp; omega) (by simp) ?_
       intro v2 w2 hv2 hg2 ho2
       have hv2 : TRow w2 w.heap.size v2 l := by simpa using hv2
       have HB2 : Hid (Below w.heap.size w w2) := Lib.hid (((Below.refl _ w).alloc (Nat.le_refl _) _).grown hg2 (by simp) (fun g hg => by simp [Value.ownBlock] at hg; omega))
       have HV2 := Lib.hid hv2
       obtain ⟨A2, cap2, rfl, hcap2⟩ := hv2.slice
       have hs2 := HB2.out.size
       clear hv2 hg2 ho2)
    | (refine wpList_append_tk _ rfl (.tmp 5) (.tmp 7) rfl w.heap.size (.slice A2 l.length cap2) l rfl (HV2.out.below ((Below.refl _ w2).alloc (Nat.le_refl _) (.cells t77.arr 56))) w2.heap.size t77 rfl (BlkN.at_ rfl _ _) (by omega) (by simp; omega) ?_
       intro v3 w3 hv3 hg3
       obtain ⟨g3, cap3, rfl, hcap3⟩ := hv3.some (by simp)
       have e3 : (l ++ [t77]).length = l.length + 1 := by simp
       have HB3 : Hid (Below w.heap.size w w3) := Lib.hid ((HB2.out.alloc hs2 _).grown hg3 (by simp; omega) (fun g hg => (HV2.out.blk hg).1))
       have HV3 := Lib.hid hv3
       have hl3 : (l.length : Int) ≤ cap3 := by omega
       clear hv3 hg3))
  go_ret
  exact ⟨HB3.out, _, rfl, g3, cap3, rfl, by have := HV3.out; simpa using this, by simpa using hcap3⟩
set_option maxRecDepth 100000 in
set_option maxHeartbeats 4000000 in
theorem left_any {B lo : Nat} {v u : Value} {l : List Tk} (w : World) (h : Handed w lo v l) (hu : IsTks w B u l) (hB : B ≤ w.heap.size) :
    Calls Tryd.prog 30 #[v, u] w fun e w' => e = .returned (.bool true) ∧ Below w.heap.size w w' := by
  have C52 := Lib.hid (sameTks_any l w w.heap.size B v u (h.tks hu.1) hu (Nat.le_refl _) hB)
  obtain ⟨g, cap, rfl, h2, h3⟩ := h
  obtain ⟨hl48, A, cap2, hcap2, rfl, -⟩ := hu
  have H2 := Lib.hid h2
  clear h2
  have hlc : (l.length : Int) + 1 ≤ cap := by omega
  go_enter Tryd.func30, Tryd.ntmps30
  go_wp2_with (first | (go_at_call 52; refine C52.out.mono ?_; rintro e w1 ⟨rfl, hb1⟩; have HT1 := Lib.hid (H2.out.below hb1); have m0 := Handed.mark HT1.out; have hg1 := (HT1.out.blk (g := g) rfl).2; have HB1 := Lib.hid hb1; clear hb1))
  go_ret
  exact ⟨rfl, HB1.out⟩
end Go.Proofs.YtkhpfghehjcfoaaDoor
