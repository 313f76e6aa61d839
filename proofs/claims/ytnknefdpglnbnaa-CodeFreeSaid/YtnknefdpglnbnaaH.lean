/- Rows of values that the call itself appends to: where the row lies, and that what its elements hold lies elsewhere. -/
import Derived.Test.YtnknefdpglnbnaaT
import Derived.Test.YtnknefdpglnbnaaG
import Derived.ArgAppend
namespace Go.Proofs.Ytnknefdpglnbnaa
open Go.RowKit

theorem run_append_row {P : Program} (w : World) (base : Nat) (t ty e : TypeId) (i : TypeInfo) (z : Value) (size bytes : Nat) (ht : P.underlying t = some (.slice e)) (hi : P.info? e = some i) (hz : i.zero = some z)
    (hsize : i.size = size) (hby : i.bytes = bytes) (hzs : z.cells.size = size) (hsz : 0 < size)
    (v : Value) (n : Nat) (xs : List Value) (hown : w.ownsRow base e size v n xs)
    (a : Addr) (m c : Nat) (news : List Value) (hl : news.length = m * size) (hnews : ∀ j u, news[j]? = some u → w.cell? (a.add j) = some u) (h1 : ∀ u ∈ news, u.oneCell' = true)
    (h63 : n + m ≤ maxLen) (hbytes : (n + m) * bytes ≤ 140737488355328) (hbase : base ≤ w.heap.size) :
    ∃ v' w', (Builtin.append_ #[t, t] ty #[v, .slice (some a) m c]).run P w = .ok v' w' ∧ w'.ownsRow base e size v' (n + m) (xs ++ news) ∧ w.grownBy w' v.ownBlock ∧
      (v'.ownBlock = v.ownBlock ∨ ∃ g, v'.ownBlock = some g ∧ w.heap.size ≤ g) := by
  have low : ∀ {w' : World} {v' : Value} {n' : Nat} {xs' : List Value}, w'.ownsRow w.heap.size e size v' n' xs' → w'.ownsRow base e size v' n' xs' := by
    rintro w' v' n' xs' ⟨h1, h2⟩
    exact ⟨h1, h2.imp id fun ⟨g, cap, cur, a1, a2, a3⟩ => ⟨g, cap, cur, a1, Nat.le_trans hbase a2, a3⟩⟩
  rcases hown.2 with ⟨rfl, rfl⟩ | ⟨g, cap, cur, rfl, hbg, hg, hnc, hcm, hcs, htake⟩
  · have hx : xs = [] := List.eq_nil_of_length_eq_zero (by simpa using hown.1)
    subst hx
    obtain ⟨v', w', r1, r2, r3, r4⟩ := run_append_own (P := P) w w.heap.size t ty e i z size bytes ht hi hz hsize hby hzs hsz (.slice Option.none 0 0) 0 [] (World.ownsRow_nil _ _ _ _) a m c news hl hnews h1 h63 hbytes (Nat.le_refl _)
    refine ⟨v', w', r1, low r2, r3, ?_⟩
    rcases r2.2 with ⟨rfl, _⟩ | ⟨g, cap, cur, rfl, h, _⟩
    · exact .inl rfl
    · exact .inr ⟨g, rfl, h⟩
  · by_cases hroom : n + m ≤ cap
    · obtain ⟨w', hrun, r1, r2⟩ := run_append_fits (P := P) w base t ty e i size ht hi hsize g n cap xs hown a m c news hl hnews h1 hroom
      exact ⟨_, w', hrun, r1, r2, .inl rfl⟩
    · obtain ⟨v', w', hrun, r1, r2⟩ := run_append_arg_grows (P := P) w t ty e i z size bytes ht hi hz hsize hby hzs hsz ⟨g, 0, Option.none⟩ n cap xs hown.1 (hown.cells (g := g) rfl) a m c news hl hnews (by omega) h63 hbytes
      refine ⟨v', w', hrun, low r1, ⟨r2.os, r2.tape, r2.output, r2.size, fun k hk _ => r2.block k hk (by simp)⟩, ?_⟩
      rcases r1.2 with ⟨rfl, h0⟩ | ⟨g', cap', cur', rfl, h, _⟩
      · omega
      · exact .inr ⟨g', rfl, h⟩
theorem wpList_append_row {P : Program} (w : World) {ops : Array Oper} {rest : List Oper} {o : Oper} {a : Act} {Q : Exit → Act → World → Prop} (hgd : o.guard = Option.none) (s x : Operand) (t : TypeId)
    (ho : o.op = .call { callee := .builtin .append, args := #[s, x], argTypes := #[t, t] })
    (base : Nat) (e : TypeId) (i : TypeInfo) (z : Value) (size bytes : Nat) (ht : P.underlying t = some (.slice e)) (hi : P.info? e = some i) (hz : i.zero = some z)
    (hsize : i.size = size) (hby : i.bytes = bytes) (hzs : z.cells.size = size) (hsz : 0 < size)
    (v : Value) (n : Nat) (xs : List Value) (hs : a.eval s = v) (hown : w.ownsRow base e size v n xs)
    (ad : Addr) (m c : Nat) (news : List Value) (hx : a.eval x = .slice (some ad) m c) (hl : news.length = m * size) (hnews : ∀ j u, news[j]? = some u → w.cell? (ad.add j) = some u) (h1 : ∀ u ∈ news, u.oneCell' = true)
    (h63 : n + m ≤ maxLen) (hbytes : (n + m) * bytes ≤ 140737488355328) (hbase : base ≤ w.heap.size)
    (h : ∀ v' w', w'.ownsRow base e size v' (n + m) (xs ++ news) → w.grownBy w' v.ownBlock → (v'.ownBlock = v.ownBlock ∨ ∃ g, v'.ownBlock = some g ∧ w.heap.size ≤ g) → wpList P ops Q rest (a.put o.dst v') w') : wpList P ops Q (o :: rest) a w := by
  refine wpList_plain hgd fun K hK => ?_
  obtain ⟨v', w', hr, h2, h3, h4⟩ := run_append_row (P := P) w base t o.type e i z size bytes ht hi hz hsize hby hzs hsz v n xs hown ad m c news hl hnews h1 h63 hbytes hbase
  unfold Oper.wp execOp
  simp only [ho, resolve, invoke, builtin, Sem.run_bind, Sem.run_pure, Result.andThen_ok, List.map_toArray, List.map_cons, List.map_nil, hs, hx, hr]
  exact hK _ _ (h v' w' h2 h3 h4)
/-- Where an element's lists may lie: in blocks of the call's own, elsewhere than the row. -/
def OffRow (w : World) (lo : Nat) (v : Value) (b o : Nat) : Prop := Own34 w lo b o ∧ v.ownBlock ≠ some b
/-- v is a row of the call's own, of these cells, that reads as these values. -/
def VRow (w : World) (lo : Nat) (v : Value) (vs : List Va) (xs : List Value) : Prop :=
  w.ownsRow lo 34 5 v vs.length xs ∧ ∀ (i : Nat) (hi : i < vs.length), ∃ c0 c1 c2 c3 c4, (∀ j u, [c0, c1, c2, c3, c4][j]? = some u → xs[i * 5 + j]? = some u) ∧ IsVaR w (OffRow w lo v) (.agg #[c0, c1, c2, c3, c4]) vs[i]
theorem VRow.nil (w : World) (lo : Nat) : VRow w lo (.slice Option.none 0 0) [] [] := ⟨World.ownsRow_nil _ _ _ _, fun i hi => absurd hi (by simp)⟩
theorem VRow.below {w w' : World} {lo : Nat} {v : Value} {vs : List Va} {xs : List Value} (h : VRow w lo v vs xs) (hb : Below w.heap.size w w') : VRow w' lo v vs xs := by
  obtain ⟨h1, h2⟩ := h
  refine ⟨own_below h1 hb, fun i hi => ?_⟩
  obtain ⟨c0, c1, c2, c3, c4, h3, h4⟩ := h2 i hi
  exact ⟨c0, c1, c2, c3, c4, h3, (h4.keep (fun b o hr => hb.block b hr.1.lt)).mono (fun b o hr => ⟨hr.1.below hb, hr.2⟩)⟩
theorem VRow.blk {w : World} {lo : Nat} {v : Value} {vs : List Va} {xs : List Value} (h : VRow w lo v vs xs) {g : Nat} (hg : v.ownBlock = some g) : lo ≤ g ∧ g < w.heap.size := by
  rcases h.1.2 with ⟨rfl, _⟩ | ⟨g', cap, cur, rfl, h1, h2, _⟩
  · cases hg
  · simp only [Value.ownBlock, Option.some.injEq] at hg
    subst hg
    exact ⟨h1, lt_of_block h2⟩
theorem VRow.push {w w' : World} {lo lo2 : Nat} {v v' : Value} {vs : List Va} {xs : List Value} {c0 c1 c2 c3 c4 : Value} {x : Va} (h : VRow w lo v vs xs) (hx : IsVaR w (Own34 w lo2) (.agg #[c0, c1, c2, c3, c4]) x) (hlo : lo ≤ lo2) (hlt : ∀ g, v.ownBlock = some g → g < lo2)
    (hown : w'.ownsRow lo 34 5 v' (vs.length + 1) (xs ++ [c0, c1, c2, c3, c4])) (hg : w.grownBy w' v.ownBlock) (hor : v'.ownBlock = v.ownBlock ∨ ∃ g, v'.ownBlock = some g ∧ w.heap.size ≤ g) : VRow w' lo v' (vs ++ [x]) (xs ++ [c0, c1, c2, c3, c4]) := by
  obtain ⟨h1, h2⟩ := h
  have hxl : xs.length = vs.length * 5 := h1.1
  have hk : ∀ b o, OffRow w lo v b o → w'.heap[b]? = w.heap[b]? ∧ OffRow w' lo v' b o := fun b o hr => by
    have e := hg.block b hr.1.lt (fun e => hr.2 e.symm)
    refine ⟨e, ⟨hr.1.1, hr.1.2.1, let ⟨cur, hc⟩ := hr.1.2.2; ⟨cur, e.trans hc⟩⟩, ?_⟩
    rcases hor with ho | ⟨g, ho, hgs⟩
    · rw [ho]; exact hr.2
    · rw [ho]; intro e2; injection e2 with e3; have := hr.1.lt; omega
  refine ⟨by rw [List.length_append]; exact hown, fun i hi => ?_⟩
  by_cases hi' : i < vs.length
  · obtain ⟨d0, d1, d2, d3, d4, h3, h4⟩ := h2 i hi'
    refine ⟨d0, d1, d2, d3, d4, fun j u hu => ?_, ?_⟩
    · have h5 := h3 j u hu
      have hl := (List.getElem?_eq_some_iff.1 h5).1
      rw [List.getElem?_append_left hl]; exact h5
    · rw [List.getElem_append_left hi']
      exact (h4.keep (fun b o hr => (hk b o hr).1)).mono (fun b o hr => (hk b o hr).2)
  · have hil : i = vs.length := by simp at hi; omega
    subst hil
    refine ⟨c0, c1, c2, c3, c4, fun j u hu => ?_, ?_⟩
    · rw [← hxl, List.getElem?_append_right (by omega)]
      rw [show xs.length + j - xs.length = j by omega]; exact hu
    · have hx' : IsVaR w (OffRow w lo v) (.agg #[c0, c1, c2, c3, c4]) x := hx.mono (fun b o hr => ⟨hr.low hlo, fun e => by have := hlt b e; have := hr.1; omega⟩)
      rw [List.getElem_append_right (by omega)]
      simp only [Nat.sub_self, List.getElem_singleton]
      exact (hx'.keep (fun b o hr => (hk b o hr).1)).mono (fun b o hr => (hk b o hr).2)
theorem IsVasR.of {w : World} {R : Nat → Nat → Prop} {b : Nat} : ∀ {o : Nat} {l : List Va}, (∀ (i : Nat) (hi : i < l.length), ∃ c0 c1 c2 c3 c4, At w b (o + i * 5) [c0, c1, c2, c3, c4] ∧ IsVaR w R (.agg #[c0, c1, c2, c3, c4]) l[i]) → IsVasR w R b o l
  | _, [], _ => by unfold IsVasR; trivial
  | o, x :: l, h => by
    unfold IsVasR
    refine ⟨?_, IsVasR.of fun i hi => ?_⟩
    · obtain ⟨c0, c1, c2, c3, c4, h1, h2⟩ := h 0 (by simp)
      exact ⟨c0, c1, c2, c3, c4, by simpa using h1, h2⟩
    · obtain ⟨c0, c1, c2, c3, c4, h1, h2⟩ := h (i + 1) (by simpa using hi)
      exact ⟨c0, c1, c2, c3, c4, by rw [show o + 5 + i * 5 = o + (i + 1) * 5 by omega]; exact h1, h2⟩
theorem VRow.list {w : World} {lo : Nat} {v : Value} {vs : List Va} {xs : List Value} (h : VRow w lo v vs xs) :
    ∃ A cap, v = .slice A vs.length cap ∧ vs.length ≤ cap ∧ (vs ≠ [] → ∃ b o, Own34 w lo b o ∧ A = some ⟨b, o, Option.none⟩ ∧ IsVasR w (Own34 w lo) b o vs) := by
  obtain ⟨h1, h2⟩ := h
  rcases h1.2 with ⟨rfl, h0⟩ | ⟨g, cap, cur, rfl, hb, hg, hc, _, hcs, htake⟩
  · exact ⟨Option.none, 0, by rw [h0], by omega, fun hne => absurd (List.length_eq_zero_iff.1 h0) hne⟩
  · refine ⟨_, cap, rfl, hc, fun _ => ⟨g, 0, ⟨hb, rfl, cur, hg⟩, rfl, IsVasR.of fun i hi => ?_⟩⟩
    obtain ⟨c0, c1, c2, c3, c4, h3, h4⟩ := h2 i hi
    refine ⟨c0, c1, c2, c3, c4, fun j u hu => ?_, h4.mono (fun b o hr => hr.1)⟩
    have hj : j < 5 := by have := (List.getElem?_eq_some_iff.1 hu).1; simpa using this
    rw [Nat.zero_add, h1.cellAt _ (by omega)]
    exact h3 j u hu
theorem Upd.grown {p : Nat} {a w w' : World} {row : Option Nat} (h : Upd p a w) (hg : w.grownBy w' row) (hr : ∀ g, row = some g → a.heap.size ≤ g) : Upd p a w' :=
  ⟨hg.os.trans h.os, hg.tape.trans h.tape, hg.output.trans h.output, Nat.le_trans h.size hg.size, fun k hk hn => (hg.block k (Nat.lt_of_lt_of_le hk h.size) (fun e => by have := hr k e.symm; omega)).trans (h.block k hk hn)⟩
theorem own_upd {p : Nat} {w w' : World} {base : Nat} {e : TypeId} {size : Nat} {v : Value} {n : Nat} {xs : List Value} (h : w.ownsRow base e size v n xs) (hu : Upd p w w') (hp : p < base) : w'.ownsRow base e size v n xs := by
  refine ⟨h.1, ?_⟩
  rcases h.2 with h2 | ⟨g, cap, cur, rfl, hb, hg, r⟩
  · exact .inl h2
  · exact .inr ⟨g, cap, cur, rfl, hb, (hu.block g (lt_of_block hg) (by omega)).trans hg, r⟩
theorem VRow.upd {p : Nat} {w w' : World} {lo : Nat} {v : Value} {vs : List Va} {xs : List Value} (h : VRow w lo v vs xs) (hu : Upd p w w') (hp : p < lo) : VRow w' lo v vs xs := by
  obtain ⟨h1, h2⟩ := h
  refine ⟨own_upd h1 hu hp, fun i hi => ?_⟩
  obtain ⟨c0, c1, c2, c3, c4, h3, h4⟩ := h2 i hi
  have hk : ∀ b o, OffRow w lo v b o → w'.heap[b]? = w.heap[b]? := fun b o hr => hu.block b hr.1.lt (by have := hr.1.1; omega)
  exact ⟨c0, c1, c2, c3, c4, h3, (h4.keep hk).mono (fun b o hr => ⟨⟨hr.1.1, hr.1.2.1, let ⟨cur, hc⟩ := hr.1.2.2; ⟨cur, (hk b o hr).trans hc⟩⟩, hr.2⟩)⟩
theorem add_lit (g j : Nat) : (⟨g, 0, Option.none⟩ : Addr).add j = ⟨g, j, Option.none⟩ := by unfold Addr.add; split <;> simp_all
theorem row_new (w : World) (cs : List Value) (T : TypeId) : ∀ j u, cs[j]? = some u → (w.alloc (.cells cs.toArray T)).cell? ((⟨w.heap.size, 0, Option.none⟩ : Addr).add j) = some u := by
  intro j u hu
  rw [add_lit, (BlkN.at_ (w := w) rfl T cs.toArray).cell_eq]
  simpa using hu
end Go.Proofs.Ytnknefdpglnbnaa
