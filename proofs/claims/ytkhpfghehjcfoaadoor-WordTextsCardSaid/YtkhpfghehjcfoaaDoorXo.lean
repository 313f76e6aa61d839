/- Values behind whose lists a mark stands; rows of them. -/
import Derived.Test.YtkhpfghehjcfoaaDoorXn
import Derived.Test.YtkhpfghehjcfoaaDoorXk
namespace Go.Proofs.YtkhpfghehjcfoaaDoor
open Go.RowKit

mutual
/-- v reads as the value; behind each list stands a mark; the lists lie at places of R. -/
def IsLtR (w : World) (R : Nat → Nat → Prop) : Value → Va → Prop
  | v, .mk k n s l r => 0 ≤ k ∧ k < 256 ∧ s.size ≤ 140737488351232 ∧ l.length * 64 ≤ 140737488351232 ∧ ∃ A cap, l.length ≤ cap ∧ v = .agg #[.int .u8 k, .int .i64 n, .string s, .slice A l.length cap, .int .i64 r] ∧
      (l ≠ [] → l.length + 1 ≤ cap ∧ ∃ b o, R b o ∧ A = some ⟨b, o, Option.none⟩ ∧ IsLtsR w R b o l ∧ w.cell? ⟨b, o + l.length * 5, Option.none⟩ = some (.int .u8 77))
def IsLtsR (w : World) (R : Nat → Nat → Prop) (b o : Nat) : List Va → Prop
  | [] => True
  | x :: l => (∃ c0 c1 c2 c3 c4, At w b o [c0, c1, c2, c3, c4] ∧ IsLtR w R (.agg #[c0, c1, c2, c3, c4]) x) ∧ IsLtsR w R b (o + 5) l
end
mutual
theorem IsLtR.keep {w w' : World} {R : Nat → Nat → Prop} (hk : ∀ b o, R b o → w'.heap[b]? = w.heap[b]?) : ∀ {v : Value} {x : Va}, IsLtR w R v x → IsLtR w' R v x
  | v, .mk k n s l r, h => by
    unfold IsLtR at h ⊢
    obtain ⟨h1, h2, h3, h4, A, cap, h5, h6, h7⟩ := h
    refine ⟨h1, h2, h3, h4, A, cap, h5, h6, fun hl => ?_⟩
    obtain ⟨h8, b, o, hb, hA, hx, hm⟩ := h7 hl
    exact ⟨h8, b, o, hb, hA, IsLtsR.keep hk (hk b o hb) hx, (World.cell?_of_block (w := w) (hk b o hb)).trans hm⟩
theorem IsLtsR.keep {w w' : World} {R : Nat → Nat → Prop} (hk : ∀ b o, R b o → w'.heap[b]? = w.heap[b]?) {b : Nat} (hb : w'.heap[b]? = w.heap[b]?) : ∀ {o : Nat} {l : List Va}, IsLtsR w R b o l → IsLtsR w' R b o l
  | _, [], _ => by unfold IsLtsR; trivial
  | _, x :: l, h => by
    unfold IsLtsR at h ⊢
    obtain ⟨⟨c0, c1, c2, c3, c4, h1, h2⟩, h3⟩ := h
    exact ⟨⟨c0, c1, c2, c3, c4, fun j v hv => (World.cell?_of_block (w := w) hb).trans (h1 j v hv), IsLtR.keep hk h2⟩, IsLtsR.keep hk hb h3⟩
end
mutual
theorem IsLtR.mono {w : World} {R R' : Nat → Nat → Prop} (hk : ∀ b o, R b o → R' b o) : ∀ {v : Value} {x : Va}, IsLtR w R v x → IsLtR w R' v x
  | v, .mk k n s l r, h => by
    unfold IsLtR at h ⊢
    obtain ⟨h1, h2, h3, h4, A, cap, h5, h6, h7⟩ := h
    refine ⟨h1, h2, h3, h4, A, cap, h5, h6, fun hl => ?_⟩
    obtain ⟨h8, b, o, hb, hA, hx, hm⟩ := h7 hl
    exact ⟨h8, b, o, hk b o hb, hA, IsLtsR.mono hk hx, hm⟩
theorem IsLtsR.mono {w : World} {R R' : Nat → Nat → Prop} (hk : ∀ b o, R b o → R' b o) {b : Nat} : ∀ {o : Nat} {l : List Va}, IsLtsR w R b o l → IsLtsR w R' b o l
  | _, [], _ => by unfold IsLtsR; trivial
  | _, x :: l, h => by
    unfold IsLtsR at h ⊢
    obtain ⟨⟨c0, c1, c2, c3, c4, h1, h2⟩, h3⟩ := h
    exact ⟨⟨c0, c1, c2, c3, c4, h1, IsLtR.mono hk h2⟩, IsLtsR.mono hk h3⟩
end
mutual
theorem IsLtR.va {w : World} {R : Nat → Nat → Prop} : ∀ {v : Value} {x : Va}, IsLtR w R v x → IsVaR w R v x
  | v, .mk k n s l r, h => by
    unfold IsLtR at h
    unfold IsVaR
    obtain ⟨h1, h2, h3, h4, A, cap, h5, h6, h7⟩ := h
    refine ⟨h1, h2, h3, h4, A, cap, h5, h6, fun hl => ?_⟩
    obtain ⟨h8, b, o, hb, hA, hx, hm⟩ := h7 hl
    exact ⟨b, o, hb, hA, IsLtsR.va hx⟩
theorem IsLtsR.va {w : World} {R : Nat → Nat → Prop} {b : Nat} : ∀ {o : Nat} {l : List Va}, IsLtsR w R b o l → IsVasR w R b o l
  | _, [], _ => by unfold IsVasR; trivial
  | _, x :: l, h => by
    unfold IsLtsR at h
    unfold IsVasR
    obtain ⟨⟨c0, c1, c2, c3, c4, h1, h2⟩, h3⟩ := h
    exact ⟨⟨c0, c1, c2, c3, c4, h1, IsLtR.va h2⟩, IsLtsR.va h3⟩
end
theorem IsLtR.cells {w : World} {R : Nat → Nat → Prop} {c0 c1 c2 c3 c4 : Value} {x : Va} (h : IsLtR w R (.agg #[c0, c1, c2, c3, c4]) x) :
    ∃ k n s A len cap r, c0 = .int .u8 k ∧ c1 = .int .i64 n ∧ c2 = .string s ∧ c3 = .slice A len cap ∧ c4 = .int .i64 r := h.va.cells
theorem IsLtR.shape {w : World} {R : Nat → Nat → Prop} {v : Value} {x : Va} (h : IsLtR w R v x) : ∃ k n s A len cap r, v = .agg #[.int .u8 k, .int .i64 n, .string s, .slice A len cap, .int .i64 r] := h.va.shape
theorem IsLtsR.at {w : World} {R : Nat → Nat → Prop} {b : Nat} : ∀ {o : Nat} {l : List Va}, IsLtsR w R b o l → ∀ (i : Nat) (hi : i < l.length), ∃ c0 c1 c2 c3 c4, At w b (o + i * 5) [c0, c1, c2, c3, c4] ∧ IsLtR w R (.agg #[c0, c1, c2, c3, c4]) l[i]
  | o, x :: l, h, i, hi => by
    unfold IsLtsR at h
    cases i with
    | zero => obtain ⟨c0, c1, c2, c3, c4, h1, h2⟩ := h.1; exact ⟨c0, c1, c2, c3, c4, by simpa using h1, h2⟩
    | succ i =>
      obtain ⟨c0, c1, c2, c3, c4, h1, h2⟩ := IsLtsR.at h.2 i (by simpa using hi)
      exact ⟨c0, c1, c2, c3, c4, by rw [show o + (i + 1) * 5 = o + 5 + i * 5 by omega]; exact h1, by simpa using h2⟩
theorem IsLtsR.at2 {w : World} {R : Nat → Nat → Prop} {b o : Nat} {l : List Va} (h : IsLtsR w R b o l) (i : Nat) (hi : i < l.length) :
    ∃ k n s A len cap r, At w b (o + i * 5) [.int .u8 k, .int .i64 n, .string s, .slice A len cap, .int .i64 r] ∧ IsLtR w R (.agg #[.int .u8 k, .int .i64 n, .string s, .slice A len cap, .int .i64 r]) l[i] := by
  obtain ⟨c0, c1, c2, c3, c4, h1, h2⟩ := h.at i hi
  obtain ⟨k, n, s, A, len, cap, r, rfl, rfl, rfl, rfl, rfl⟩ := h2.cells
  exact ⟨k, n, s, A, len, cap, r, h1, h2⟩
theorem IsLtsR.of {w : World} {R : Nat → Nat → Prop} {b : Nat} : ∀ {o : Nat} {l : List Va}, (∀ (i : Nat) (hi : i < l.length), ∃ c0 c1 c2 c3 c4, At w b (o + i * 5) [c0, c1, c2, c3, c4] ∧ IsLtR w R (.agg #[c0, c1, c2, c3, c4]) l[i]) → IsLtsR w R b o l
  | _, [], _ => by unfold IsLtsR; trivial
  | o, x :: l, h => by
    unfold IsLtsR
    refine ⟨?_, IsLtsR.of fun i hi => ?_⟩
    · obtain ⟨c0, c1, c2, c3, c4, h1, h2⟩ := h 0 (by simp)
      exact ⟨c0, c1, c2, c3, c4, by simpa using h1, h2⟩
    · obtain ⟨c0, c1, c2, c3, c4, h1, h2⟩ := h (i + 1) (by simpa using hi)
      exact ⟨c0, c1, c2, c3, c4, by rw [show o + 5 + i * 5 = o + (i + 1) * 5 by omega]; exact h1, by simpa using h2⟩
theorem IsLtR.below {w w' : World} {lo : Nat} {v : Value} {x : Va} (h : IsLtR w (Own34 w lo) v x) (hb : Below w.heap.size w w') : IsLtR w' (Own34 w' lo) v x :=
  (h.keep (fun b _o hr => hb.block b hr.lt)).mono (fun _b _o hr => hr.below hb)
/-- v is a row of the call's own, of these cells, that reads as these values. -/
def LRow (w : World) (lo : Nat) (v : Value) (vs : List Va) (xs : List Value) : Prop :=
  w.ownsRow lo 26 5 v vs.length xs ∧ ∀ (i : Nat) (hi : i < vs.length), ∃ c0 c1 c2 c3 c4, (∀ j u, [c0, c1, c2, c3, c4][j]? = some u → xs[i * 5 + j]? = some u) ∧ IsLtR w (OffRow w lo v) (.agg #[c0, c1, c2, c3, c4]) vs[i]
theorem LRow.nil (w : World) (lo : Nat) : LRow w lo (.slice Option.none 0 0) [] [] := ⟨World.ownsRow_nil _ _ _ _, fun i hi => absurd hi (by simp)⟩
theorem LRow.below {w w' : World} {lo : Nat} {v : Value} {vs : List Va} {xs : List Value} (h : LRow w lo v vs xs) (hb : Below w.heap.size w w') : LRow w' lo v vs xs := by
  obtain ⟨h1, h2⟩ := h
  refine ⟨own_below h1 hb, fun i hi => ?_⟩
  obtain ⟨c0, c1, c2, c3, c4, h3, h4⟩ := h2 i hi
  exact ⟨c0, c1, c2, c3, c4, h3, (h4.keep (fun b o hr => hb.block b hr.1.lt)).mono (fun b o hr => ⟨hr.1.below hb, hr.2⟩)⟩
theorem LRow.blk {w : World} {lo : Nat} {v : Value} {vs : List Va} {xs : List Value} (h : LRow w lo v vs xs) {g : Nat} (hg : v.ownBlock = some g) : lo ≤ g ∧ g < w.heap.size := by
  rcases h.1.2 with ⟨rfl, _⟩ | ⟨g', cap, cur, rfl, h1, h2, _⟩
  · cases hg
  · simp only [Value.ownBlock, Option.some.injEq] at hg
    subst hg
    exact ⟨h1, lt_of_block h2⟩
theorem LRow.push {w w' : World} {lo lo2 : Nat} {v v' : Value} {vs : List Va} {xs : List Value} {c0 c1 c2 c3 c4 : Value} {x : Va} (h : LRow w lo v vs xs) (hx : IsLtR w (Own34 w lo2) (.agg #[c0, c1, c2, c3, c4]) x) (hlo : lo ≤ lo2) (hlt : ∀ g, v.ownBlock = some g → g < lo2)
    (hown : w'.ownsRow lo 26 5 v' (vs.length + 1) (xs ++ [c0, c1, c2, c3, c4])) (hg : w.grownBy w' v.ownBlock) (hor : v'.ownBlock = v.ownBlock ∨ ∃ g, v'.ownBlock = some g ∧ w.heap.size ≤ g) : LRow w' lo v' (vs ++ [x]) (xs ++ [c0, c1, c2, c3, c4]) := by
  obtain ⟨h1, h2⟩ := h
  have hxl : xs.length = vs.length * 5 := h1.1
  have hk : ∀ b o, OffRow w lo v b o → w'.heap[b]? = w.heap[b]? ∧ OffRow w' lo v' b o := fun b o hr => by
    have e := hg.block b hr.1.lt (fun e => hr.2 e.symm)
    refine ⟨e, ⟨hr.1.1, hr.1.2.1, let ⟨cur, hc⟩ := hr.1.2.2; ⟨cur, e.trans hc⟩⟩, ?_⟩
    rcases hor with ho | ⟨g, ho, hgs⟩
    · rw [ho]; exact hr.2
    · rw [ho]; intro e2; injection e2 with e3; have := hr.1.lt; omega
  refine ⟨by rw [List.length_append]; exact hown, fun i hi => ?_⟩
  by_cases hi' : i < vs.length
  · obtain ⟨d0, d1, d2, d3, d4, h3, h4⟩ := h2 i hi'
    refine ⟨d0, d1, d2, d3, d4, fun j u hu => ?_, ?_⟩
    · have h5 := h3 j u hu
      have hl := (List.getElem?_eq_some_iff.1 h5).1
      rw [List.getElem?_append_left hl]; exact h5
    · rw [List.getElem_append_left hi']
      exact (h4.keep (fun b o hr => (hk b o hr).1)).mono (fun b o hr => (hk b o hr).2)
  · have hil : i = vs.length := by simp at hi; omega
    subst hil
    refine ⟨c0, c1, c2, c3, c4, fun j u hu => ?_, ?_⟩
    · rw [← hxl, List.getElem?_append_right (by omega)]
      rw [show xs.length + j - xs.length = j by omega]; exact hu
    · have hx' : IsLtR w (OffRow w lo v) (.agg #[c0, c1, c2, c3, c4]) x := hx.mono (fun b o hr => ⟨hr.low hlo, fun e => by have := hlt b e; have := hr.1; omega⟩)
      rw [List.getElem_append_right (by omega)]
      simp only [Nat.sub_self, List.getElem_singleton]
      exact (hx'.keep (fun b o hr => (hk b o hr).1)).mono (fun b o hr => (hk b o hr).2)
theorem LRow.upd {p : Nat} {w w' : World} {lo : Nat} {v : Value} {vs : List Va} {xs : List Value} (h : LRow w lo v vs xs) (hu : Upd p w w') (hp : p < lo) : LRow w' lo v vs xs := by
  obtain ⟨h1, h2⟩ := h
  refine ⟨own_upd h1 hu hp, fun i hi => ?_⟩
  obtain ⟨c0, c1, c2, c3, c4, h3, h4⟩ := h2 i hi
  have hk : ∀ b o, OffRow w lo v b o → w'.heap[b]? = w.heap[b]? := fun b o hr => hu.block b hr.1.lt (by have := hr.1.1; omega)
  exact ⟨c0, c1, c2, c3, c4, h3, (h4.keep hk).mono (fun b o hr => ⟨⟨hr.1.1, hr.1.2.1, let ⟨cur, hc⟩ := hr.1.2.2; ⟨cur, (hk b o hr).trans hc⟩⟩, hr.2⟩)⟩

theorem wpList_append_lt (w : World) {ops : Array Oper} {rest : List Oper} {o : Oper} {a : Act} {Q : Exit → Act → World → Prop} (hgd : o.guard = Option.none) (s x : Operand)
    (ho : o.op = .call { callee := .builtin .append, args := #[s, x], argTypes := #[23, 23] })
    (lo lo2 : Nat) (v : Value) (vs : List Va) (xs : List Value) (hs : a.eval s = v) (hown : LRow w lo v vs xs) (g : Nat) (c0 c1 c2 c3 c4 : Value) (y : Va) (hx : a.eval x = .slice (some ⟨g, 0, Option.none⟩) 1 1)
    (hg : BlkN w g 26 #[c0, c1, c2, c3, c4]) (hy : IsLtR w (Own34 w lo2) (.agg #[c0, c1, c2, c3, c4]) y) (hlo : lo ≤ lo2) (hlt : ∀ b, v.ownBlock = some b → b < lo2) (hlen : vs.length ≤ 1000000) (hbase : lo ≤ w.heap.size)
    (h : ∀ v' w' xs', LRow w' lo v' (vs ++ [y]) xs' → w.grownBy w' v.ownBlock → wpList Tryd.prog ops Q rest (a.put o.dst v') w') : wpList Tryd.prog ops Q (o :: rest) a w := by
  obtain ⟨i0, hi, hz0, hz1, hz2⟩ := info_parts info34
  refine wpList_append_row w hgd s x 23 ho lo 26 i0 (.agg zeroV) 5 64 Tryd.underlying23 hi hz0 hz1 hz2 rfl (by decide) v vs.length xs hs hown.1 ⟨g, 0, Option.none⟩ 1 1 [c0, c1, c2, c3, c4] hx rfl (fun j u hu => ?_) (fun u hu => ?_) (by unfold maxLen; omega) (by omega) hbase ?_
  · rw [add_lit, hg.cell_eq]
    simpa using hu
  · obtain ⟨k, n, t, A, len, cap, r, rfl, rfl, rfl, rfl, rfl⟩ := hy.cells
    simp only [List.mem_cons, List.not_mem_nil, or_false] at hu
    rcases hu with rfl | rfl | rfl | rfl | rfl <;> rfl
  · intro v' w' h1 h2 h3
    exact h v' w' _ (LRow.push hown hy hlo hlt h1 h2 h3) h2
/-- The mark, with this kind. -/
def markV (k : Int) : Va := .mk k 0 ⟨#[]⟩ [] 0
theorem mark_is (w : World) (R : Nat → Nat → Prop) (k : Int) (h0 : 0 ≤ k) (h1 : k < 256) : IsLtR w R (.agg #[.int .u8 k, .int .i64 0, .string ⟨#[]⟩, .slice Option.none 0 0, .int .i64 0]) (markV k) := by
  unfold markV IsLtR
  exact ⟨h0, h1, by decide, by decide, Option.none, 0, by decide, rfl, fun h => absurd rfl h⟩
theorem LRow.slice {w : World} {lo : Nat} {v : Value} {vs : List Va} {xs : List Value} (h : LRow w lo v vs xs) : ∃ A cap, v = .slice A vs.length cap ∧ vs.length ≤ cap := by
  rcases h.1.2 with ⟨rfl, h0⟩ | ⟨g, cap, cur, rfl, hb, hg, hc, _⟩
  · exact ⟨Option.none, 0, by rw [h0], by omega⟩
  · exact ⟨_, cap, rfl, hc⟩
/-- A row with a mark at its end, cut short by one, is a list with a mark behind it. -/
theorem LRow.marked {w : World} {lo : Nat} {A : Option Addr} {n cap : Nat} {l : List Va} {xs : List Value} {k : Int} (h : LRow w lo (.slice A n cap) (l ++ [markV k]) xs) :
    l.length + 1 ≤ cap ∧ ∃ g, Own34 w lo g 0 ∧ A = some ⟨g, 0, Option.none⟩ ∧ IsLtsR w (fun b o => Own34 w lo b o ∧ b ≠ g) g 0 l ∧ w.cell? ⟨g, l.length * 5, Option.none⟩ = some (.int .u8 k) := by
  obtain ⟨h1, h2⟩ := h
  have hlen : (l ++ [markV k]).length = l.length + 1 := by simp
  rcases h1.2 with ⟨_, h0⟩ | ⟨g, cap', cur, he, hb, hg, hc, _, hcs, htake⟩
  · rw [hlen] at h0; omega
  · simp only [Value.slice.injEq] at he
    obtain ⟨rfl, hn, rfl⟩ := he
    rw [hlen] at hc hn
    have h1' : w.ownsRow lo 26 5 (.slice (some ⟨g, 0, Option.none⟩) (l.length + 1) cap) (l.length + 1) xs := by rw [hlen, hn] at h1; exact h1
    have hcell : ∀ j, j < (l.length + 1) * 5 → w.cell? ⟨g, j, Option.none⟩ = xs[j]? := fun j hj => h1'.cellAt _ hj
    refine ⟨hc, g, ⟨hb, rfl, cur, hg⟩, rfl, IsLtsR.of fun i hi => ?_, ?_⟩
    · obtain ⟨c0, c1, c2, c3, c4, h3, h4⟩ := h2 i (by rw [hlen]; omega)
      rw [List.getElem_append_left hi] at h4
      refine ⟨c0, c1, c2, c3, c4, fun j u hu => ?_, h4.mono fun b o hr => ⟨hr.1, fun e => hr.2 (by rw [e]; rfl)⟩⟩
      have hj : j < 5 := by have := (List.getElem?_eq_some_iff.1 hu).1; simpa using this
      rw [Nat.zero_add, hcell _ (by omega)]
      exact h3 j u hu
    · obtain ⟨c0, c1, c2, c3, c4, h3, h4⟩ := h2 l.length (by rw [hlen]; omega)
      rw [List.getElem_append_right (Nat.le_refl _)] at h4
      simp only [Nat.sub_self, List.getElem_singleton] at h4
      unfold markV IsLtR at h4
      obtain ⟨_, _, _, _, A2, cap2, _, e, _⟩ := h4
      simp only [Value.agg.injEq, Array.mk.injEq, List.cons.injEq, and_true] at e
      rw [hcell _ (by omega), ← e.1]
      exact h3 0 c0 rfl
theorem great_elems : ∀ (l : List Va) (room : Int), 0 ≤ greatLs l room → (l.length : Int) + greatLs l room ≤ room ∧ ∀ x ∈ l, ∃ r, 0 ≤ r ∧ r ≤ room ∧ 0 ≤ greatL x r
  | [], room, h => by
    unfold greatLs at h ⊢
    exact ⟨by simp, fun x hx => by simp at hx⟩
  | x :: l, room, h => by
    unfold greatLs at h ⊢
    by_cases hr : room < 0
    · rw [if_pos hr] at h; omega
    rw [if_neg hr] at h ⊢
    obtain ⟨h1, h2⟩ := great_elems l (greatL x room) h
    have h3 := greatL_le x room (by omega)
    have h4 : 0 ≤ greatL x room := by omega
    refine ⟨by simp; omega, fun y hy => ?_⟩
    rcases List.mem_cons.1 hy with rfl | hy
    · exact ⟨room, by omega, Int.le_refl _, h4⟩
    · obtain ⟨r, g1, g2, g3⟩ := h2 y hy
      exact ⟨r, g1, by omega, g3⟩
end Go.Proofs.YtkhpfghehjcfoaaDoor
