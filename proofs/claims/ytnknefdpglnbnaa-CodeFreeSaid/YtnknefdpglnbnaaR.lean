/- A region that draws its order, of which some quiet operations may come up behind a store: the class of worlds lets one block be written anew. -/
import Derived.Test.YtnknefdpglnbnaaP
namespace Go.RegQ
open Go Go.RowKit Go.Sort
variable {P : Program} {ops : Array Oper} {md : Region.Mode} {C : World → Prop} {K : Nat → Array Bool → Act → Prop} {req ord : List Nat}

/-- A quiet operation may be taken first. It is of 'req', and those of 'ord' beside 'req' have come up or wait for it; or it is pure. -/
theorem wpM_first2 (hT : tailB md ops ord req = true) {i : Nat} {oi : Oper} {v : Value} (hi : ops[i]? = some oi) (hsel : ∀ (j : Nat) (o : Oper) cs b, ops[j]? = some o → o.op ≠ .select cs b) :
    ∀ (fuel : Nat) (listed : Array Bool) (a : Act), closed md ops listed →
      (∀ j oj, ops[j]? = some oj → j ≠ i → listed.getD j true = false → (∀ e ∈ oj.after, Region.binds md e = true → e.on ≠ i) → oi.apart ops oj = true) →
      i ∈ Region.ready md ops listed → YieldsIn P ops C oi v a →
      ((i ∈ req ∧ ∀ f ∈ ord, f ∉ req → listed.getD f true = false → ((ancs md ops ops.size).getD f 0).testBit i = true) ∨
       (i ∉ req ∧ ∀ (fuel : Nat) (listed : Array Bool) (a : Act), closed md ops listed → (∀ j oj, ops[j]? = some oj → j ≠ i → listed.getD j true = false → (∀ e ∈ oj.after, Region.binds md e = true → e.on ≠ i) → oi.apart ops oj = true) → i ∈ Region.ready md ops listed → YieldsIn P ops C oi v a → K fuel (listed.setIfInBounds i true) (a.put oi.dst v) → K (fuel + 1) listed a)) →
      wpM P md ops C K req fuel (listed.setIfInBounds i true) (a.put oi.dst v) → wpM P md ops C K req (fuel + 1) listed a := by
  have hlt : i < ops.size := (Array.getElem?_eq_some_iff.1 hi).1
  intro fuel
  induction fuel with
  | zero =>
    intro listed a hc hfree hr hy hcase H
    have hun := (mem_ready.1 hr).1
    rcases hcase with ⟨hir, hF⟩ | ⟨hir, hpure⟩
    · have hnd : done req listed = false := by
        cases hd : done req listed with
        | false => rfl
        | true => have := done_spec hd hir; rw [hun] at this; cases this
      refine ⟨fun h => (by rw [hnd] at h; cases h), fun _ => ⟨fun h => (by rw [h] at hr; cases hr), fun j hj => ?_⟩⟩
      by_cases hji : j = i
      · subst hji; exact hy.qOp hi H
      · have hjo := ready_ord hT hc hlt hir hun hj
        by_cases hjr : j ∈ req
        · have h2 := done_spec H.1 hjr
          rw [(mem_ready.1 (ready_mono hj hji)).1] at h2
          cases h2
        · have h2 := hF j hjo hjr (mem_ready.1 hj).1
          rw [ready_anc hT hc hlt hun hj] at h2
          cases h2
    · have hd := H.1
      rw [done_set hir] at hd
      exact ⟨fun _ => hpure 0 listed a hc hfree hr hy H.2, fun h => (by rw [hd] at h; cases h)⟩
  | succ fuel ih =>
    intro listed a hc hfree hr hy hcase H
    have hun := (mem_ready.1 hr).1
    have step : done req (listed.setIfInBounds i true) = false → (Region.ready md ops listed ≠ [] ∧ ∀ j ∈ Region.ready md ops listed, qOp P ops C j (wpM P md ops C K req (fuel + 1) (listed.setIfInBounds j true)) a) := by
      intro hnd2
      refine ⟨fun h => (by rw [h] at hr; cases hr), fun j hj => ?_⟩
      by_cases hji : j = i
      · subst hji; exact hy.qOp hi H
      · have hjr := ready_mono hj hji
        have h1 := (H.2 hnd2).2 j hjr
        obtain ⟨hjun, oj, hoj, hall⟩ := mem_ready.1 hj
        have hnot : ∀ e ∈ oj.after, Region.binds md e = true → e.on ≠ i := fun e he hb heq => by
          have h1 := hall e he hb
          have h0 := hun
          rw [heq] at h1
          rcases Nat.lt_or_ge i listed.size with h' | h'
          · simp [h'] at h0 h1; rw [h0] at h1; cases h1
          · simp [Array.getElem?_eq_none h'] at h1
        have h2 := qOp_put hoj (hfree j oj hoj hji hjun hnot) (fun cs b => hsel i oi cs b hi) (fun cs b => hsel j oj cs b hoj) hy h1
        have hfree' : ∀ k ok, ops[k]? = some ok → k ≠ i → (listed.setIfInBounds j true).getD k true = false →
            (∀ e ∈ ok.after, Region.binds md e = true → e.on ≠ i) → oi.apart ops ok = true := fun k ok hk hki hun hno => by
          refine hfree k ok hk hki ?_ hno
          by_cases hjk : j = k
          · subst hjk; exact hjun
          · rw [getD_set_ne true hjk] at hun; exact hun
        have hcase' : ((i ∈ req ∧ ∀ f ∈ ord, f ∉ req → (listed.setIfInBounds j true).getD f true = false → ((ancs md ops ops.size).getD f 0).testBit i = true) ∨
            (i ∉ req ∧ ∀ (fuel : Nat) (listed : Array Bool) (a : Act), closed md ops listed → (∀ j oj, ops[j]? = some oj → j ≠ i → listed.getD j true = false → (∀ e ∈ oj.after, Region.binds md e = true → e.on ≠ i) → oi.apart ops oj = true) → i ∈ Region.ready md ops listed → YieldsIn P ops C oi v a → K fuel (listed.setIfInBounds i true) (a.put oi.dst v) → K (fuel + 1) listed a)) := by
          refine hcase.imp (fun h => ⟨h.1, fun f hf hfr hfu => h.2 f hf hfr ?_⟩) id
          by_cases hjf : j = f
          · subst hjf; exact hjun
          · rw [getD_set_ne true hjf] at hfu; exact hfu
        refine qOp_mono (fun a' h3 => ih (listed.setIfInBounds j true) a' (closed_set hc hj) hfree' (ready_mono hr (Ne.symm hji)) h3.1 hcase' ?_) h2
        rw [Array.setIfInBounds_comm _ _ hji]
        exact h3.2
    rcases hcase with ⟨hir, hF⟩ | ⟨hir, hpure⟩
    · have hnd : done req listed = false := by
        cases hd : done req listed with
        | false => rfl
        | true => have := done_spec hd hir; rw [hun] at this; cases this
      refine ⟨fun h => (by rw [hnd] at h; cases h), fun _ => ?_⟩
      cases hd2 : done req (listed.setIfInBounds i true) with
      | false => exact step hd2
      | true =>
        refine ⟨fun h => (by rw [h] at hr; cases hr), fun j hj => ?_⟩
        by_cases hji : j = i
        · subst hji; exact hy.qOp hi H
        · have hjo := ready_ord hT hc hlt hir hun hj
          by_cases hjr : j ∈ req
          · have h2 := done_spec hd2 hjr
            rw [(mem_ready.1 (ready_mono hj hji)).1] at h2
            cases h2
          · have h2 := hF j hjo hjr (mem_ready.1 hj).1
            rw [ready_anc hT hc hlt hun hj] at h2
            cases h2
    · have he := done_set (listed := listed) hir
      refine ⟨fun hd => hpure (fuel + 1) listed a hc hfree hr hy (H.1 (by rw [he]; exact hd)), fun hd => step (by rw [he]; exact hd)⟩


/-- An operation that gives a value and calls nothing. -/
def plainB (o : Oper) : Bool := match o.op with | .pick .. | .move .. | .assign .. | .load .. | .binOp .. | .unOp .. | .fieldAddr .. => true | _ => false
theorem plain_sem {o : Oper} (h : plainB o = true) (ρ : Operand → Value) : ∃ x : Sem Value, execOp ρ o = Next.value <$> x := by
  unfold plainB at h
  cases hop : o.op
  case pick c x y =>
    refine ⟨asBool (ρ c) >>= fun b => Pure.pure (if b then ρ x else ρ y), ?_⟩
    unfold execOp
    simp only [hop]
    first | rfl | (simp only [map_bind, map_pure]; done) | (simp only [map_bind, map_pure]; rfl)
  all_goals (simp only [hop] at h)
  all_goals first | (cases h; done) | (unfold execOp; simp only [hop]; first | exact ⟨_, rfl⟩ | exact ⟨Pure.pure _, rfl⟩)
theorem plain_yields {o : Oper} (h : plainB o = true) {v : Value} {a : Act} (hy : YieldsIn P ops C o v a) : YieldsIf P ops C o v a := by
  refine hy.imp (fun ⟨hw, hv⟩ => ⟨hw, fun w hC => ?_⟩) id
  obtain ⟨x, hx⟩ := plain_sem h a.eval
  have h1 := hv w hC
  unfold Oper.quietAt at h1
  rw [hx, Sem.run_map] at h1 ⊢
  cases hr : x.run P w with
  | ok u w' => rw [hr] at h1; simp only [Result.andThen_ok, Oper.quietUpon] at h1 ⊢; obtain ⟨rfl, rfl⟩ := h1; rfl
  | _ => rw [hr] at h1; simp [Result.andThen, Oper.quietUpon] at h1
/-- What 'ancs' says holds of the edges themselves. -/
def ancB (md : Region.Mode) (ops : Array Oper) : Bool :=
  let A := ancs md ops ops.size
  (List.range ops.size).all fun t => ((ops[t]?).map (·.after.all fun e => !Region.binds md e || (A.getD t 0).testBit e.on)).getD true
/-- As 'okP'; those beside 'req' are plain, and behind every other that does not wait for them the class is shown anew. -/
def okR (md : Region.Mode) (ops : Array Oper) (T : Nat → Bool) (ord req tl : List Nat) : List Nat → Array Bool → Bool
  | [], listed => RegT.lin md ops tl listed
  | k :: r, listed => (Region.ready md ops listed).contains k && Region.free md ops listed k &&
      (if req.contains k then ord.all fun f => req.contains f || listed.getD f true || ((ancs md ops ops.size).getD f 0).testBit k
       else ((ops[k]?).map plainB).getD false && (List.range ops.size).all fun j => T j || j == k || ((ancs md ops ops.size).getD j 0).testBit k) &&
      okR md ops T ord req tl r (listed.setIfInBounds k true)
theorem ancs_size : ∀ n, (ancs md ops n).size = n
  | 0 => rfl
  | n + 1 => by simp [ancs, ancs_size n]
theorem late_step (hT : tailB md ops ord req = true) (hA : ancB md ops = true) (hs : Region.noSelect ops = true) {T : Nat → Bool} {Q' : Exit → Act → World → Prop} (hQ : ∀ c a a' w, Q' (.panic c) a w → Q' (.panic c) a' w) {i : Nat} {oi : Oper} {v : Value} (h0 : ops[i]? = some oi) (hp : plainB oi = true)
    (hTi : ((List.range ops.size).all fun j => T j || j == i || ((ancs md ops ops.size).getD j 0).testBit i) = true) {fuel : Nat} {listed : Array Bool} {a : Act} (hc : closed md ops listed)
    (hfree : ∀ j oj, ops[j]? = some oj → j ≠ i → listed.getD j true = false → (∀ e ∈ oj.after, Region.binds md e = true → e.on ≠ i) → oi.apart ops oj = true) (hr : i ∈ Region.ready md ops listed) (hy : YieldsIn P ops C oi v a)
    (hk : ∀ w, C w → RegT.wpAnyT P md ops Q' T C fuel (listed.setIfInBounds i true) (a.put oi.dst v) w) (w : World) (hw : C w) : RegT.wpAnyT P md ops Q' T C (fuel + 1) listed a w := by
  have hlt : i < ops.size := (Array.getElem?_eq_some_iff.1 h0).1
  have hun := (mem_ready.1 hr).1
  refine RegT.wpAnyT_first (D := fun j => j == i || ((ancs md ops ops.size).getD j 0).testBit i) (by simp) h0 (Region.noSelect_spec hs) (fun j oj hj hD hne => ?_) (fun c a w h => hQ c _ a w h) fuel listed a w (fun j hD => ?_) (fun j oj hj hD hunj => ?_) hr (plain_yields hp hy) hw (hk w hw)
  · have hb : ((ancs md ops ops.size).getD j 0).testBit i = true := by simpa [hne] using hD
    have h1 := List.all_eq_true.1 hT j (List.mem_range.2 (Array.getElem?_eq_some_iff.1 hj).1)
    simp only [Bool.and_eq_true] at h1
    have h2 := List.all_eq_true.1 h1.2 i (List.mem_range.2 hlt)
    simp only [hb, Bool.not_true, Bool.false_or, hj, Option.map_some, Option.getD_some] at h2
    obtain ⟨e, he, hb2⟩ := Array.any_eq_true'.1 h2
    simp only [Bool.and_eq_true, Bool.or_eq_true, beq_iff_eq, decide_eq_true_eq] at hb2
    exact ⟨e, he, hb2.1, by rcases hb2.2 with h3 | ⟨_, h4⟩ <;> simp_all⟩
  · by_cases hji : j = i
    · subst hji; exact hun
    · have hb : ((ancs md ops ops.size).getD j 0).testBit i = true := by simpa [hji] using hD
      cases hl : listed.getD j true with
      | false => rfl
      | true =>
        rcases Nat.lt_or_ge j ops.size with hjl | hjl
        · have := anc_listed hT hc hlt j _ (Array.getElem?_eq_getElem hjl) hb (hc j _ (Array.getElem?_eq_getElem hjl) hl)
          rw [hun] at this; cases this
        · rw [show (ancs md ops ops.size).getD j 0 = 0 from by rw [Array.getD_eq_getD_getElem?, Array.getElem?_eq_none (by rw [ancs_size]; exact hjl)]; rfl] at hb
          simp at hb
  · simp only [Bool.or_eq_false_iff, beq_eq_false_iff_ne] at hD
    have hjl := (Array.getElem?_eq_some_iff.1 hj).1
    have h2 := List.all_eq_true.1 hTi j (List.mem_range.2 hjl)
    refine ⟨hfree j oj hj hD.1 hunj (fun e he hb heq => ?_), by simp only [hD.2, Bool.or_false, Bool.or_eq_true, beq_iff_eq, hD.1, or_false] at h2; exact h2⟩
    have h3 := List.all_eq_true.1 hA j (List.mem_range.2 hjl)
    simp only [hj, Option.map_some, Option.getD_some] at h3
    have h4 := Array.all_eq_true'.1 h3 e he
    simp only [hb, Bool.not_true, Bool.false_or, heq, hD.2] at h4
    cases h4

theorem wpM_lex2 {T : Nat → Bool} (hs : Region.noSelect ops = true) (hT : tailB md ops ord req = true) (hA : ancB md ops = true) {Q' : Exit → Act → World → Prop} (hQ : ∀ c a a' w, Q' (.panic c) a w → Q' (.panic c) a' w) {tl : List Nat} :
    ∀ (ks : List Nat) (l : List Oper) (listed : Array Bool) (a : Act), closed md ops listed → ks.map (ops[·]?) = l.map some → (∀ j ∈ req, j ∈ ks ∨ listed.getD j true = true) →
    okR md ops T ord req tl ks listed = true → wpQuiet P ops C (fun a' => ∀ w', C w' → RegT.seqT P ops Q' T C tl a' w') l a →
    wpM P md ops C (fun fuel listed a => ∀ w, C w → RegT.wpAnyT P md ops Q' T C fuel listed a w) req (ks.length + tl.length) listed a
  | [], [], listed, a, hc, hl, hd, hB, h => by
    have hdn : done req listed = true := List.all_eq_true.2 fun j hj => (hd j hj).resolve_left (by simp)
    have hK : ∀ w, C w → RegT.wpAnyT P md ops Q' T C (0 + tl.length) listed a w := fun w hw =>
      RegT.of_lin tl _ listed a w (by simpa [okR] using hB) (by omega) (h w hw)
    simp only [List.length_nil]
    cases ht : 0 + tl.length with
    | zero => rw [ht] at hK; exact ⟨hdn, hK⟩
    | succ f => rw [ht] at hK; exact ⟨fun _ => hK, fun h => (by rw [hdn] at h; cases h)⟩
  | [], _ :: _, _, _, _, hl, _, _, _ => by simp at hl
  | _ :: _, [], _, _, _, hl, _, _, _ => by simp at hl
  | k :: ks, o :: l, listed, a, hc, hl, hd, hB, h => by
    simp only [List.map_cons, List.cons.injEq] at hl
    obtain ⟨h0, hl⟩ := hl
    simp only [okR, Bool.and_eq_true] at hB
    obtain ⟨⟨⟨hr, hf⟩, hcs⟩, hB'⟩ := hB
    have hst : qOp P ops C k (wpQuiet P ops C (fun a' => ∀ w', C w' → RegT.seqT P ops Q' T C tl a' w') l) a := by unfold qOp; simp only [h0]; exact h
    obtain ⟨v, hy, hK⟩ := yieldsIn_of_qOp h0 hst
    have hrr : k ∈ Region.ready md ops listed := by simpa using hr
    rw [show (k :: ks).length + tl.length = ks.length + tl.length + 1 by simp only [List.length_cons]; omega]
    refine wpM_first2 hT h0 (Region.noSelect_spec hs) _ listed a hc (Region.free_spec h0 hf) hrr hy ?_ ?_
    · by_cases hkr : k ∈ req
      · refine .inl ⟨hkr, fun f hf hfr hfu => ?_⟩
        rw [if_pos (by simpa using hkr)] at hcs
        have := List.all_eq_true.1 hcs f hf
        simpa [hfr, hfu] using this
      · refine .inr ⟨hkr, fun fuel listed a hc hfree hr hy hk w hw => ?_⟩
        rw [if_neg (by simpa using hkr)] at hcs
        simp only [h0, Option.map_some, Option.getD_some, Bool.and_eq_true] at hcs
        exact late_step hT hA hs hQ h0 hcs.1 hcs.2 hc hfree hr hy hk w hw
    · refine wpM_lex2 hs hT hA hQ ks l _ _ (closed_set hc hrr) hl (fun j hj => ?_) hB' hK
      by_cases hjk : k = j
      · subst hjk; exact .inr getD_set_self
      · rw [getD_set_ne true hjk]
        rcases hd j hj with h | h
        · exact .inl ((List.mem_cons.1 h).resolve_left (fun e => hjk e.symm))
        · exact .inr h

/-- THE REGION: as 'region', for a class C of worlds of which the present one is, whose quiet operations beside 'req' may come up behind those of 'tl' that are of T (behind each of these the class is shown anew). -/
theorem region2 {id : Nat} {Q : Exit → Act → World → Prop} {a : Act} {w : World} (C : World → Prop) (T : Nat → Bool) (ord req tl : List Nat) (pre : List Oper) (hp : ord.map (ops[·]?) = pre.map some) (hm : P.follows .mixedOrders = true) (hs : Region.noSelect ops = true)
    (hT : tailB .any ops ord req = true) (hA : ancB .any ops = true) (hn : (ord.length + tl.length == ops.size) = true) (hB : okR .any ops T ord req tl ord (Array.replicate ops.size false) = true) (hro : (req.all fun j => ord.contains j) = true) (hC : C w.drew)
    (h : wpQuiet P ops C (fun a' => ∀ w', C w' → RegT.seqT P ops (RegT.NP Q) T C tl a' w') pre a) : (Code.region id ops true).wp P Q a w := by
  refine Code.wp_mono (fun e a w q => by cases e <;> first | exact q | exact q.elim) (wp_region_any (Q := RegT.NP Q) hm ?_)
  have hn := eq_of_beq hn
  have hcl : closed .any ops (Array.replicate ops.size false) := fun j oj hj hl => by
    have hlt := (Array.getElem?_eq_some_iff.1 hj).1
    simp [hlt] at hl
  have hM := wpM_lex2 (Q' := RegT.NP Q) (T := T) hs hT hA (fun _ _ _ _ h => h.elim) ord pre (Array.replicate ops.size false) a hcl hp (fun j hj => .inl (by have := List.all_eq_true.1 hro j hj; simpa using this)) hB h
  rw [hn] at hM
  exact wpAny_of_M (fun fuel listed a w hw hk => RegT.wpAny_of_T _ _ _ _ (hk w hw)) _ _ _ _ hC hM

/-- The worlds in which what was there is as it was, but for one block of n cells; new blocks may stand behind it. -/
structure Reb (n : Nat) where
  d : Nat
  os : Array Obj
  cur : Array Value
  hn : cur.size = n
instance {n : Nat} : Inhabited (Reb n) := ⟨⟨0, #[], Array.replicate n undef, by simp⟩⟩
def rebW (w : World) (R : Nat) (U : TypeId) {n : Nat} (p : Reb n) : World := { grow (redrawn w p.d) p.os with heap := (grow (redrawn w p.d) p.os).heap.setIfInBounds R (.cells p.cur U (0, 0)) }
structure InReb (w : World) (R : Nat) (U : TypeId) (n : Nat) (w' : World) : Prop where
  os : w'.os = w.os
  tape : w'.tape = w.tape
  output : w'.output = w.output
  size : w.heap.size ≤ w'.heap.size
  other : ∀ k, k < w.heap.size → k ≠ R → w'.heap[k]? = w.heap[k]?
  blk : ∃ cur : Array Value, cur.size = n ∧ w'.heap[R]? = some (.cells cur U (0, 0))
theorem rebW_in {w : World} {R : Nat} {U : TypeId} {n : Nat} (hR : R < w.heap.size) (p : Reb n) : InReb w R U n (rebW w R U p) := by
  have hb := below_regrown w p.d p.os
  exact ⟨hb.os, hb.tape, hb.output, by simp only [rebW, Array.size_setIfInBounds]; exact hb.size, fun k hk hne => by simp only [rebW]; rw [Array.getElem?_setIfInBounds_ne (Ne.symm hne)]; exact hb.block k hk,
    p.cur, p.hn, by simp only [rebW]; rw [Array.getElem?_setIfInBounds_self]; rw [if_pos (Nat.lt_of_lt_of_le hR hb.size)]⟩
theorem reb_of {w w' : World} {R : Nat} {U : TypeId} {n : Nat} (hR : R < w.heap.size) (h : InReb w R U n w') : ∃ p : Reb n, w' = rebW w R U p := by
  obtain ⟨cur, hn, hc⟩ := h.blk
  obtain ⟨x, hx⟩ : ∃ x, w.heap[R]? = some x := ⟨_, Array.getElem?_eq_getElem hR⟩
  have hB : Below w.heap.size w { w' with heap := w'.heap.setIfInBounds R x } := ⟨h.os, h.tape, h.output, by simp only [Array.size_setIfInBounds]; exact h.size, fun k hk => by
    simp only
    by_cases hkR : k = R
    · subst hkR; rw [Array.getElem?_setIfInBounds_self, if_pos (Nat.lt_of_lt_of_le hR h.size), hx]
    · rw [Array.getElem?_setIfInBounds_ne (Ne.symm hkR)]; exact h.other k hk hkR⟩
  obtain ⟨p, hp⟩ := regrown_of_below hB
  refine ⟨⟨p.d, p.os, cur, hn⟩, ?_⟩
  simp only [rebW]
  rw [← hp]
  obtain ⟨heap', tape', drawn', os', output'⟩ := w'
  simp only
  congr 1
  apply Array.ext_getElem?
  intro k
  by_cases hkR : k = R
  · subst hkR; rw [Array.getElem?_setIfInBounds_self, Array.size_setIfInBounds, if_pos (Nat.lt_of_lt_of_le hR h.size)]; exact hc
  · rw [Array.getElem?_setIfInBounds_ne (Ne.symm hkR), Array.getElem?_setIfInBounds_ne (Ne.symm hkR)]
theorem InReb.self {w : World} {R : Nat} {U : TypeId} {n : Nat} {cs : Array Value} (h : w.heap[R]? = some (.cells cs U (0, 0))) (hn : cs.size = n) : InReb w R U n w := ⟨rfl, rfl, rfl, Nat.le_refl _, fun _ _ _ => rfl, cs, hn, h⟩
theorem InReb.drew {w : World} {R : Nat} {U : TypeId} {n : Nat} {cs : Array Value} (h : w.heap[R]? = some (.cells cs U (0, 0))) (hn : cs.size = n) : InReb w R U n w.drew := ⟨rfl, rfl, rfl, Nat.le_refl _, fun _ _ _ => rfl, cs, hn, h⟩
theorem InReb.below {w w' w'' : World} {R : Nat} {U : TypeId} {n : Nat} (hR : R < w.heap.size) (h : InReb w R U n w') (hb : Below w'.heap.size w' w'') : InReb w R U n w'' := by
  obtain ⟨cur, hn, hc⟩ := h.blk
  exact ⟨hb.os.trans h.os, hb.tape.trans h.tape, hb.output.trans h.output, Nat.le_trans h.size hb.size, fun k hk hne => (hb.block k (Nat.lt_of_lt_of_le hk h.size)).trans (h.other k hk hne), cur, hn, (hb.block R (Nat.lt_of_lt_of_le hR h.size)).trans hc⟩
theorem InReb.to {w w' : World} {R : Nat} {U : TypeId} {n : Nat} (hR : R < w.heap.size) (h : InReb w R U n w') : Below R w w' := ⟨h.os, h.tape, h.output, h.size, fun k hk => h.other k (Nat.lt_trans hk hR) (Nat.ne_of_lt hk)⟩
theorem InReb.but {w w' w'' : World} {R : Nat} {U : TypeId} {n : Nat} (h : InReb w R U n w') (hb : Go.Proofs.Ytnknefdpglnbnaa.But R w' w'') {cs : Array Value} (hc : w''.heap[R]? = some (.cells cs U (0, 0))) (hn : cs.size = n) : InReb w R U n w'' :=
  ⟨hb.os.trans h.os, hb.tape.trans h.tape, hb.output.trans h.output, by rw [hb.size]; exact h.size, fun k hk hne => (hb.other k hne).trans (h.other k hk hne), cs, hn, hc⟩
/-- The class, as a predicate in the form that the walk of quiet operations takes. -/
abbrev InReb' (w : World) (R : Nat) (U : TypeId) (n : Nat) : World → Prop := fun w' => ∃ p : Reb n, w' = rebW w R U p
theorem inReb'_iff {w w' : World} {R : Nat} {U : TypeId} {n : Nat} (hR : R < w.heap.size) : InReb' w R U n w' ↔ InReb w R U n w' := ⟨fun ⟨p, h⟩ => h ▸ rebW_in hR p, reb_of hR⟩
theorem cell_reb {w : World} {R : Nat} {U : TypeId} {n : Nat} {b j : Nat} {v : Value} (hR : R < w.heap.size) (h : w.cell? ⟨b, j, Option.none⟩ = some v) (hb : b ≠ R) (p : Reb n) : (rebW w R U p).cell? ⟨b, j, Option.none⟩ = some v := by
  have h1 := (rebW_in (U := U) hR p).other b (block_lt_of_cell h) hb
  rw [← h]
  unfold World.cell?
  simp only [h1]
theorem calls_reb {P : Program} {f : FuncId} {args : Array Value} {w : World} {R : Nat} {U : TypeId} {n : Nat} (hR : R < w.heap.size) {p : Reb n} {v : Value}
    (h : Calls P f args (rebW w R U p) fun e w' => e = .returned v ∧ Below (rebW w R U p).heap.size (rebW w R U p) w') : Calls P f args (rebW w R U p) fun e w'' => e = .returned v ∧ ∃ q : Reb n, w'' = rebW w R U q :=
  h.mono fun _ _ ⟨he, hb⟩ => ⟨he, reb_of hR ((rebW_in hR p).below hR hb)⟩
end Go.RegQ
