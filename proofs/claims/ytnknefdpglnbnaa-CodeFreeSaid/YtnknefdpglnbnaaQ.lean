/- A region that draws its order: quiet operations (calls among them, whose callees leave a world of a class), then, behind all of them, a few more in the order of the text. -/
import Derived.Test.YtnknefdpglnbnaaG
import Derived.Deep.Quiet
import Derived.Lib.QuietBelow
import Derived.BigQuiet
namespace Go.RegQ
open Go Go.RowKit
variable {P : Program} {ops : Array Oper} {md : Region.Mode} {C : World → Prop} {K : Nat → Array Bool → Act → Prop} {req ord : List Nat}

def done (req : List Nat) (listed : Array Bool) : Bool := req.all fun j => listed.getD j true
theorem done_spec {listed : Array Bool} (h : done req listed = true) {j : Nat} (hj : j ∈ req) : listed.getD j true = true := List.all_eq_true.1 h j hj
/-- What has come up has all that it waits for. -/
def closed (md : Region.Mode) (ops : Array Oper) (listed : Array Bool) : Prop := ∀ (j : Nat) (oj : Oper), ops[j]? = some oj → listed.getD j true = true → ∀ e ∈ oj.after, Region.binds md e = true → listed.getD e.on true = true
theorem getD_set_self {listed : Array Bool} {k : Nat} : (listed.setIfInBounds k true).getD k true = true := by
  rcases Nat.lt_or_ge k listed.size with h' | h'
  · simp [h']
  · simp
theorem getD_set_of {listed : Array Bool} {k j : Nat} (h : listed.getD j true = true) : (listed.setIfInBounds k true).getD j true = true := by
  by_cases hkj : k = j
  · subst hkj; exact getD_set_self
  · rw [getD_set_ne true hkj]; exact h
theorem ready_deps {listed : Array Bool} {j : Nat} (hj : j ∈ Region.ready md ops listed) {oj : Oper} (hoj : ops[j]? = some oj) {e : Edge} (he : e ∈ oj.after) (hb : Region.binds md e = true) : listed.getD e.on true = true := by
  obtain ⟨_, oj', hoj', hall⟩ := mem_ready.1 hj
  rw [hoj] at hoj'
  cases hoj'
  have h1 := hall e he hb
  rcases Nat.lt_or_ge e.on listed.size with h2 | h2
  · simp [h2] at h1 ⊢; exact h1
  · simp [Array.getElem?_eq_none h2]
theorem closed_set {listed : Array Bool} (h : closed md ops listed) {j : Nat} (hj : j ∈ Region.ready md ops listed) : closed md ops (listed.setIfInBounds j true) := by
  intro k ok hk hl e he hb
  by_cases hjk : j = k
  · subst hjk; exact getD_set_of (ready_deps hj hk he hb)
  · rw [getD_set_ne true hjk] at hl; exact getD_set_of (h k ok hk hl e he hb)
/-- Of each operation: those that it waits for, directly or through others, as the bits of a number. -/
def ancs (md : Region.Mode) (ops : Array Oper) : Nat → Array Nat
  | 0 => #[]
  | j + 1 =>
    let A := ancs md ops j
    A.push (((ops[j]?).map fun o => o.after.toList.foldl (fun m e => if Region.binds md e then m ||| (1 <<< e.on) ||| A.getD e.on 0 else m) 0).getD 0)
/-- Behind those of 'req' comes all that is not of 'ord'. -/
def tailB (md : Region.Mode) (ops : Array Oper) (ord req : List Nat) : Bool :=
  let A := ancs md ops ops.size
  (List.range ops.size).all fun t => (ord.contains t || req.all fun p => (A.getD t 0).testBit p) &&
    (List.range ops.size).all fun p => !(A.getD t 0).testBit p || ((ops[t]?).map (·.after.any fun e => Region.binds md e && (e.on == p || (decide (e.on < t) && (A.getD e.on 0).testBit p)))).getD false
theorem anc_listed (h : tailB md ops ord req = true) {listed : Array Bool} (hc : closed md ops listed) {p : Nat} (hp : p < ops.size) : ∀ (t : Nat) (ot : Oper), ops[t]? = some ot → ((ancs md ops ops.size).getD t 0).testBit p = true → (∀ e ∈ ot.after, Region.binds md e = true → listed.getD e.on true = true) → listed.getD p true = true := by
  intro t
  induction t using Nat.strongRecOn with
  | ind t ih =>
    intro ot ht hb hd
    have h1 := List.all_eq_true.1 h t (List.mem_range.2 (Array.getElem?_eq_some_iff.1 ht).1)
    simp only [Bool.and_eq_true] at h1
    have h2 := List.all_eq_true.1 h1.2 p (List.mem_range.2 hp)
    simp only [hb, Bool.not_true, Bool.false_or, ht, Option.map_some, Option.getD_some] at h2
    obtain ⟨e, he, hb2⟩ := Array.any_eq_true'.1 h2
    simp only [Bool.and_eq_true, Bool.or_eq_true, beq_iff_eq, decide_eq_true_eq] at hb2
    have hl := hd e he hb2.1
    rcases hb2.2 with h3 | ⟨h3, h4⟩
    · rw [← h3]; exact hl
    · have hlt := (Array.getElem?_eq_some_iff.1 ht).1
      have hoe : ops[e.on]? = some (ops[e.on]'(by omega)) := Array.getElem?_eq_getElem (by omega)
      exact ih e.on h3 _ hoe h4 (hc e.on _ hoe hl)
theorem ready_anc (h : tailB md ops ord req = true) {listed : Array Bool} (hc : closed md ops listed) {i : Nat} (hi : i < ops.size) (hun : listed.getD i true = false) {j : Nat} (hj : j ∈ Region.ready md ops listed) : ((ancs md ops ops.size).getD j 0).testBit i = false := by
  cases hb : ((ancs md ops ops.size).getD j 0).testBit i with
  | false => rfl
  | true =>
    obtain ⟨_, oj, hoj, _⟩ := mem_ready.1 hj
    have := anc_listed h hc hi j oj hoj hb (fun e he hb => ready_deps hj hoj he hb)
    rw [hun] at this; cases this
theorem ready_ord (h : tailB md ops ord req = true) {listed : Array Bool} (hc : closed md ops listed) {i : Nat} (hi : i < ops.size) (hir : i ∈ req) (hun : listed.getD i true = false) {j : Nat} (hj : j ∈ Region.ready md ops listed) : j ∈ ord := by
  obtain ⟨_, oj, hoj, _⟩ := mem_ready.1 hj
  have h1 := List.all_eq_true.1 h j (List.mem_range.2 (Array.getElem?_eq_some_iff.1 hoj).1)
  simp only [Bool.and_eq_true, Bool.or_eq_true] at h1
  rcases h1.1 with h2 | h2
  · simpa using h2
  · have h3 := List.all_eq_true.1 h2 i hir
    rw [ready_anc h hc hi hun hj] at h3
    cases h3

def wpM (P : Program) (md : Region.Mode) (ops : Array Oper) (C : World → Prop) (K : Nat → Array Bool → Act → Prop) (req : List Nat) : Nat → Array Bool → Act → Prop
  | 0, listed, a => done req listed = true ∧ K 0 listed a
  | fuel + 1, listed, a => (done req listed = true → K (fuel + 1) listed a) ∧ (done req listed = false → Region.ready md ops listed ≠ [] ∧ ∀ i ∈ Region.ready md ops listed, qOp P ops C i (wpM P md ops C K req fuel (listed.setIfInBounds i true)) a)

theorem wpAny_of_M {Q' : Exit → Act → World → Prop} (hK : ∀ fuel listed a w, C w → K fuel listed a → wpAny P md ops Q' fuel listed a w) : ∀ (fuel : Nat) (listed : Array Bool) (a : Act) (w : World), C w →
    wpM P md ops C K req fuel listed a → wpAny P md ops Q' fuel listed a w
  | 0, _, _, _, hw, h => hK _ _ _ _ hw h.2
  | fuel + 1, listed, a, w, hw, h => by
    cases hd : done req listed with
    | true => exact hK _ _ _ _ hw (h.1 hd)
    | false => exact ⟨fun h0 => absurd h0 (h.2 hd).1, fun i hi => wpOp_of_qOp hw (fun a' w' hw' => wpAny_of_M hK fuel _ a' w' hw') ((h.2 hd).2 i hi)⟩

theorem done_set {listed : Array Bool} {i : Nat} (hi : i ∉ req) : done req (listed.setIfInBounds i true) = done req listed := by
  unfold done
  rw [Bool.eq_iff_iff, List.all_eq_true, List.all_eq_true]
  constructor
  · intro h j hj
    have := h j hj
    rwa [getD_set_ne true (by rintro rfl; exact hi hj)] at this
  · intro h j hj
    exact getD_set_of (h j hj)

/-- A quiet operation may be taken first. It is of 'req', and those of 'ord' beside 'req' have come up or wait for it; or it is pure. -/
theorem wpM_first (hT : tailB md ops ord req = true) {i : Nat} {oi : Oper} {v : Value} (hi : ops[i]? = some oi) (hsel : ∀ (j : Nat) (o : Oper) cs b, ops[j]? = some o → o.op ≠ .select cs b) :
    ∀ (fuel : Nat) (listed : Array Bool) (a : Act), closed md ops listed →
      (∀ j oj, ops[j]? = some oj → j ≠ i → listed.getD j true = false → (∀ e ∈ oj.after, Region.binds md e = true → e.on ≠ i) → oi.apart ops oj = true) →
      i ∈ Region.ready md ops listed → YieldsIn P ops C oi v a →
      ((i ∈ req ∧ ∀ f ∈ ord, f ∉ req → listed.getD f true = false → ((ancs md ops ops.size).getD f 0).testBit i = true) ∨
       (i ∉ req ∧ ∀ (fuel : Nat) (listed : Array Bool) (a : Act), (∀ j oj, ops[j]? = some oj → j ≠ i → listed.getD j true = false → (∀ e ∈ oj.after, Region.binds md e = true → e.on ≠ i) → oi.apart ops oj = true) → i ∈ Region.ready md ops listed → YieldsIn P ops C oi v a → K fuel (listed.setIfInBounds i true) (a.put oi.dst v) → K (fuel + 1) listed a)) →
      wpM P md ops C K req fuel (listed.setIfInBounds i true) (a.put oi.dst v) → wpM P md ops C K req (fuel + 1) listed a := by
  have hlt : i < ops.size := (Array.getElem?_eq_some_iff.1 hi).1
  intro fuel
  induction fuel with
  | zero =>
    intro listed a hc hfree hr hy hcase H
    have hun := (mem_ready.1 hr).1
    rcases hcase with ⟨hir, hF⟩ | ⟨hir, hpure⟩
    · have hnd : done req listed = false := by
        cases hd : done req listed with
        | false => rfl
        | true => have := done_spec hd hir; rw [hun] at this; cases this
      refine ⟨fun h => (by rw [hnd] at h; cases h), fun _ => ⟨fun h => (by rw [h] at hr; cases hr), fun j hj => ?_⟩⟩
      by_cases hji : j = i
      · subst hji; exact hy.qOp hi H
      · have hjo := ready_ord hT hc hlt hir hun hj
        by_cases hjr : j ∈ req
        · have h2 := done_spec H.1 hjr
          rw [(mem_ready.1 (ready_mono hj hji)).1] at h2
          cases h2
        · have h2 := hF j hjo hjr (mem_ready.1 hj).1
          rw [ready_anc hT hc hlt hun hj] at h2
          cases h2
    · have hd := H.1
      rw [done_set hir] at hd
      exact ⟨fun _ => hpure 0 listed a hfree hr hy H.2, fun h => (by rw [hd] at h; cases h)⟩
  | succ fuel ih =>
    intro listed a hc hfree hr hy hcase H
    have hun := (mem_ready.1 hr).1
    have step : done req (listed.setIfInBounds i true) = false → (Region.ready md ops listed ≠ [] ∧ ∀ j ∈ Region.ready md ops listed, qOp P ops C j (wpM P md ops C K req (fuel + 1) (listed.setIfInBounds j true)) a) := by
      intro hnd2
      refine ⟨fun h => (by rw [h] at hr; cases hr), fun j hj => ?_⟩
      by_cases hji : j = i
      · subst hji; exact hy.qOp hi H
      · have hjr := ready_mono hj hji
        have h1 := (H.2 hnd2).2 j hjr
        obtain ⟨hjun, oj, hoj, hall⟩ := mem_ready.1 hj
        have hnot : ∀ e ∈ oj.after, Region.binds md e = true → e.on ≠ i := fun e he hb heq => by
          have h1 := hall e he hb
          have h0 := hun
          rw [heq] at h1
          rcases Nat.lt_or_ge i listed.size with h' | h'
          · simp [h'] at h0 h1; rw [h0] at h1; cases h1
          · simp [Array.getElem?_eq_none h'] at h1
        have h2 := qOp_put hoj (hfree j oj hoj hji hjun hnot) (fun cs b => hsel i oi cs b hi) (fun cs b => hsel j oj cs b hoj) hy h1
        have hfree' : ∀ k ok, ops[k]? = some ok → k ≠ i → (listed.setIfInBounds j true).getD k true = false →
            (∀ e ∈ ok.after, Region.binds md e = true → e.on ≠ i) → oi.apart ops ok = true := fun k ok hk hki hun hno => by
          refine hfree k ok hk hki ?_ hno
          by_cases hjk : j = k
          · subst hjk; exact hjun
          · rw [getD_set_ne true hjk] at hun; exact hun
        have hcase' : ((i ∈ req ∧ ∀ f ∈ ord, f ∉ req → (listed.setIfInBounds j true).getD f true = false → ((ancs md ops ops.size).getD f 0).testBit i = true) ∨
            (i ∉ req ∧ ∀ (fuel : Nat) (listed : Array Bool) (a : Act), (∀ j oj, ops[j]? = some oj → j ≠ i → listed.getD j true = false → (∀ e ∈ oj.after, Region.binds md e = true → e.on ≠ i) → oi.apart ops oj = true) → i ∈ Region.ready md ops listed → YieldsIn P ops C oi v a → K fuel (listed.setIfInBounds i true) (a.put oi.dst v) → K (fuel + 1) listed a)) := by
          refine hcase.imp (fun h => ⟨h.1, fun f hf hfr hfu => h.2 f hf hfr ?_⟩) id
          by_cases hjf : j = f
          · subst hjf; exact hjun
          · rw [getD_set_ne true hjf] at hfu; exact hfu
        refine qOp_mono (fun a' h3 => ih (listed.setIfInBounds j true) a' (closed_set hc hj) hfree' (ready_mono hr (Ne.symm hji)) h3.1 hcase' ?_) h2
        rw [Array.setIfInBounds_comm _ _ hji]
        exact h3.2
    rcases hcase with ⟨hir, hF⟩ | ⟨hir, hpure⟩
    · have hnd : done req listed = false := by
        cases hd : done req listed with
        | false => rfl
        | true => have := done_spec hd hir; rw [hun] at this; cases this
      refine ⟨fun h => (by rw [hnd] at h; cases h), fun _ => ?_⟩
      cases hd2 : done req (listed.setIfInBounds i true) with
      | false => exact step hd2
      | true =>
        refine ⟨fun h => (by rw [h] at hr; cases hr), fun j hj => ?_⟩
        by_cases hji : j = i
        · subst hji; exact hy.qOp hi H
        · have hjo := ready_ord hT hc hlt hir hun hj
          by_cases hjr : j ∈ req
          · have h2 := done_spec hd2 hjr
            rw [(mem_ready.1 (ready_mono hj hji)).1] at h2
            cases h2
          · have h2 := hF j hjo hjr (mem_ready.1 hj).1
            rw [ready_anc hT hc hlt hun hj] at h2
            cases h2
    · have he := done_set (listed := listed) hir
      refine ⟨fun hd => hpure (fuel + 1) listed a hfree hr hy (H.1 (by rw [he]; exact hd)), fun hd => step (by rw [he]; exact hd)⟩

/-- An operation that looks at no world. -/
def pureB (o : Oper) : Bool := match o.op with | .pick .. => true | _ => false
theorem pure_yields {o : Oper} (h : pureB o = true) {v : Value} {a : Act} {w0 : World} (hw0 : C w0) (hy : YieldsIn P ops C o v a) : Yields P ops o v a := by
  unfold pureB at h
  split at h
  · rename_i c x y hop
    refine hy.imp (fun ⟨hw, hv⟩ => ⟨hw, fun w => ?_⟩) id
    have h1 := hv w0 hw0
    unfold Oper.quietAt execOp at h1
    unfold execOp
    simp only [hop] at h1 ⊢
    cases hc : a.eval c <;> simp only [hc, asBool, Sem.run_bind, Sem.run_pure, Result.andThen_ok, Oper.quietUpon] at h1 ⊢
    case bool b => rw [h1.2]
    all_goals (simp [stuck] at h1)
  · cases h

/-- The quiet ones may be taken in this order; then 'tl' is all that is left, one at a time. -/
def okP (md : Region.Mode) (ops : Array Oper) (ord req tl : List Nat) : List Nat → Array Bool → Bool
  | [], listed => RegT.lin md ops tl listed
  | k :: r, listed => (Region.ready md ops listed).contains k && Region.free md ops listed k &&
      (if req.contains k then ord.all fun f => req.contains f || listed.getD f true || ((ancs md ops ops.size).getD f 0).testBit k else ((ops[k]?).map pureB).getD false) &&
      okP md ops ord req tl r (listed.setIfInBounds k true)

theorem wpM_lex (hs : Region.noSelect ops = true) (hT : tailB md ops ord req = true) {Q' : Exit → Act → World → Prop} (hQ : ∀ c a a' w, Q' (.panic c) a w → Q' (.panic c) a' w) {tl : List Nat} {os : List Oper} (ho : tl.map (ops[·]?) = os.map some) {w0 : World} (hw0 : C w0) :
    ∀ (ks : List Nat) (l : List Oper) (listed : Array Bool) (a : Act), closed md ops listed → ks.map (ops[·]?) = l.map some → (∀ j ∈ req, j ∈ ks ∨ listed.getD j true = true) →
    okP md ops ord req tl ks listed = true → wpQuiet P ops C (fun a' => ∀ w', C w' → wpList P ops Q' os a' w') l a →
    wpM P md ops C (fun fuel listed a => ∀ w, C w → wpAny P md ops Q' fuel listed a w) req (ks.length + tl.length) listed a
  | [], [], listed, a, hc, hl, hd, hB, h => by
    have hdn : done req listed = true := List.all_eq_true.2 fun j hj => (hd j hj).resolve_left (by simp)
    have hK : ∀ w, C w → wpAny P md ops Q' (0 + tl.length) listed a w := fun w hw =>
      RegT.wpAny_of_T (T := fun _ => false) (S := fun _ => True) _ _ _ _ (RegT.of_lin tl _ listed a w (by simpa [okP] using hB) (by omega) (RegT.seqT_tail tl os ho (by simp) a w (h w hw)))
    simp only [List.length_nil]
    cases ht : 0 + tl.length with
    | zero => rw [ht] at hK; exact ⟨hdn, hK⟩
    | succ f => rw [ht] at hK; exact ⟨fun _ => hK, fun h => (by rw [hdn] at h; cases h)⟩
  | [], _ :: _, _, _, _, hl, _, _, _ => by simp at hl
  | _ :: _, [], _, _, _, hl, _, _, _ => by simp at hl
  | k :: ks, o :: l, listed, a, hc, hl, hd, hB, h => by
    simp only [List.map_cons, List.cons.injEq] at hl
    obtain ⟨h0, hl⟩ := hl
    simp only [okP, Bool.and_eq_true] at hB
    obtain ⟨⟨⟨hr, hf⟩, hcs⟩, hB'⟩ := hB
    have hst : qOp P ops C k (wpQuiet P ops C (fun a' => ∀ w', C w' → wpList P ops Q' os a' w') l) a := by unfold qOp; simp only [h0]; exact h
    obtain ⟨v, hy, hK⟩ := yieldsIn_of_qOp h0 hst
    have hrr : k ∈ Region.ready md ops listed := by simpa using hr
    rw [show (k :: ks).length + tl.length = ks.length + tl.length + 1 by simp only [List.length_cons]; omega]
    refine wpM_first hT h0 (Region.noSelect_spec hs) _ listed a hc (Region.free_spec h0 hf) hrr hy ?_ ?_
    · by_cases hkr : k ∈ req
      · refine .inl ⟨hkr, fun f hf hfr hfu => ?_⟩
        rw [if_pos (by simpa using hkr)] at hcs
        have := List.all_eq_true.1 hcs f hf
        simpa [hfr, hfu] using this
      · refine .inr ⟨hkr, fun fuel listed a hfree hr hy hk w hw => ?_⟩
        rw [if_neg (by simpa using hkr)] at hcs
        simp only [h0, Option.map_some, Option.getD_some] at hcs
        exact wpAny_first h0 (Region.noSelect_spec hs) (fun c a w h => hQ c _ a w h) fuel listed a w hfree hr (pure_yields hcs hw0 hy) (hk w hw)
    · refine wpM_lex hs hT hQ ho hw0 ks l _ _ (closed_set hc hrr) hl (fun j hj => ?_) hB' hK
      by_cases hjk : k = j
      · subst hjk; exact .inr getD_set_self
      · rw [getD_set_ne true hjk]
        rcases hd j hj with h | h
        · exact .inl ((List.mem_cons.1 h).resolve_left (fun e => hjk e.symm))
        · exact .inr h

/-- THE REGION: those of 'ord', in this order, are quiet in the class (what was there is as it was, new blocks may stand behind it); 'req': those of them that all else waits for (the others are pure); then 'tl', in the order of the text. -/
theorem region {id : Nat} {Q : Exit → Act → World → Prop} {a : Act} {w : World} (ord req tl : List Nat) (pre os : List Oper) (hp : ord.map (ops[·]?) = pre.map some) (ho : tl.map (ops[·]?) = os.map some) (hm : P.follows .mixedOrders = true) (hs : Region.noSelect ops = true)
    (hT : tailB .any ops ord req = true) (hn : (ord.length + tl.length == ops.size) = true) (hB : okP .any ops ord req tl ord (Array.replicate ops.size false) = true) (hro : (req.all fun j => ord.contains j) = true)
    (h : wpQuiet P ops (fun w' => ∃ p : Regrown, w' = Sort.grow (redrawn w p.d) p.os) (fun a' => ∀ w', (∃ p : Regrown, w' = Sort.grow (redrawn w p.d) p.os) → wpList P ops (RegT.NP Q) os a' w') pre a) : (Code.region id ops true).wp P Q a w := by
  refine Code.wp_mono (fun e a w q => by cases e <;> first | exact q | exact q.elim) (wp_region_any (Q := RegT.NP Q) hm ?_)
  have hn := eq_of_beq hn
  have hcl : closed .any ops (Array.replicate ops.size false) := fun j oj hj hl => by
    have hlt := (Array.getElem?_eq_some_iff.1 hj).1
    simp [hlt] at hl
  have hC : ∃ p : Regrown, w.drew = Sort.grow (redrawn w p.d) p.os := regrown_of_below ((Below.refl _ _).drew)
  have hM := wpM_lex (Q' := RegT.NP Q) hs hT (fun _ _ _ _ h => h.elim) ho hC ord pre (Array.replicate ops.size false) a hcl hp (fun j hj => .inl (by have := List.all_eq_true.1 hro j hj; simpa using this)) hB h
  rw [hn] at hM
  exact wpAny_of_M (fun fuel listed a w hw hk => hk w hw) _ _ _ _ hC hM
end Go.RegQ
