/- The row of a law out of its walk: for a law that returns true and leaves all that was there as it was. General: over any program. What was handed in as an expression reads as one. What was handed in as a code reads as a list of statements. A code among the arguments, opened. -/
import Derived.ProofKit
import Derived.Carry
import Derived.SizedLaws
import Derived.ChangeArms
import Derived.OpenShut
import Derived.Test.YthafojadcodkoaaUk
namespace Go.LawRow
open Go Go.RowKit Go.ChangeShapes Go.WideShapes

/-- The arguments read behind the call as they read before. -/
theorem trodAll_below {H : Type} {enc : TypeId × Value → H} {P : Program} (hl : laidOutB P = true) {W W' : World} (hb : Below W.heap.size W W') :
    ∀ {ts : List TypeId} {vs : List Value} {ds : List (DataW H)} {ps : List MemPlace}, (ts.all fun t => P.readableRec t && decide (t < P.types.size)) = true →
      DataW.TrodAll enc P W 0 (fun _ => true) true ts vs ds ps → (∀ x ∈ ps, x.block < W.heap.size) → DataW.TrodAll enc P W' 0 (fun b => decide (b < W.heap.size)) true ts vs ds ps
  | [], [], [], _, _, h, _ => h
  | t :: ts, v :: vs, d :: ds, ps, ht, ⟨p, q, h1, h2, e⟩, hlt => by
    simp only [List.all_cons, Bool.and_eq_true, decide_eq_true_eq] at ht
    subst e
    exact ⟨p, q, Below.trod hl ht.1.1 ht.1.2 h1 hb (fun x hx => hlt x (List.mem_append_left _ hx)), trodAll_below hl hb (by simpa using ht.2) h2 (fun x hx => hlt x (List.mem_append_right _ hx)), rfl⟩
  | [], [], _ :: _, _, _, h, _ => h.elim
  | [], _ :: _, _, _, _, h, _ => h.elim
  | _ :: _, [], _, _, _, h, _ => h.elim
  | _ :: _, _ :: _, [], _, _, h, _ => h.elim

/-- A law's post: true; the arguments read as they did. -/
theorem law_post {H : Type} {enc : TypeId × Value → H} {P : Program} {fn : Func} {s : ChangeSpec} {tb : TypeId} (hl : laidOutB P = true)
    (hps : (fn.params.toList.all fun t => P.readableRec t && decide (t < P.types.size)) = true) (hv : s.vars = []) (hres : fn.resultTypes = #[tb]) (hbool : P.underlying tb = some .bool)
    (hspec : ∀ (ds : List (DataW H)), ds.length = fn.params.size → s.fn H ds = { results := [.lit (.bool true)], args := ds, vars := [] })
    {W W' : World} {args : Array Value} {ds gs : List (DataW H)} {before : List MemPlace} (hW : DataW.Whole enc P fn.params.toList s.vars false W args.toList ds gs before)
    (hb : Below W.heap.size W W') : s.post enc P fn false true false false W args (.bool true) W' := by
  have hlt : ∀ p ∈ before, p.block < W.heap.size := fun p hp => hW.lt p hp
  have hW' := hW
  obtain ⟨p, q, hA, hV, rfl, hfz, hnd⟩ := hW
  rw [hv] at hV
  have hlen : ds.length = fn.params.size := by
    have : ∀ (ts : List TypeId) (vs : List Value) (ds : List (DataW H)) (ps : List MemPlace), DataW.TrodAll enc P W 0 (fun _ => true) true ts vs ds ps → ds.length = ts.length := by
      intro ts
      induction ts with
      | nil => intro vs ds ps h; cases vs <;> cases ds <;> first | rfl | exact h.elim
      | cons t ts ih =>
        intro vs ds ps h
        cases vs with
        | nil => exact h.elim
        | cons v vs =>
          cases ds with
          | nil => exact h.elim
          | cons d ds => obtain ⟨_, _, _, h2, _⟩ := h; rw [List.length_cons, List.length_cons, ih _ _ _ h2]
    rw [this _ _ _ _ hA]; simp
  obtain ⟨rfl, rfl⟩ : gs = [] ∧ q = [] := by
    cases gs with
    | nil => exact ⟨rfl, hV⟩
    | cons g gs => exact hV.elim
  have hs := hspec ds hlen
  refine ⟨ds, [], p ++ [], [], p, [], hW', ?_, ?_, ?_, World.keptBut_mono (fun x hx => ⟨hx, ?_⟩) (hb.frame (· ∈ p ++ [])), fun h => by cases h⟩
  · rw [List.append_nil, hs, hres]
    exact trodAll_mk1 (shut_bool hbool true)
  · rw [List.append_nil, hs]
    exact trodAll_below hl hb hps hA (fun x hx => hlt x (by simpa using hx))
  · rw [List.append_nil, hs, hv]
    rfl
  · exact .inr (.inl (by simpa using hx))

theorem law_lifted {H : Type} {enc : TypeId × Value → H} {C : Checked} {os : Os} {f : FuncId} {fn : Func} {s : ChangeSpec} {conds : List PathCond} {tb : TypeId}
    (own : ownKnob C.prog.godebug = none) (started : os.Started) (noInit : C.prog.inits.idxOf? f = none) (hfn : C.prog.funcs[f]? = some fn) (hl : laidOutB C.prog = true)
    (hps : (fn.params.toList.all fun t => C.prog.readableRec t && decide (t < C.prog.types.size)) = true) (hv : s.vars = []) (hres : fn.resultTypes = #[tb]) (hbool : C.prog.underlying tb = some .bool)
    (hspec : ∀ (ds : List (DataW H)), ds.length = fn.params.size → s.fn H ds = { results := [.lit (.bool true)], args := ds, vars := [] })
    (witness : ∃ (w : World) (tape : Tape) (i : Input), w.os = os ∧ (w.forCall tape i).Shaped C.prog ∧ i.vars = [] ∧ Input.okWide C.prog (w.forCall tape i) .any w.heap.size f i ∧
      s.pre6 enc C.prog fn conds false (w.forCall tape i).memory i.args ∧ Assume.holds {} C.prog (lone (Frame.enter C.prog f i.args .normal) [] (w.forCall tape i)))
    (walk : ∀ (W : World) (base : Nat) (args : Array Value) (ds : List (DataW H)) (p : List MemPlace),
      (∀ (j : Nat) t v, fn.params[j]? = some t → args[j]? = some v → Value.okWide C.prog W .any base t v) →
      DataW.TrodAll enc C.prog W 0 (fun _ => true) true fn.params.toList args.toList ds p → (∀ x ∈ p, x.block < W.heap.size) →
      (DataW.weightsEach C.prog fn.params.toList ds).all (· ≤ reachBytes) = true →
      Calls C.prog f args W fun e W' => e = .returned (.bool true) ∧ Below W.heap.size W W') :
    ReturnsInHanded {} C os f .any (s.pre6 enc C.prog fn conds false) (s.post enc C.prog fn false true false false) := by
  refine returnsInHanded_of_change_sized own started noInit hfn witness ?_
  intro W base args ds gs before hval hW hcnd hsz _
  have hW' := hW
  have hlt : ∀ p ∈ before, p.block < W.heap.size := fun p hp => hW.lt p hp
  obtain ⟨p, q, hA, hV, rfl, hfz, hnd⟩ := hW
  have hvt : s.plain.varTypes C.prog = [] := by
    show DataSpec.varTypes C.prog s.plain = []
    unfold DataSpec.varTypes
    have : s.plain.vars = [] := hv
    rw [this]; rfl
  rw [hv] at hV
  obtain ⟨rfl, rfl⟩ : gs = [] ∧ q = [] := by
    cases gs with
    | nil => exact ⟨rfl, hV⟩
    | cons g gs => exact hV.elim
  rw [hvt, List.append_nil, List.append_nil] at hsz
  refine (walk W base args ds p hval hA (fun x hx => hlt x (by simpa using hx)) hsz).mono fun e W' ⟨he, hb⟩ => ?_
  exact ⟨_, he, law_post hl hps hv hres hbool hspec hW' hb⟩

/-- The reach's bound, for one argument alone. -/
theorem weights_at {H : Type} {P : Program} {ts : List TypeId} {ds : List (DataW H)} (h : (DataW.weightsEach P ts ds).all (· ≤ reachBytes) = true) {j : Nat} {t : TypeId} {d : DataW H} (ht : ts[j]? = some t) (hd : ds[j]? = some d) :
    (DataW.weightsEach P [t] [d]).all (· ≤ reachBytes) = true := by
  rw [List.all_eq_true] at h ⊢
  intro x hx
  refine h x (DataW.weights_mem_each ht hd x ?_)
  simpa [DataW.weightsEach] using hx
end Go.LawRow
namespace Go.Proofs.Ythafojadcodkoaa
open Go.RowKit

theorem addP (b o n : Nat) : (⟨b, o, Option.none⟩ : Addr).add n = ⟨b, o + n, Option.none⟩ := by
  unfold Addr.add
  split <;> simp_all
theorem list_of {α : Type} {p : Nat → α → Prop} : ∀ n : Nat, (∀ i, i < n → ∃ x, p i x) → ∃ l : List α, l.length = n ∧ ∀ (i : Nat) (hi : i < l.length), p i l[i]
  | 0, _ => ⟨[], rfl, fun i hi => absurd hi (by simp)⟩
  | n + 1, h => by
    obtain ⟨l, hl, hp⟩ := list_of n fun i hi => h i (by omega)
    obtain ⟨x, hx⟩ := h n (by omega)
    refine ⟨l ++ [x], by simp [hl], fun i hi => ?_⟩
    by_cases hlt : i < l.length
    · rw [List.getElem_append_left hlt]; exact hp i hlt
    · have : i = n := by simp at hi; omega
      subst this
      rw [List.getElem_append_right (by omega)]
      simpa [hl] using hx
theorem exs_of {w : World} {R : Nat → Nat → Prop} {b : Nat} : ∀ (l : List Ex) (o : Nat), (∀ (i : Nat) (hi : i < l.length), ∃ c0 c1 c2 c3, At w b (o + i * 4) [c0, c1, c2, c3] ∧ IsExR w R (.agg #[c0, c1, c2, c3]) l[i]) → IsExsR w R b o l
  | [], _, _ => by unfold IsExsR; trivial
  | x :: l, o, h => by
    unfold IsExsR
    refine ⟨by have := h 0 (by simp); simpa only [Nat.zero_mul, Nat.add_zero, List.getElem_cons_zero] using this, exs_of l (o + 4) fun i hi => ?_⟩
    obtain ⟨c0, c1, c2, c3, h1, h2⟩ := h (i + 1) (by simpa using hi)
    exact ⟨c0, c1, c2, c3, by rw [show o + 4 + i * 4 = o + (i + 1) * 4 by omega]; exact h1, by simpa using h2⟩
theorem four_of {α : Type} {l : List α} (h : l.length = 4) : ∃ a b c d, l = [a, b, c, d] := by
  match l, h with
  | [a, b, c, d], _ => exact ⟨a, b, c, d, rfl⟩
theorem cells26 : Try.prog.cellsOf 109 = 4 := by kernel_rfl
theorem cells23 : Try.prog.cellsOf 106 = 1 := by kernel_rfl
theorem cells2 : Try.prog.cellsOf 2 = 1 := by kernel_rfl
theorem cells9 : Try.prog.cellsOf 9 = 1 := by kernel_rfl
theorem cells24 : Try.prog.cellsOf 107 = 1 := by kernel_rfl
theorem bytes26 : Try.prog.bytesOf 109 = 56 := by kernel_rfl
theorem wAll_mem {H : Type} {e : TypeId} : ∀ {l : List (DataW H)} {d : DataW H}, d ∈ l → ∀ n ∈ d.weights Try.prog e, n ∈ DataW.weightsAll Try.prog e l
  | x :: l, d, hd, n, hn => by
    unfold DataW.weightsAll
    rcases List.mem_cons.1 hd with rfl | h
    · exact List.mem_append_left _ hn
    · exact List.mem_append_right _ (wAll_mem h n hn)
theorem u8_wf {n : Int} (h : (Lit.int .u8 n).wf = true) : 0 ≤ n ∧ n < 256 := by
  have hb := bounds_u8 h
  omega
theorem open_ex {H : Type} {enc : TypeId × Value → H} {w : World} {base B : Nat} {sp : Nat → Bool} : ∀ (fuel : Nat) (cs : List Value) (x : DataW H × List MemPlace), DataW.trod enc Try.prog w base sp true fuel 109 cs = some x →
    (∀ p ∈ x.2, p.block < B) → (∀ n ∈ x.1.weights Try.prog 109, n ≤ 140737488351232) → ∃ (c0 c1 c2 c3 : Value) (e : Ex), cs = [c0, c1, c2, c3] ∧ IsExR w (fun b _ => b < B) (.agg #[c0, c1, c2, c3]) e := by
  intro fuel
  induction fuel using Nat.strongRecOn with
  | _ fuel ih =>
    intro cs x h hB hW
    obtain ⟨xs, n, rfl, rfl, hlen, hxl, hf⟩ := DataW.trod_struct Try.underlying109 h
    rw [cells26] at hlen
    obtain ⟨c0, c1, c2, c3, rfl⟩ := four_of hlen
    obtain ⟨x0, x1, x2, x3, rfl⟩ := four_of hxl
    have f0 : DataW.trod enc Try.prog w base sp true n 106 (List.take (Try.prog.cellsOf 106) (List.drop 0 [c0, c1, c2, c3])) = some x0 := hf 0 _ rfl
    rw [cells23] at f0
    have f1 : DataW.trod enc Try.prog w base sp true n 2 (List.take (Try.prog.cellsOf 2) (List.drop 1 [c0, c1, c2, c3])) = some x1 := hf 1 _ rfl
    rw [cells2] at f1
    have f2 : DataW.trod enc Try.prog w base sp true n 9 (List.take (Try.prog.cellsOf 9) (List.drop 2 [c0, c1, c2, c3])) = some x2 := hf 2 _ rfl
    rw [cells9] at f2
    have f3 : DataW.trod enc Try.prog w base sp true n 107 (List.take (Try.prog.cellsOf 107) (List.drop 3 [c0, c1, c2, c3])) = some x3 := hf 3 _ rfl
    rw [cells24] at f3
    obtain ⟨k, e0, _, hk⟩ := DataW.trod_int Try.underlying106 f0
    obtain ⟨m, e1, _, _⟩ := DataW.trod_int Try.underlying2 f1
    obtain ⟨s, e2, hx2, _⟩ := DataW.trod_string Try.underlying9 f2
    simp only [List.drop_zero, List.take_succ_cons, List.take_zero, List.drop_succ_cons, List.cons.injEq, and_true] at e0 e1 e2
    subst e0 e1 e2
    have hs : s.size ≤ 140737488351232 := by
      have : s.data.toList.length ∈ (DataW.agg ([x0, x1, x2, x3].map (·.1))).weights Try.prog 109 := by
        unfold DataW.weights
        simp [Try.underlying109, hx2, DataW.weightsEach, DataW.weights]
      simpa using hW _ this
    have hk' := u8_wf hk
    rcases DataW.trod_slice Try.underlying107 f3 with ⟨e3, hx3⟩ | ⟨a, len, cap, elems, rest, n', rfl, e3, hx3, hbl, hlc, hcm, hel, hget, _, _⟩
    · simp only [List.drop_zero, List.take_succ_cons, List.take_zero, List.drop_succ_cons, List.cons.injEq, and_true] at e3
      subst e3
      refine ⟨_, _, _, _, .mk k m s [], rfl, ?_⟩
      unfold IsExR
      exact ⟨hk'.1, hk'.2, hs, by simp, Option.none, 0, Nat.le_refl _, rfl, fun h => absurd rfl h⟩
    · simp only [List.drop_zero, List.take_succ_cons, List.take_zero, List.drop_succ_cons, List.cons.injEq, and_true] at e3
      subst e3
      rw [cells26] at hget hx3
      have hw3 : ∀ q ∈ x3.1.weights Try.prog 107, q ≤ 140737488351232 := fun q hq => hW q (by
        unfold DataW.weights
        simp [Try.underlying109, DataW.weightsEach, hq])
      rw [hx3] at hw3
      unfold DataW.weights at hw3
      simp only [Try.underlying107] at hw3
      have hlen56 : len * 56 ≤ 140737488351232 := by
        have := hw3 _ (List.mem_cons_self ..)
        rw [bytes26] at this
        simp only [List.length_map, hel] at this
        have := Nat.le_trans (Nat.mul_le_mul_right 56 (Nat.le_add_right len rest.length)) this
        exact this
      have hpl : ∀ q ∈ x3.2, q.block < B := fun q hq => hB q (by simp [hq])
      rw [hx3] at hpl
      have hone : ∀ i, i < len → ∃ (d0 d1 d2 d3 : Value) (e : Ex), (∀ q, q < 4 → w.cell? ((a.add (i * 4)).add q) = [d0, d1, d2, d3][q]?) ∧ IsExR w (fun b _ => b < B) (.agg #[d0, d1, d2, d3]) e := by
        intro i hi
        have hg := hget i hi
        have hie : i < elems.length := by omega
        rw [List.getElem?_eq_getElem hie] at hg
        obtain ⟨cs', h1, h2⟩ := Option.bind_eq_some_iff.1 hg
        obtain ⟨d0, d1, d2, d3, e, rfl, hE⟩ := ih n' (by omega) cs' _ h2 (fun q hq => hpl q (List.mem_append_right _ (List.mem_flatMap.2 ⟨elems[i], List.mem_append_left _ (List.getElem_mem hie), hq⟩))) (fun q hq => hw3 q (List.mem_cons_of_mem _ (List.mem_append_left _ (wAll_mem (List.mem_map.2 ⟨elems[i], List.getElem_mem hie, rfl⟩) q hq))))
        obtain ⟨_, _, hcell⟩ := World.cells?_some h1
        exact ⟨d0, d1, d2, d3, e, hcell, hE⟩
      by_cases h0 : len = 0
      · subst h0
        refine ⟨_, _, _, _, .mk k m s [], rfl, ?_⟩
        unfold IsExR
        exact ⟨hk'.1, hk'.2, hs, by simp, some a, cap, Nat.zero_le _, rfl, fun h => absurd rfl h⟩
      obtain ⟨d0, d1, d2, d3, e', hc0, _⟩ := hone 0 (by omega)
      have hsp : a.spot = Option.none := by
        have := hc0 0 (by omega)
        simpa [Addr.add] using World.cell?_spot this
      obtain ⟨b, o, spot⟩ := a
      simp only at hsp
      subst hsp
      have hb : b < B := hpl (.cell b (o + 0)) (List.mem_append_left _ (MemPlace.mem_row.2 ⟨0, by omega, rfl⟩))
      obtain ⟨l, hll, hp⟩ := list_of (p := fun i e => ∃ c0 c1 c2 c3, At w b (o + i * 4) [c0, c1, c2, c3] ∧ IsExR w (fun b _ => b < B) (.agg #[c0, c1, c2, c3]) e) len (fun i hi => by
        obtain ⟨d0, d1, d2, d3, e, hc, hE⟩ := hone i hi
        refine ⟨e, d0, d1, d2, d3, fun q v hv => ?_, hE⟩
        have hq : q < 4 := by have := (List.getElem?_eq_some_iff.1 hv).1; simpa using this
        rw [← hv, ← hc q hq, addP, addP])
      refine ⟨_, _, _, _, .mk k m s l, rfl, ?_⟩
      unfold IsExR
      exact ⟨hk'.1, hk'.2, hs, by rw [hll]; exact hlen56, some ⟨b, o, Option.none⟩, cap, by omega, by rw [hll], fun _ => ⟨b, o, hb, rfl, exs_of l o hp⟩⟩
end Go.Proofs.Ythafojadcodkoaa
namespace Go.Proofs.Ythafojadcodkoaa
open Go.RowKit

theorem sts_of {w : World} {R : Nat → Nat → Prop} {b : Nat} : ∀ (l : List St) (o : Nat), (∀ (i : Nat) (hi : i < l.length), ∃ s : SV, At w b (o + i * 17) s.arr.toList ∧ IsStR w R s l[i]) → IsStsR w R b o l
  | [], _, _ => by unfold IsStsR; trivial
  | x :: l, o, h => by
    unfold IsStsR
    refine ⟨by have := h 0 (by simp); simpa only [Nat.zero_mul, Nat.add_zero, List.getElem_cons_zero] using this, sts_of l (o + 17) fun i hi => ?_⟩
    obtain ⟨s, h1, h2⟩ := h (i + 1) (by simpa using hi)
    exact ⟨s, by rw [show o + 17 + i * 17 = o + (i + 1) * 17 by omega]; exact h1, by simpa using h2⟩
theorem cells58 : Try.prog.cellsOf 112 = 17 := by kernel_rfl
theorem cells54 : Try.prog.cellsOf 105 = 1 := by kernel_rfl
theorem cells49 : Try.prog.cellsOf 35 = 1 := by kernel_rfl
theorem cells55 : Try.prog.cellsOf 44 = 1 := by kernel_rfl
theorem cells42 : Try.prog.cellsOf 50 = 1 := by kernel_rfl
theorem cells56 : Try.prog.cellsOf 110 = 1 := by kernel_rfl
theorem bytes58 : Try.prog.bytesOf 112 = 256 := by kernel_rfl
theorem bytes9 : Try.prog.bytesOf 9 = 16 := by kernel_rfl
/-- A slice whose elements open: element by element. -/
theorem open_elems {H : Type} {enc : TypeId × Value → H} {w : World} {base B : Nat} {sp : Nat → Bool} {t e : TypeId} {sz by_ fuel : Nat} {α : Type} {p : Nat → Nat → α → Prop} (ht : Try.prog.underlying t = some (.slice e)) (hc : Try.prog.cellsOf e = sz) (hpos : 0 < sz) (hby : Try.prog.bytesOf e = by_)
    (ih : ∀ (n : Nat) (cs : List Value) (x : DataW H × List MemPlace), n < fuel → DataW.trod enc Try.prog w base sp true n e cs = some x → (∀ q ∈ x.2, q.block < B) → (∀ q ∈ x.1.weights Try.prog e, q ≤ 140737488351232) →
      ∃ y : α, ∀ b o, (∀ q v, cs[q]? = some v → w.cell? ⟨b, o + q, Option.none⟩ = some v) → p b o y)
    (c : Value) (x : DataW H × List MemPlace) (h : DataW.trod enc Try.prog w base sp true fuel t [c] = some x) (hB : ∀ q ∈ x.2, q.block < B) (hW : ∀ q ∈ x.1.weights Try.prog t, q ≤ 140737488351232) :
    ∃ (A : Option Addr) (len cap : Nat) (l : List α), c = .slice A len cap ∧ (A = Option.none → cap = 0) ∧ LR (fun b _ => b < B) by_ A len cap l (fun b o => ∀ (i : Nat) (hi : i < l.length), p b (o + i * sz) l[i]) := by
  rcases DataW.trod_slice ht h with ⟨e3, hx3⟩ | ⟨a, len, cap, elems, rest, n', rfl, e3, hx3, hbl, hlc, hcm, hel, hget, _, _⟩
  · simp only [List.cons.injEq, and_true] at e3
    subst e3
    exact ⟨Option.none, 0, 0, [], rfl, fun _ => rfl, rfl, Nat.le_refl _, by simp, fun h => absurd rfl h⟩
  · simp only [List.cons.injEq, and_true] at e3
    subst e3
    rw [hc] at hget hx3
    rw [hx3] at hW hB
    unfold DataW.weights at hW
    simp only [ht] at hW
    have hlen : len * by_ ≤ 140737488351232 := by
      have := hW _ (List.mem_cons_self ..)
      rw [hby] at this
      simp only [List.length_map, hel] at this
      exact Nat.le_trans (Nat.mul_le_mul_right by_ (Nat.le_add_right len rest.length)) this
    have hone : ∀ i, i < len → ∃ (cs' : List Value) (y : α), (∀ q, q < sz → w.cell? ((a.add (i * sz)).add q) = cs'[q]?) ∧ cs'.length = sz ∧ ∀ b o, (∀ q v, cs'[q]? = some v → w.cell? ⟨b, o + q, Option.none⟩ = some v) → p b o y := by
      intro i hi
      have hg := hget i hi
      have hie : i < elems.length := by omega
      rw [List.getElem?_eq_getElem hie] at hg
      obtain ⟨cs', h1, h2⟩ := Option.bind_eq_some_iff.1 hg
      obtain ⟨y, hy⟩ := ih n' cs' _ (by omega) h2 (fun q hq => hB q (List.mem_append_right _ (List.mem_flatMap.2 ⟨elems[i], List.mem_append_left _ (List.getElem_mem hie), hq⟩))) (fun q hq => hW q (List.mem_cons_of_mem _ (List.mem_append_left _ (wAll_mem (List.mem_map.2 ⟨elems[i], List.getElem_mem hie, rfl⟩) q hq))))
      obtain ⟨_, hl, hcell⟩ := World.cells?_some h1
      exact ⟨cs', y, hcell, hl, hy⟩
    by_cases h0 : len = 0
    · subst h0
      exact ⟨some a, 0, cap, [], rfl, (fun h => nomatch h), rfl, Nat.zero_le _, by simp, fun h => absurd rfl h⟩
    obtain ⟨cs0, y0, hc0, hl0, _⟩ := hone 0 (by omega)
    have hsp : a.spot = Option.none := by
      have := hc0 0 hpos
      rw [List.getElem?_eq_getElem (by omega)] at this
      simpa [Addr.add] using World.cell?_spot this
    obtain ⟨b, o, spot⟩ := a
    simp only at hsp
    subst hsp
    have hb : b < B := hB (.cell b (o + 0)) (List.mem_append_left _ (MemPlace.mem_row.2 ⟨0, by have : 0 < (elems.length + rest.length) * sz := Nat.mul_pos (by omega) hpos; exact this, rfl⟩))
    obtain ⟨l, hll, hp⟩ := list_of (p := fun i y => p b (o + i * sz) y) len (fun i hi => by
      obtain ⟨cs', y, hcell, hl, hy⟩ := hone i hi
      refine ⟨y, hy b (o + i * sz) fun q v hv => ?_⟩
      have hq : q < sz := by have := (List.getElem?_eq_some_iff.1 hv).1; omega
      rw [← hv, ← hcell q hq, addP, addP])
    exact ⟨some ⟨b, o, Option.none⟩, len, cap, l, rfl, (fun h => nomatch h), hll.symm, by omega, by rw [hll]; exact hlen, fun _ => ⟨b, o, hb, rfl, hp⟩⟩
/-- Names. -/
theorem open_ss {H : Type} {enc : TypeId × Value → H} {w : World} {base B : Nat} {sp : Nat → Bool} (fuel : Nat) (c : Value) (x : DataW H × List MemPlace) (h : DataW.trod enc Try.prog w base sp true fuel 110 [c] = some x) (hB : ∀ q ∈ x.2, q.block < B) (hW : ∀ q ∈ x.1.weights Try.prog 110, q ≤ 140737488351232) :
    ∃ (A : Option Addr) (len cap : Nat) (l : List ByteArray), c = .slice A len cap ∧ IsSsR w (fun b _ => b < B) c l := by
  obtain ⟨A, len, cap, l, rfl, _, h1, h2, h3, h4⟩ := open_elems (p := fun b o (s : ByteArray) => w.cell? ⟨b, o, Option.none⟩ = some (.string s) ∧ s.size ≤ 140737488351232) Try.underlying110 cells9 (by omega) bytes9 (fun n cs x hn hx hxB hxW => by
    obtain ⟨s, rfl, rfl, _⟩ := DataW.trod_string Try.underlying9 hx
    refine ⟨s, fun b o hcell => ⟨by simpa using hcell 0 _ rfl, ?_⟩⟩
    have := hxW s.data.toList.length (by simp [DataW.weights])
    simpa using this) c x h hB hW
  refine ⟨A, len, cap, l, rfl, h3, fun s hs => ?_, A, cap, h2, by rw [h1], fun hl => ?_⟩
  · obtain ⟨i, hi, rfl⟩ := List.getElem_of_mem hs
    obtain ⟨b, o, _, _, hp⟩ := h4 (by rintro rfl; simp at hi)
    exact (hp i hi).2
  · obtain ⟨b, o, hb, hA, hp⟩ := h4 hl
    exact ⟨b, o, hb, hA, fun i hi => by have := (hp i hi).1; rwa [Nat.mul_one] at this⟩
theorem seventeen_of {α : Type} {l : List α} (h : l.length = 17) : ∃ c0 c1 c2 c3 c4 c5 c6 c7 c8 c9 c10 c11 c12 c13 c14 c15 c16, l = [c0, c1, c2, c3, c4, c5, c6, c7, c8, c9, c10, c11, c12, c13, c14, c15, c16] := by
  match l, h with
  | [c0, c1, c2, c3, c4, c5, c6, c7, c8, c9, c10, c11, c12, c13, c14, c15, c16], _ => exact ⟨c0, c1, c2, c3, c4, c5, c6, c7, c8, c9, c10, c11, c12, c13, c14, c15, c16, rfl⟩
theorem eleven_of {α : Type} {l : List α} (h : l.length = 11) : ∃ x0 x1 x2 x3 x4 x5 x6 x7 x8 x9 x10, l = [x0, x1, x2, x3, x4, x5, x6, x7, x8, x9, x10] := by
  match l, h with
  | [x0, x1, x2, x3, x4, x5, x6, x7, x8, x9, x10], _ => exact ⟨x0, x1, x2, x3, x4, x5, x6, x7, x8, x9, x10, rfl⟩
set_option maxHeartbeats 1000000 in
theorem open_st {H : Type} {enc : TypeId × Value → H} {w : World} {base B : Nat} {sp : Nat → Bool} : ∀ (fuel : Nat) (cs : List Value) (x : DataW H × List MemPlace), DataW.trod enc Try.prog w base sp true fuel 112 cs = some x →
    (∀ p ∈ x.2, p.block < B) → (∀ n ∈ x.1.weights Try.prog 112, n ≤ 140737488351232) → ∃ (s : SV) (y : St), cs = s.arr.toList ∧ IsStR w (fun b _ => b < B) s y := by
  intro fuel
  induction fuel using Nat.strongRecOn with
  | _ fuel ih =>
    intro cs x h hB hW
    obtain ⟨xs, n, rfl, rfl, hlen, hxl, hf⟩ := DataW.trod_struct Try.underlying112 h
    rw [cells58] at hlen
    obtain ⟨c0, c1, c2, c3, c4, c5, c6, c7, c8, c9, c10, c11, c12, c13, c14, c15, c16, rfl⟩ := seventeen_of hlen
    obtain ⟨x0, x1, x2, x3, x4, x5, x6, x7, x8, x9, x10, rfl⟩ := eleven_of hxl
    have f0 : DataW.trod enc Try.prog w base sp true n 105 (List.take (Try.prog.cellsOf 105) (List.drop 0 [c0, c1, c2, c3, c4, c5, c6, c7, c8, c9, c10, c11, c12, c13, c14, c15, c16])) = some x0 := hf 0 _ rfl
    rw [cells54] at f0
    simp only [List.drop_zero, List.take_succ_cons, List.take_zero] at f0
    have f1 : DataW.trod enc Try.prog w base sp true n 9 (List.take (Try.prog.cellsOf 9) (List.drop 1 [c0, c1, c2, c3, c4, c5, c6, c7, c8, c9, c10, c11, c12, c13, c14, c15, c16])) = some x1 := hf 1 _ rfl
    rw [cells9] at f1
    simp only [List.drop_zero, List.take_succ_cons, List.take_zero, List.drop_succ_cons] at f1
    have f2 : DataW.trod enc Try.prog w base sp true n 9 (List.take (Try.prog.cellsOf 9) (List.drop 2 [c0, c1, c2, c3, c4, c5, c6, c7, c8, c9, c10, c11, c12, c13, c14, c15, c16])) = some x2 := hf 2 _ rfl
    rw [cells9] at f2
    simp only [List.drop_zero, List.take_succ_cons, List.take_zero, List.drop_succ_cons] at f2
    have f3 : DataW.trod enc Try.prog w base sp true n 35 (List.take (Try.prog.cellsOf 35) (List.drop 3 [c0, c1, c2, c3, c4, c5, c6, c7, c8, c9, c10, c11, c12, c13, c14, c15, c16])) = some x3 := hf 3 _ rfl
    rw [cells49] at f3
    simp only [List.drop_zero, List.take_succ_cons, List.take_zero, List.drop_succ_cons] at f3
    have f4 : DataW.trod enc Try.prog w base sp true n 44 (List.take (Try.prog.cellsOf 44) (List.drop 4 [c0, c1, c2, c3, c4, c5, c6, c7, c8, c9, c10, c11, c12, c13, c14, c15, c16])) = some x4 := hf 4 _ rfl
    rw [cells55] at f4
    simp only [List.drop_zero, List.take_succ_cons, List.take_zero, List.drop_succ_cons] at f4
    have f5 : DataW.trod enc Try.prog w base sp true n 109 (List.take (Try.prog.cellsOf 109) (List.drop 5 [c0, c1, c2, c3, c4, c5, c6, c7, c8, c9, c10, c11, c12, c13, c14, c15, c16])) = some x5 := hf 5 _ rfl
    rw [cells26] at f5
    simp only [List.drop_zero, List.take_succ_cons, List.take_zero, List.drop_succ_cons] at f5
    have f6 : DataW.trod enc Try.prog w base sp true n 109 (List.take (Try.prog.cellsOf 109) (List.drop 9 [c0, c1, c2, c3, c4, c5, c6, c7, c8, c9, c10, c11, c12, c13, c14, c15, c16])) = some x6 := hf 6 _ rfl
    rw [cells26] at f6
    simp only [List.drop_zero, List.take_succ_cons, List.take_zero, List.drop_succ_cons] at f6
    have f7 : DataW.trod enc Try.prog w base sp true n 50 (List.take (Try.prog.cellsOf 50) (List.drop 13 [c0, c1, c2, c3, c4, c5, c6, c7, c8, c9, c10, c11, c12, c13, c14, c15, c16])) = some x7 := hf 7 _ rfl
    rw [cells42] at f7
    simp only [List.drop_zero, List.take_succ_cons, List.take_zero, List.drop_succ_cons] at f7
    have f8 : DataW.trod enc Try.prog w base sp true n 50 (List.take (Try.prog.cellsOf 50) (List.drop 14 [c0, c1, c2, c3, c4, c5, c6, c7, c8, c9, c10, c11, c12, c13, c14, c15, c16])) = some x8 := hf 8 _ rfl
    rw [cells42] at f8
    simp only [List.drop_zero, List.take_succ_cons, List.take_zero, List.drop_succ_cons] at f8
    have f9 : DataW.trod enc Try.prog w base sp true n 50 (List.take (Try.prog.cellsOf 50) (List.drop 15 [c0, c1, c2, c3, c4, c5, c6, c7, c8, c9, c10, c11, c12, c13, c14, c15, c16])) = some x9 := hf 9 _ rfl
    rw [cells42] at f9
    simp only [List.drop_zero, List.take_succ_cons, List.take_zero, List.drop_succ_cons] at f9
    have f10 : DataW.trod enc Try.prog w base sp true n 110 (List.take (Try.prog.cellsOf 110) (List.drop 16 [c0, c1, c2, c3, c4, c5, c6, c7, c8, c9, c10, c11, c12, c13, c14, c15, c16])) = some x10 := hf 10 _ rfl
    rw [cells56] at f10
    simp only [List.drop_zero, List.take_succ_cons, List.take_zero, List.drop_succ_cons] at f10
    clear hf h hlen hxl
    have hbl : ∀ i (hi : i < [x0, x1, x2, x3, x4, x5, x6, x7, x8, x9, x10].length), ∀ q ∈ ([x0, x1, x2, x3, x4, x5, x6, x7, x8, x9, x10][i]).2, q.block < B := fun i hi q hq => hB q (List.mem_flatMap.2 ⟨_, List.getElem_mem hi, hq⟩)
    have hw : ∀ (i : Nat) (t : TypeId) (d : DataW H), [105, 9, 9, 35, 44, 109, 109, 50, 50, 50, 110][i]? = some t → ([x0, x1, x2, x3, x4, x5, x6, x7, x8, x9, x10].map (·.1))[i]? = some d → ∀ q ∈ d.weights Try.prog t, q ≤ 140737488351232 := fun i t d ht hd q hq => hW q (by
      unfold DataW.weights
      simp only [Try.underlying112]
      exact DataW.weights_mem_each ht hd q hq)
    obtain ⟨k0, e0, _, hk0⟩ := DataW.trod_int Try.underlying105 f0
    have u0 := u8_wf hk0
    obtain ⟨s1, e1, hx1, _⟩ := DataW.trod_string Try.underlying9 f1
    have v1 : s1.size ≤ 140737488351232 := by
      have := hw 1 9 x1.1 rfl rfl s1.data.toList.length (by rw [hx1]; simp [DataW.weights])
      simpa using this
    obtain ⟨s2, e2, hx2, _⟩ := DataW.trod_string Try.underlying9 f2
    have v2 : s2.size ≤ 140737488351232 := by
      have := hw 2 9 x2.1 rfl rfl s2.data.toList.length (by rw [hx2]; simp [DataW.weights])
      simpa using this
    obtain ⟨k3, e3, _, hk3⟩ := DataW.trod_int Try.underlying35 f3
    have u3 := u8_wf hk3
    obtain ⟨k4, e4, _, hk4⟩ := DataW.trod_int Try.underlying44 f4
    have u4 := u8_wf hk4
    obtain ⟨p5, q5, r5, t5, E5, e5, hE5⟩ := open_ex n _ _ f5 (hbl 5 (by simp)) (hw 5 109 x5.1 rfl rfl)
    obtain ⟨p6, q6, r6, t6, E6, e6, hE6⟩ := open_ex n _ _ f6 (hbl 6 (by simp)) (hw 6 109 x6.1 rfl rfl)
    obtain ⟨A7, l7, g7, L7, e7, _, hL7⟩ := open_elems (p := fun b o (y : St) => ∃ s : SV, At w b o s.arr.toList ∧ IsStR w (fun b _ => b < B) s y) Try.underlying50 cells58 (by omega) bytes58 (fun m cs x hm hx hxB hxW => by
      obtain ⟨s, y, rfl, hy⟩ := ih m (by omega) cs x hx hxB hxW
      exact ⟨y, fun b o hc => ⟨s, hc, hy⟩⟩) c13 x7 f7 (hbl 7 (by simp)) (hw 7 50 x7.1 rfl rfl)
    obtain ⟨A8, l8, g8, L8, e8, _, hL8⟩ := open_elems (p := fun b o (y : St) => ∃ s : SV, At w b o s.arr.toList ∧ IsStR w (fun b _ => b < B) s y) Try.underlying50 cells58 (by omega) bytes58 (fun m cs x hm hx hxB hxW => by
      obtain ⟨s, y, rfl, hy⟩ := ih m (by omega) cs x hx hxB hxW
      exact ⟨y, fun b o hc => ⟨s, hc, hy⟩⟩) c14 x8 f8 (hbl 8 (by simp)) (hw 8 50 x8.1 rfl rfl)
    obtain ⟨A9, l9, g9, L9, e9, _, hL9⟩ := open_elems (p := fun b o (y : St) => ∃ s : SV, At w b o s.arr.toList ∧ IsStR w (fun b _ => b < B) s y) Try.underlying50 cells58 (by omega) bytes58 (fun m cs x hm hx hxB hxW => by
      obtain ⟨s, y, rfl, hy⟩ := ih m (by omega) cs x hx hxB hxW
      exact ⟨y, fun b o hc => ⟨s, hc, hy⟩⟩) c15 x9 f9 (hbl 9 (by simp)) (hw 9 50 x9.1 rfl rfl)
    obtain ⟨A10, l10, g10, L10, e10, hS10⟩ := open_ss n c16 x10 f10 (hbl 10 (by simp)) (hw 10 110 x10.1 rfl rfl)
    simp only [List.cons.injEq, and_true] at e0 e1 e2 e3 e4 e5 e6
    obtain ⟨rfl, rfl, rfl, rfl⟩ := e5
    obtain ⟨rfl, rfl, rfl, rfl⟩ := e6
    subst e0 e1 e2 e3 e4 e7 e8 e9 e10
    obtain ⟨a0, a1, a2, aA, al, ac, rfl, rfl, rfl, rfl⟩ := hE5.cells
    obtain ⟨b0, b1, b2, bA, bl, bc, rfl, rfl, rfl, rfl⟩ := hE6.cells
    refine ⟨⟨k0, k3, k4, s1, s2, a0, a1, a2, aA, al, ac, b0, b1, b2, bA, bl, bc, A7, l7, g7, A8, l8, g8, A9, l9, g9, A10, l10, g10⟩, .mk k0 s1 s2 k3 k4 E5 E6 L7 L8 L9 L10, rfl, ?_⟩
    unfold IsStR
    exact ⟨⟨rfl, rfl, rfl, rfl, rfl⟩, ⟨u0.1, u0.2, u3.1, u3.2, u4.1, u4.2, v1, v2⟩, hE5, hE6, hL7.imp fun b o hr hp => ⟨hr, sts_of _ o hp⟩, hL8.imp fun b o hr hp => ⟨hr, sts_of _ o hp⟩, hL9.imp fun b o hr hp => ⟨hr, sts_of _ o hp⟩, hS10⟩
/-- A code that was handed in. -/
theorem open_code {H : Type} {enc : TypeId × Value → H} {w : World} {base B : Nat} {sp : Nat → Bool} (fuel : Nat) (c : Value) (x : DataW H × List MemPlace) (h : DataW.trod enc Try.prog w base sp true fuel 50 [c] = some x) (hB : ∀ q ∈ x.2, q.block < B) (hW : ∀ q ∈ x.1.weights Try.prog 50, q ≤ 140737488351232) :
    ∃ (A : Option Addr) (len cap : Nat) (l : List St), c = .slice A len cap ∧ (A = Option.none → cap = 0) ∧ LR (fun b _ => b < B) 256 A len cap l (fun b o => IsSts w B b o l) := by
  obtain ⟨A, len, cap, l, rfl, hn, hL⟩ := open_elems (p := fun b o (y : St) => ∃ s : SV, At w b o s.arr.toList ∧ IsStR w (fun b _ => b < B) s y) Try.underlying50 cells58 (by omega) bytes58 (fun m cs x hm hx hxB hxW => by
      obtain ⟨s, y, rfl, hy⟩ := open_st m cs x hx hxB hxW
      exact ⟨y, fun b o hc => ⟨s, hc, hy⟩⟩) c x h hB hW
  exact ⟨A, len, cap, l, rfl, hn, hL.imp fun b o hr hp => ⟨hr, sts_of _ o hp⟩⟩
end Go.Proofs.Ythafojadcodkoaa
namespace Go.Proofs.Ythafojadcodkoaa
open Go.RowKit
theorem gca_2 : Try.prog.cellsOf 2 = 1 := by kernel_rfl
theorem gca_9 : Try.prog.cellsOf 9 = 1 := by kernel_rfl

theorem gfive_of {α : Type} {l : List α} (h : l.length = 5) : ∃ a b c d e, l = [a, b, c, d, e] := by
  match l, h with
  | [a, b, c, d, e], _ => exact ⟨a, b, c, d, e, rfl⟩
theorem gca_34 : Try.prog.cellsOf 49 = 5 := by kernel_rfl
theorem gca_30 : Try.prog.cellsOf 46 = 1 := by kernel_rfl
theorem gca_31 : Try.prog.cellsOf 47 = 1 := by kernel_rfl
theorem gca_32 : Try.prog.cellsOf 25 = 1 := by kernel_rfl
theorem gbytes34 : Try.prog.bytesOf 49 = 64 := by kernel_rfl
theorem open_va {H : Type} {enc : TypeId × Value → H} {w : World} {base B : Nat} {sp : Nat → Bool} : ∀ (fuel : Nat) (cs : List Value) (x : DataW H × List MemPlace), DataW.trod enc Try.prog w base sp true fuel 49 cs = some x →
    (∀ p ∈ x.2, p.block < B) → (∀ n ∈ x.1.weights Try.prog 49, n ≤ 140737488351232) → ∃ (c0 c1 c2 c3 c4 : Value) (e : Va), cs = [c0, c1, c2, c3, c4] ∧ IsVaR w (fun b _ => b < B) (.agg #[c0, c1, c2, c3, c4]) e := by
  intro fuel
  induction fuel using Nat.strongRecOn with
  | _ fuel ih =>
    intro cs x h hB hW
    obtain ⟨xs, n, rfl, rfl, hlen, hxl, hf⟩ := DataW.trod_struct Try.underlying49 h
    rw [gca_34] at hlen
    obtain ⟨c0, c1, c2, c3, c4, rfl⟩ := gfive_of hlen
    obtain ⟨x0, x1, x2, x3, x4, rfl⟩ := gfive_of hxl
    have f0 : DataW.trod enc Try.prog w base sp true n 46 (List.take (Try.prog.cellsOf 46) (List.drop 0 [c0, c1, c2, c3, c4])) = some x0 := hf 0 _ rfl
    rw [gca_30] at f0
    have f1 : DataW.trod enc Try.prog w base sp true n 2 (List.take (Try.prog.cellsOf 2) (List.drop 1 [c0, c1, c2, c3, c4])) = some x1 := hf 1 _ rfl
    rw [gca_2] at f1
    have f2 : DataW.trod enc Try.prog w base sp true n 9 (List.take (Try.prog.cellsOf 9) (List.drop 2 [c0, c1, c2, c3, c4])) = some x2 := hf 2 _ rfl
    rw [gca_9] at f2
    have f3 : DataW.trod enc Try.prog w base sp true n 47 (List.take (Try.prog.cellsOf 47) (List.drop 3 [c0, c1, c2, c3, c4])) = some x3 := hf 3 _ rfl
    rw [gca_31] at f3
    have f4 : DataW.trod enc Try.prog w base sp true n 25 (List.take (Try.prog.cellsOf 25) (List.drop 4 [c0, c1, c2, c3, c4])) = some x4 := hf 4 _ rfl
    rw [gca_32] at f4
    simp only [List.drop_zero, List.take_succ_cons, List.take_zero, List.drop_succ_cons] at f0 f1 f2 f3 f4
    obtain ⟨k, e0, _, hk⟩ := DataW.trod_int Try.underlying46 f0
    obtain ⟨m, e1, _, _⟩ := DataW.trod_int Try.underlying2 f1
    obtain ⟨s, e2, hx2, _⟩ := DataW.trod_string Try.underlying9 f2
    obtain ⟨r, e4, _, _⟩ := DataW.trod_int Try.underlying25 f4
    simp only [List.cons.injEq, and_true] at e0 e1 e2 e4
    subst e0 e1 e2 e4
    have hs : s.size ≤ 140737488351232 := by
      have : s.data.toList.length ∈ (DataW.agg ([x0, x1, x2, x3, x4].map (·.1))).weights Try.prog 49 := by
        unfold DataW.weights
        simp [Try.underlying49, hx2, DataW.weightsEach, DataW.weights]
      simpa using hW _ this
    have hk' := u8_wf hk
    obtain ⟨A, len, cap, l, rfl, _, g1, g2, g3, g4⟩ := open_elems (p := fun b o (y : Va) => ∃ c0 c1 c2 c3 c4, At w b o [c0, c1, c2, c3, c4] ∧ IsVaR w (fun b _ => b < B) (.agg #[c0, c1, c2, c3, c4]) y) Try.underlying47 gca_34 (by omega) gbytes34 (fun n' cs' x' hn hx hxB hxW => by
      obtain ⟨d0, d1, d2, d3, d4, e, rfl, hE⟩ := ih n' (by omega) cs' x' hx hxB hxW
      exact ⟨e, fun b o hcell => ⟨d0, d1, d2, d3, d4, hcell, hE⟩⟩) c3 x3 f3 (fun q hq => hB q (by simp [hq])) (fun q hq => hW q (by
        unfold DataW.weights
        simp [Try.underlying49, DataW.weightsEach, hq]))
    refine ⟨_, _, _, _, _, .mk k m s l r, rfl, ?_⟩
    unfold IsVaR
    exact ⟨hk'.1, hk'.2, hs, g3, A, cap, g2, by rw [g1], fun hl => by obtain ⟨b, o, hb, hA, hp⟩ := g4 hl; exact ⟨b, o, hb, hA, IsVasR.of hp⟩⟩
end Go.Proofs.Ythafojadcodkoaa
