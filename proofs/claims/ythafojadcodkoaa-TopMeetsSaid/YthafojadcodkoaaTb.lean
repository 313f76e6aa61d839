/- Maps that a world holds: from references to things, from a facet's key to the facet. -/
import Derived.Test.YthafojadcodkoaaA
import Derived.MapKept
import Derived.Carry
import Derived.ChangeMaps5
import Derived.Laws.StructEq
import Derived.Maps.RangeRun
namespace Go.Proofs.Ythafojadcodkoaa
open Go.RowKit Go.MapKept Go.ChangeMaps

/-- What a key stands for in a list of pairs. -/
def lookL {κ : Type} [DecidableEq κ] (L : List (κ × Value)) (k : κ) : Option Value := (L.find? (fun p => decide (p.1 = k))).map (·.2)
theorem lookL_nil {κ : Type} [DecidableEq κ] (k : κ) : lookL ([] : List (κ × Value)) k = none := rfl
theorem lookL_cons {κ : Type} [DecidableEq κ] (p : κ × Value) (L : List (κ × Value)) (k : κ) : lookL (p :: L) k = if p.1 = k then some p.2 else lookL L k := by
  unfold lookL
  rw [List.find?_cons]
  by_cases h : p.1 = k
  · simp [h]
  · simp [h]
/-- How keys of a kind are looked for. -/
structure KeyW (P : Program) (t kt et : TypeId) {κ : Type} [DecidableEq κ] (kv : κ → Value) : Prop where
  map : P.underlying t = some (.map kt et)
  check : ∀ (e : Bool) (k : κ) (w : World), (Instr.checkKey e 10000 kt (kv k)).run P w = .ok () w
  find : ∀ (L : List (κ × Value)) (es : List MapEntry) (k : κ) (w : World), es.map (fun e => (e.key, e.val)) = L.map (fun p => (kv p.1, p.2)) → ∃ r : Option (Nat × Value), (Instr.findKey kt (kv k) es).run P w = .ok r w ∧ r.map (·.2) = lookL L k
/-- Block b is a map with these pairs. -/
def MapG {κ : Type} (kv : κ → Value) (w : World) (b : Nat) (L : List (κ × Value)) : Prop :=
  ∃ (es : Array MapEntry) (clock : Nat), w.heap[b]? = some (.map es clock) ∧ es.toList.map (fun e => (e.key, e.val)) = L.map (fun p => (kv p.1, p.2)) ∧ (es.toList.map (·.born)).Nodup ∧ ∀ e ∈ es.toList, e.born < clock
theorem MapG.lt {κ : Type} {kv : κ → Value} {w : World} {b : Nat} {L : List (κ × Value)} (h : MapG kv w b L) : b < w.heap.size := by
  obtain ⟨es, c, hb, _⟩ := h
  exact (Array.getElem?_eq_some_iff.1 hb).1
theorem MapG.keep {κ : Type} {kv : κ → Value} {w w' : World} {b : Nat} {L : List (κ × Value)} (h : MapG kv w b L) (hk : w'.heap[b]? = w.heap[b]?) : MapG kv w' b L := by
  obtain ⟨es, c, hb, h2⟩ := h
  exact ⟨es, c, hk.trans hb, h2⟩
theorem MapG.new {κ : Type} (kv : κ → Value) (w : World) : MapG kv (w.alloc (.map #[] 0)) w.heap.size [] :=
  ⟨#[], 0, by show (w.heap.push _)[w.heap.size]? = _; simp, rfl, by simp, fun e he => by simp at he⟩
theorem MapG.look {P : Program} {t kt et : TypeId} {κ : Type} [DecidableEq κ] {kv : κ → Value} (K : KeyW P t kt et kv) {w : World} {b : Nat} {L : List (κ × Value)} (h : MapG kv w b L) {z : Value} (hz : (zeroValue et).run P w = .ok z w) (k : κ) (c : Bool) :
    (Instr.lookup t (.map (some b)) (kv k) c).run P w = .ok (if c then .tuple #[(lookL L k).getD z, .bool (lookL L k).isSome] else (lookL L k).getD z) w := by
  obtain ⟨es, clock, hb, he, -, -⟩ := h
  obtain ⟨r, hr, hl⟩ := K.find L es.toList k w he
  unfold Instr.lookup
  simp only [Sem.run_bind, run_underlying K.map, Result.andThen_ok, Go.MapKept.run_getObj_map hb, K.check, hr, Sem.run_pure]
  rw [← hl]
  cases r with
  | none => simp only [Sem.run_bind, hz, Result.andThen_ok, Sem.run_pure]; rfl
  | some p => rfl
theorem MapG.put {P : Program} {t kt et : TypeId} {κ : Type} [DecidableEq κ] {kv : κ → Value} (K : KeyW P t kt et kv) {w : World} {b : Nat} {L : List (κ × Value)} (h : MapG kv w b L) (k : κ) (v : Value) (hn : lookL L k = none) :
    ∃ o, (Instr.mapUpdate t (.map (some b)) (kv k) v).run P w = .ok () (setBlock w b o) ∧ MapG kv (setBlock w b o) b (L ++ [(k, v)]) := by
  obtain ⟨es, clock, hb, he, hd, hc⟩ := h
  obtain ⟨r, hr, hl⟩ := K.find L es.toList k w he
  rw [hn] at hl
  obtain rfl : r = none := by cases r with | none => rfl | some p => cases hl
  refine ⟨.map (es.push { key := kv k, val := v, born := clock }) (clock + 1), ?_, es.push { key := kv k, val := v, born := clock }, clock + 1, (heap_set hb).1, ?_, ?_, ?_⟩
  · unfold Instr.mapUpdate
    simp only [Sem.run_bind, run_underlying K.map, Result.andThen_ok, Go.MapKept.run_getObj_map hb, K.check, hr]
    exact Go.MapKept.run_setObj_map _ hb
  · simp [he]
  · simp only [Array.toList_push, List.map_append, List.map_cons, List.map_nil]
    refine List.nodup_append.2 ⟨hd, by simp, fun a ha b hb e => ?_⟩
    obtain ⟨x, hx, rfl⟩ := List.mem_map.1 ha
    simp only [List.mem_singleton] at hb
    have := hc x hx
    omega
  · intro e he2
    simp only [Array.toList_push, List.mem_append, List.mem_singleton] at he2
    rcases he2 with h | rfl
    · have := hc e h; omega
    · simp
theorem MapG.other {κ : Type} {kv : κ → Value} {w : World} {b c : Nat} {o : Obj} {L : List (κ × Value)} (h : MapG kv w b L) (hn : b ≠ c) : MapG kv (setBlock w c o) b L :=
  h.keep (by show (w.heap.setIfInBounds c o)[b]? = _; rw [Array.getElem?_setIfInBounds_ne (Ne.symm hn)])
/-- Keys that are integers. -/
def kI (r : Int) : Value := .int .i64 r
theorem findNow_kI (q : IntKind) (k : Int) : ∀ (L : List (Int × Value)) (es : List MapEntry) (i : Nat), es.map (fun e => (e.key, e.val)) = L.map (fun p => (kI p.1, p.2)) → ∃ r : Option (Nat × Value), Instr.findNow (.int q) (kI k) es i = some r ∧ r.map (·.2) = lookL L k
  | [], [], i, _ => ⟨none, rfl, rfl⟩
  | [], e :: es, i, h => by simp at h
  | p :: L, [], i, h => by simp at h
  | p :: L, e :: es, i, h => by
    simp only [List.map_cons, List.cons.injEq, Prod.mk.injEq] at h
    obtain ⟨⟨h1, h2⟩, h3⟩ := h
    rw [lookL_cons]
    have hs : Instr.sameNow (.int q) (kI k) e.key = some (k == p.1) := by rw [h1]; simp [Instr.sameNow, kI]
    by_cases hk : p.1 = k
    · refine ⟨some (i, e.val), ?_, by simp [hk, h2]⟩
      have : (k == p.1) = true := by simp [hk]
      rw [Instr.findNow, hs, this]
    · obtain ⟨r, hr, hl⟩ := findNow_kI q k L es (i + 1) h3
      refine ⟨r, ?_, by rw [if_neg hk]; exact hl⟩
      have : (k == p.1) = false := by rw [beq_eq_false_iff_ne]; exact fun e => hk e.symm
      rw [Instr.findNow, hs, this]
      exact hr
theorem keyI {P : Program} {t kt et : TypeId} {q : IntKind} (hm : P.underlying t = some (.map kt et)) (hk : P.underlying kt = some (.int q)) : KeyW P t kt et kI where
  map := hm
  check := fun e k w => by
    unfold Instr.checkKey
    simp only [Sem.run_bind, run_underlying hk, Result.andThen_ok]
    rfl
  find := fun L es k w h => by
    obtain ⟨r, hr, hl⟩ := findNow_kI q k L es 0 h
    exact ⟨r, run_findKey hk hr, hl⟩
/-- A facet's key: what it stands before, and its set. -/
def kF (p : Int × Nat) : Value := .agg #[.int .i64 p.1, .int .u8 p.2]
theorem things61 : KeyW Try.prog 61 25 59 kI := keyI Try.underlying61 Try.underlying25
theorem zero59 (w : World) : (zeroValue 59).run Try.prog w = .ok (.pointer none) w := by go_simp
theorem zero25 (w : World) : (zeroValue 25).run Try.prog w = .ok (.int .i64 0) w := by go_simp
theorem eq91 (a b : Int × Nat) (w : World) : (Op.equal 91 (kF a) (kF b)).run Try.prog w = .ok (decide (a = b)) w := by
  obtain ⟨a1, a2⟩ := a
  obtain ⟨b1, b2⟩ := b
  unfold Op.equal Op.maxDepth kF
  go_simp
  by_cases h1 : a1 = b1
  · by_cases h2 : a2 = b2
    · simp [h1, h2]
    · have h3 : ¬ (a2 : Int) = b2 := by omega
      simp [h1, h2, h3]
  · simp [h1]
theorem check_int {P : Program} {kt : TypeId} {q : IntKind} (hk : P.underlying kt = some (.int q)) (e : Bool) (n : Nat) (j : IntKind) (a : Int) (w : World) : (Instr.checkKey e (n + 1) kt (.int j a)).run P w = .ok () w := by
  unfold Instr.checkKey
  simp only [Sem.run_bind, run_underlying hk, Result.andThen_ok]
  rfl
theorem check91 (e : Bool) (k : Int × Nat) (w : World) : (Instr.checkKey e 10000 91 (kF k)).run Try.prog w = .ok () w := by
  unfold kF
  rw [Instr.checkKey]
  go_simp
  rw [check_int Try.underlying25 e 9998, Result.andThen_ok, check_int Try.underlying35 e 9998]
theorem asking91 (k : Int × Nat) : ∀ (L : List ((Int × Nat) × Value)) (es : List MapEntry) (i : Nat) (w : World), es.map (fun e => (e.key, e.val)) = L.map (fun p => (kF p.1, p.2)) → ∃ r : Option (Nat × Value), (Instr.findAsking 91 (kF k) es i).run Try.prog w = .ok r w ∧ r.map (·.2) = lookL L k
  | [], [], i, w, _ => ⟨none, rfl, rfl⟩
  | [], e :: es, i, w, h => by simp at h
  | p :: L, [], i, w, h => by simp at h
  | p :: L, e :: es, i, w, h => by
    simp only [List.map_cons, List.cons.injEq, Prod.mk.injEq] at h
    obtain ⟨⟨h1, h2⟩, h3⟩ := h
    rw [lookL_cons]
    by_cases hk : p.1 = k
    · refine ⟨some (i, e.val), ?_, by simp [hk, h2]⟩
      rw [Instr.findAsking, h1]
      simp only [Sem.run_bind, eq91, Result.andThen_ok, hk, decide_true, if_true, Sem.run_pure]
    · obtain ⟨r, hr, hl⟩ := asking91 k L es (i + 1) w h3
      refine ⟨r, ?_, by rw [if_neg hk]; exact hl⟩
      have hk' : ¬ k = p.1 := fun e => hk e.symm
      rw [Instr.findAsking, h1]
      simp only [Sem.run_bind, eq91, Result.andThen_ok, decide_eq_false hk', Bool.false_eq_true, if_false]
      exact hr
theorem facets62 : KeyW Try.prog 62 91 25 kF where
  map := Try.underlying62
  check := check91
  find := fun L es k w h => by
    obtain ⟨r, hr, hl⟩ := asking91 k L es 0 w h
    refine ⟨r, ?_, hl⟩
    unfold Instr.findKey
    cases L with
    | nil =>
      obtain rfl : es = [] := by cases es with | nil => rfl | cons e es => simp at h
      have hn : r = none := by
        have h0 : (Instr.findAsking 91 (kF k) ([] : List MapEntry) 0).run Try.prog w = .ok none w := rfl
        rw [h0] at hr
        injection hr with h1 _
        exact h1.symm
      subst hn
      simp only [Sem.run_bind, run_underlying Try.underlying91, Result.andThen_ok]
      rfl
    | cons p L =>
      cases es with
      | nil => simp at h
      | cons e es =>
        simp only [List.map_cons, List.cons.injEq, Prod.mk.injEq] at h
        have hn : ∀ d, Try.prog.underlying 91 = some d → Instr.findNow d (kF k) (e :: es) 0 = none := fun d hd => by
          rw [Try.underlying91] at hd
          obtain rfl := Option.some.inj hd
          rw [Instr.findNow, h.1.1]
          rfl
        simp only [Sem.run_bind, run_underlying Try.underlying91, Result.andThen_ok, hn _ Try.underlying91]
        exact hr
end Go.Proofs.Ythafojadcodkoaa
