/- Ranges over the things of a world; other, fits$1. -/
import Derived.Test.YthafojadcodkoaaUa
import Derived.BigQuiet
namespace Go.Proofs.Ythafojadcodkoaa
open Go.RowKit Go.ChangeMaps

theorem entE_of {L : List Ent} (hn : (L.map (·.r)).Nodup) {e : Ent} (he : e ∈ L) : entE L e.r = some e := by
  induction L with
  | nil => cases he
  | cons x L ih =>
    rw [List.map_cons, List.nodup_cons] at hn
    unfold entE
    rw [List.find?_cons]
    by_cases hx : x.r = e.r
    · rcases List.mem_cons.1 he with rfl | h
      · simp
      · exact absurd (List.mem_map.2 ⟨e, h, hx.symm⟩) hn.1
    · rcases List.mem_cons.1 he with rfl | h
      · exact absurd rfl hx
      · simp only [decide_eq_false hx]
        exact ih hn.2 h
theorem ent_of {L : List Ent} {es : Array MapEntry} (hm : es.toList.map (fun e => (e.key, e.val)) = (L.map Ent.pair).map (fun p => (kI p.1, p.2))) {e : MapEntry} (he : e ∈ es.toList) : ∃ E ∈ L, e.key = .int .i64 E.r ∧ e.val = .pointer (some ⟨E.b, 0, Option.none⟩) := by
  have h1 : (e.key, e.val) ∈ (L.map Ent.pair).map (fun p => (kI p.1, p.2)) := hm ▸ List.mem_map.2 ⟨e, he, rfl⟩
  obtain ⟨p, hp, h2⟩ := List.mem_map.1 h1
  obtain ⟨E, hE, rfl⟩ := List.mem_map.1 hp
  simp only [Prod.mk.injEq] at h2
  exact ⟨E, hE, h2.1.symm, h2.2.symm⟩
theorem ent_to {L : List Ent} {es : Array MapEntry} (hm : es.toList.map (fun e => (e.key, e.val)) = (L.map Ent.pair).map (fun p => (kI p.1, p.2))) {E : Ent} (hE : E ∈ L) : ∃ e ∈ es.toList, e.key = .int .i64 E.r := by
  have h1 : (kI E.pair.1, E.pair.2) ∈ es.toList.map (fun e => (e.key, e.val)) := hm ▸ List.mem_map.2 ⟨E.pair, List.mem_map.2 ⟨E, hE, rfl⟩, rfl⟩
  obtain ⟨e, he, h2⟩ := List.mem_map.1 h1
  simp only [Prod.mk.injEq] at h2
  exact ⟨e, he, h2.1⟩
/-- An iterator over the map tm: it has handed out what was born at these times. -/
def It (w : World) (r tm clock : Nat) (seen : Array Nat) : Prop := w.heap[r]? = some (.mapIter (some tm) clock seen clock)
theorem It.lt {w : World} {r tm clock : Nat} {seen : Array Nat} (h : It w r tm clock seen) : r < w.heap.size := (Array.getElem?_eq_some_iff.1 h).1
theorem It.seen {w : World} {r tm clock : Nat} {seen : Array Nat} (h : It w r tm clock seen) : w.iterSeen r = seen := by unfold World.iterSeen; rw [h]
theorem It.keep {w w' : World} {r tm clock : Nat} {seen : Array Nat} (h : It w r tm clock seen) (hk : w'.heap[r]? = w.heap[r]?) : It w' r tm clock seen := hk.trans h
theorem wpList_range (w : World) {ops : Array Oper} {rest : List Oper} {o : Oper} {a : Act} {Q : Exit → Act → World → Prop} (hgd : o.guard = Option.none) (x : Operand) (ho : o.op = .range 61 x) (tm : Nat) (hx : a.eval x = .map (some tm))
    {es : Array MapEntry} {clock : Nat} (hb : w.heap[tm]? = some (.map es clock))
    (h : ∀ w', Below w.heap.size w w' → It w' w.heap.size tm clock #[] → wpList Try.prog ops Q rest (a.put o.dst (.pointer (some ⟨w.heap.size, 0, Option.none⟩))) w') : wpList Try.prog ops Q (o :: rest) a w := by
  refine wpList_plain hgd fun K hK => ?_
  have hr := run_range_map (P := Try.prog) w 61 25 59 tm es clock Try.underlying61 hb
  unfold Oper.wp execOp
  simp only [ho, Sem.run_bind, hx, hr, Result.andThen_ok, Sem.run_pure]
  exact hK _ _ (h _ ((Below.refl _ _).alloc (Nat.le_refl _) _) (heap_alloc_new _ _))
theorem wpList_next (w : World) {ops : Array Oper} {rest : List Oper} {o : Oper} {a : Act} {Q : Exit → Act → World → Prop} (hgd : o.guard = Option.none) (x : Operand) (ho : o.op = .next x false) (r tm : Nat) (hx : a.eval x = .pointer (some ⟨r, 0, Option.none⟩))
    {es : Array MapEntry} {clock : Nat} {seen : Array Nat} (hr : It w r tm clock seen) (hb : w.heap[tm]? = some (.map es clock)) (hold : ∀ e ∈ es.toList, e.born < clock)
    (h0 : (leftOf es seen).size = 0 → wpList Try.prog ops Q rest (a.put o.dst (.tuple #[.bool false])) w)
    (h1 : ∀ e ∈ (leftOf es seen).toList, ∀ w', Upd r w w' → It w' r tm clock (seen.push e.born) → wpList Try.prog ops Q rest (a.put o.dst (.tuple #[.bool true, e.key, e.val])) w') : wpList Try.prog ops Q (o :: rest) a w := by
  refine wpList_plain hgd fun K hK => ?_
  rcases run_next_at (P := Try.prog) w o.type r tm clock clock seen es clock hr hb hold (Nat.le_refl _) with ⟨hs, hrun⟩ | ⟨e, he, w1, hw1, hrun⟩
  · unfold Oper.wp execOp
    simp only [ho, Sem.run_bind, hx, hrun, Result.andThen_ok, Sem.run_pure]
    exact hK _ _ (h0 hs)
  · unfold Oper.wp execOp
    simp only [ho, Sem.run_bind, hx, hrun, Result.andThen_ok, Sem.run_pure]
    have hl : w1.heap = w.heap := by rcases hw1 with rfl | rfl <;> rfl
    have hrl : r < w1.heap.size := by rw [hl]; exact hr.lt
    refine hK _ _ (h1 e he _ ⟨?_, ?_, ?_, ?_, fun k hk hn => ?_⟩ ?_)
    · rcases hw1 with rfl | rfl <;> rfl
    · rcases hw1 with rfl | rfl <;> rfl
    · rcases hw1 with rfl | rfl <;> rfl
    · simp [setBlock, hl]
    · show (w1.heap.setIfInBounds r _)[k]? = _
      rw [Array.getElem?_setIfInBounds_ne (Ne.symm hn), hl]
    · show (w1.heap.setIfInBounds r _)[r]? = _
      simp [hrl]
theorem wpList_entry (w : World) {ops : Array Oper} {rest : List Oper} {o : Oper} {a : Act} {Q : Exit → Act → World → Prop} (hgd : o.guard = Option.none) (x : Operand) (ho : o.op = .entry x) (r tm : Nat) (hx : a.eval x = .pointer (some ⟨r, 0, Option.none⟩))
    {es : Array MapEntry} {clock : Nat} {seen : Array Nat} {e : MapEntry} (hr : It w r tm clock (seen.push e.born)) (hb : w.heap[tm]? = some (.map es clock)) (he : e ∈ es.toList) (hn : (es.toList.map (·.born)).Nodup)
    (h : wpList Try.prog ops Q rest (a.put o.dst (.tuple #[e.key, e.val])) w) : wpList Try.prog ops Q (o :: rest) a w := by
  refine wpList_plain hgd fun K hK => ?_
  have hrun := run_entry_at (P := Try.prog) w r tm clock seen es clock e hr hb he hn
  unfold Oper.wp execOp
  simp only [ho, Sem.run_bind, hx, hrun, Result.andThen_ok, Sem.run_pure]
  exact hK _ _ h
section
variable {w : World} {hi p tm fm : Nat} {ps cs ms : Value} {L : List Ent} {FL : List ((Int × Nat) × Int)} {lt : Int}
attribute [local irreducible] wpList
set_option maxRecDepth 100000 in
set_option maxHeartbeats 4000000 in
theorem other_any (h : Wd w hi p tm fm ps cs ms L FL lt) (r k of_ : Int) : Calls Try.prog 56 #[.pointer (some ⟨p, 0, Option.none⟩), .int .i64 r, .int .u8 k, .int .i64 of_] w fun e w' => Below w.heap.size w w' ∧ ∃ β : Bool, e = .returned (.bool β) := by
  have c2 := h.blk.cell 2 rfl
  have HW := Lib.hid h
  obtain ⟨es, clock, hb, hm, hnd, hold⟩ := h.things
  have htl := h.things.lt
  have HMB := Lib.hid hb
  have HM := Lib.hid hm
  have HND := Lib.hid hnd
  have HOLD := Lib.hid hold
  clear h hb hm hnd hold
  obtain ⟨P, hP1, hP2⟩ : ∃ P : Ending → World → Prop, (∀ (w' : World) (β : Bool), Below w.heap.size w w' → P (.returned (.bool β)) w') ∧ (∀ e w', P e w' → Below w.heap.size w w' ∧ ∃ β : Bool, e = .returned (.bool β)) := ⟨_, fun w' β h1 => ⟨h1, β, rfl⟩, fun e w' h => h⟩
  refine Calls.mono (R := P) ?_ hP2
  have HP := Lib.hid hP1
  clear hP1 hP2
  go_enter Try.func56, Try.ntmps56
  go_wp2_with (refine wpList_range _ rfl (.tmp 14) rfl tm rfl HMB.out ?_; intro w1 hb1 hi1; have HB1 := Lib.hid hb1; have HI1 := Lib.hid hi1; clear hb1 hi1)
  go_simp
  go_loopw [8] (fun c wr => c = .bool false ∧ ∃ seen, It wr w.heap.size tm clock seen ∧ Below w.heap.size w wr) (fun _ wr => (leftOf es (wr.iterSeen w.heap.size)).size)
  case atStart => exact ⟨rfl, _, HI1.out, HB1.out⟩
  case round =>
    obtain ⟨rfl, seen, hit, hbr⟩ := hrel
    have HIT := Lib.hid hit
    have HBR := Lib.hid hbr
    have hrl := hit.lt
    clear hit hbr HI1 HB1 c2
    have htb : wr.heap[tm]? = some (.map es clock) := (HBR.out.block tm htl).trans HMB.out
    have HTB := Lib.hid htb
    clear htb
    refine wp_seq ?_
    refine wp_region_lit ?_
    refine wpList_next wr rfl (.tmp 15) rfl w.heap.size tm rfl HIT.out HTB.out HOLD.out (fun hs => ?_) (fun e he w2 hu hit2 => ?_)
    · clear hs
      go_simp
      go_wp2_with fail
      exact HP.out _ _ HBR.out
    · have hem := (mem_left he).1
      have HE := Lib.hid he
      have HEM := Lib.hid hem
      obtain ⟨E, hE, hk, hv⟩ := ent_of HM.out hem
      have HB2 := Lib.hid (below_upd HBR.out hu (Nat.le_refl _) HBR.out.size)
      have HT2 : Hid (w2.heap[tm]? = some (.map es clock)) := Lib.hid ((HB2.out.block tm htl).trans HMB.out)
      have HIT2 := Lib.hid hit2
      have hblk := ((HW.out.below HB2.out).each E hE).2.1
      rw [hk, hv]
      have HK := Lib.hid hk
      have HV := Lib.hid hv
      obtain ⟨er, eb, s⟩ := E
      have k0 := hblk.cell (v := .int .u8 s.k) 0 rfl
      have k10 := hblk.cell (v := .int .i64 s.of_) 10 rfl
      clear he hem hE hk hv hu hit2 hblk
      simp only at HK HV ⊢
      go_simp
      go_upto_region 3 with fail
      refine wp_region_lit ?_
      refine wpList_entry w2 rfl (.tmp 15) rfl w.heap.size tm rfl HIT2.out HT2.out HEM.out HND.out ?_
      rw [HK.out, HV.out]
      go_simp
      go_wp2_with fail
      all_goals first
        | exact HP.out _ _ HB2.out
        | (go_roundw
           case rel => first | exact ⟨rfl, _, HIT2.out, HB2.out⟩ | exact ⟨⟨_, HIT2.out⟩, HB2.out⟩
           case measure => rw [HIT2.out.seen, HIT.out.seen]; exact left_shrinks es seen e HE.out)
theorem belowD {B : Nat} (w : World) (n : Nat) : Below B w (w.drewN n) := ⟨rfl, rfl, rfl, Nat.le_refl _, fun _ _ => rfl⟩
/-- Whether there is a thing of a kind, at that home. -/
def thereF (L : List Ent) (of_ k home : Int) : Bool := match entE L of_ with
  | none => false
  | some e => e.s.k == k && e.s.home == home
set_option maxRecDepth 100000 in
set_option maxHeartbeats 4000000 in
theorem fits1_any (h : Wd w hi p tm fm ps cs ms L FL lt) (s : WV) (of_ k : Int) (hk : k ≠ 0) (cw cx : Nat) (hc : BlkN w cw 30 #[.pointer (some ⟨p, 0, Option.none⟩)]) (hx : BlkN w cx 53 s.arr) :
    Calls Try.prog 54 #[.int .i64 of_, .int .u8 k, .pointer (some ⟨cw, 0, Option.none⟩), .pointer (some ⟨cx, 0, Option.none⟩)] w fun e w' => e = .returned (.bool (thereF L of_ k s.home)) ∧ ∃ m, w' = w.drewN m := by
  have cw0 := hc.cell (v := .pointer (some ⟨p, 0, Option.none⟩)) 0 rfl
  have cx1 := hx.cell (v := .int .i64 s.home) 1 s.at1
  have c2 := h.blk.cell (v := .map (some tm)) 2 rfl
  have hl := fun n => (h.below (belowD w n)).look of_
  unfold thereF
  cases hE : entE L of_ with
  | none =>
    rw [hE] at hl
    have C55 : Hid (∀ n, Calls Try.prog 55 #[.pointer (some ⟨p, 0, Option.none⟩), .int .i64 of_] (w.drewN n) fun e w' => e = .returned (.int .u8 0) ∧ w' = w.drewN n) := Lib.hid fun n => (kind_any (h.below (belowD w n)) of_).mono fun e w' hh => ⟨by rw [hE] at hh; exact hh.1, hh.2.symm⟩
    have hk0 : ((0 : Int) == k) = false := by rw [beq_eq_false_iff_ne]; exact fun e => hk e.symm
    clear hE h hc hx
    go_enter Try.func54, Try.ntmps54
    go_wp2_with fail
    go_quiet ((go_at_call 55; refine Calls.quiet_of_same (C55.out _)))
    go_wp2_with fail
    go_ret
    exact ⟨rfl, _, rfl⟩
  | some E =>
    rw [hE] at hl
    have C55 : Hid (∀ n, Calls Try.prog 55 #[.pointer (some ⟨p, 0, Option.none⟩), .int .i64 of_] (w.drewN n) fun e w' => e = .returned (.int .u8 E.s.k) ∧ w' = w.drewN n) := Lib.hid fun n => (kind_any (h.below (belowD w n)) of_).mono fun e w' hh => ⟨by rw [hE] at hh; exact hh.1, hh.2.symm⟩
    obtain ⟨-, hblk, -⟩ := h.each _ (entE_mem hE).1
    obtain ⟨er, b, t⟩ := E
    have k1 := hblk.cell (v := .int .i64 t.home) 1 t.at1
    simp only at C55 hl ⊢
    clear hE h hc hx hblk
    cases hkk : (t.k == k) with
    | false =>
      go_enter Try.func54, Try.ntmps54
      go_wp2_with fail
      go_quiet ((go_at_call 55; refine Calls.quiet_of_same (C55.out _)))
      go_wp2_with fail
      go_ret
      exact ⟨rfl, _, rfl⟩
    | true =>
      go_enter Try.func54, Try.ntmps54
      go_wp2_with fail
      go_quiet ((go_at_call 55; refine Calls.quiet_of_same (C55.out _)))
      go_wp2_with fail
      go_ret
      exact ⟨rfl, _, rfl⟩
end
end Go.Proofs.Ythafojadcodkoaa
