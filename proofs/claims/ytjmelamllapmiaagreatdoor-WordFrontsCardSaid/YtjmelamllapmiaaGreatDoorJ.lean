/- package word: Unquote, with its deferred closure that recovers; the closure of Cut. -/
import Derived.Test.YtjmelamllapmiaaGreatDoorI
namespace Go.Proofs.YtjmelamllapmiaaGreatDoor
open Go.RowKit

theorem results_cells {P : Program} {w : World} {fn : Func} {s0 s1 s2 : Tmp} {T T1 T2 : TypeId} (hr : fn.results = #[.cell s0 T, .cell s1 T1, .cell s2 T2]) {tmps : Array Value} {b b1 b2 : Nat}
    (hp : tmps.getD s0 undef = .pointer (some ⟨b, 0, Option.none⟩)) (hp1 : tmps.getD s1 undef = .pointer (some ⟨b1, 0, Option.none⟩)) (hp2 : tmps.getD s2 undef = .pointer (some ⟨b2, 0, Option.none⟩))
    {u0 u1 u2 : Value} (r0 : (loadVar T ⟨b, 0, Option.none⟩).run P w = .ok u0 w) (r1 : (loadVar T1 ⟨b1, 0, Option.none⟩).run P w = .ok u1 w) (r2 : (loadVar T2 ⟨b2, 0, Option.none⟩).run P w = .ok u2 w) :
    (results fn tmps).run P w = .ok (.tuple #[u0, u1, u2]) w := by
  have hp' : tmps[s0]?.getD undef = .pointer (some ⟨b, 0, Option.none⟩) := by simpa using hp
  have hp1' : tmps[s1]?.getD undef = .pointer (some ⟨b1, 0, Option.none⟩) := by simpa using hp1
  have hp2' : tmps[s2]?.getD undef = .pointer (some ⟨b2, 0, Option.none⟩) := by simpa using hp2
  simp only [results, hr]
  simp [hp', hp1', hp2', asAddr, r0, r1, r2, Result.andThen]
theorem load9 {w : World} {b : Nat} {k : ByteArray} (h : BlkN w b 9 #[.string k]) : (loadVar 9 ⟨b, 0, Option.none⟩).run Tryz.prog w = .ok (.string k) w := by
  have := h.cell 0 (v := .string k) rfl
  simp [go_sem, this]
theorem load40 {w : World} {b : Nat} {A : Option Addr} {l c : Nat} (h : BlkN w b 22 #[.slice A l c]) : (loadVar 22 ⟨b, 0, Option.none⟩).run Tryz.prog w = .ok (.slice A l c) w := by
  have := h.cell 0 (v := .slice A l c) rfl
  simp [go_sem, this]
set_option maxRecDepth 100000 in
theorem catch43 (k : Int) (b b1 b2 : Nat) (hb1 : b < b1) (hb2 : b1 < b2) (older : List PanicEntry) (V : World) (c0 x y : Value) (h0 : BlkN V b 9 #[c0]) (h1 : BlkN V b1 3 #[x]) (h2 : BlkN V b2 29 #[y]) :
    CallsD Tryz.prog 106 #[.pointer (some ⟨b, 0, Option.none⟩), .pointer (some ⟨b1, 0, Option.none⟩), .pointer (some ⟨b2, 0, Option.none⟩)] (.panicking ({ v := .iface 95 (.int .i64 k), recovered := false } :: older)) V fun e u' V' =>
      e = .returned (.tuple #[]) ∧ u' = .panicking ({ v := .iface 95 (.int .i64 k), recovered := true } :: older) ∧ Below b V V' ∧ BlkN V' b 9 #[.string ⟨#[]⟩] ∧ BlkN V' b1 3 #[.int .i64 k] ∧ BlkN V' b2 29 #[.int .i64 30] := by
  have n1 : b ≠ b1 := by omega
  have n2 : b ≠ b2 := by omega
  have n3 : b1 ≠ b2 := by omega
  refine callsD_of_wpS Tryz.func106 rfl fun c₀ cs hu => ?_
  apply wpS_seq
  apply wpS_region
  simp [wpOpsS, go_sem, recoverD, hu, Tryz.ntmps106, Exit.thenS, Array.replicate_succ]
  refine wpS_of_wp ?_
  have d0 := h0.cell 0 rfl
  have e0 := h1.cell 0 rfl
  have f0 := h2.cell 0 rfl
  have x0 := h0.free 0
  have y0 := h1.free 0
  have z0 := h2.free 0
  have l0 := h0.lt
  have l1 := h1.lt
  have l2 := h2.lt
  have ha := assert73 k V
  go_wp2_with fail
  have hb : ∀ (u0 u1 u2 : Value), Below b V (((V.setCell ⟨b, 0, Option.none⟩ u0).setCell ⟨b1, 0, Option.none⟩ u1).setCell ⟨b2, 0, Option.none⟩ u2) := fun u0 u1 u2 =>
    (((Below.refl b V).setCell (p := ⟨b, 0, Option.none⟩) (Nat.le_refl _) _).setCell (p := ⟨b1, 0, Option.none⟩) (by show b ≤ b1; omega) _).setCell (p := ⟨b2, 0, Option.none⟩) (by show b ≤ b2; omega) _
  have g0 := ((BlkN.set h0 0 (.string ⟨#[]⟩)).setOther (q := ⟨b1, 0, Option.none⟩) n1 (.int .i64 k)).setOther (q := ⟨b2, 0, Option.none⟩) n2 (.int .i64 30)
  have g1 := (BlkN.set (h1.setOther (q := ⟨b, 0, Option.none⟩) n1.symm (.string ⟨#[]⟩)) 0 (.int .i64 k)).setOther (q := ⟨b2, 0, Option.none⟩) n3 (.int .i64 30)
  have g2 := BlkN.set ((h2.setOther (q := ⟨b, 0, Option.none⟩) n2.symm (.string ⟨#[]⟩)).setOther (q := ⟨b1, 0, Option.none⟩) n3.symm (.int .i64 k)) 0 (.int .i64 30)
  simp only [bodyPostS, results, Tryz.results106]
  simp [go_sem]
  exact ⟨hb _ _ _, by simpa using g0, by simpa using g1, by simpa using g2⟩
theorem catch43_idle (V : World) (p q r : Addr) :
    CallsD Tryz.prog 106 #[.pointer (some p), .pointer (some q), .pointer (some r)] .returning V fun e u' V' => e = .returned (.tuple #[]) ∧ u' = .returning ∧ V' = V := by
  refine callsD_of_wpS Tryz.func106 rfl fun c₀ cs hu => ?_
  apply wpS_seq
  apply wpS_region
  simp [wpOpsS, go_sem, recoverD, hu, Tryz.ntmps106, Exit.thenS, Array.replicate_succ]
  refine wpS_of_wp ?_
  go_wp2_with fail
  cases c₀
  simp_all [bodyPostS, results, Tryz.results106]
/-- Behind a stuck reader: the closure recovers, and the function returns. -/
theorem leave16_stuck {tmps : Array Value} {b b1 b2 : Nat} (h2 : tmps.getD 2 undef = .pointer (some ⟨b, 0, Option.none⟩)) (h3 : tmps.getD 3 undef = .pointer (some ⟨b1, 0, Option.none⟩)) (h4 : tmps.getD 4 undef = .pointer (some ⟨b2, 0, Option.none⟩)) (hb1 : b < b1) (hb2 : b1 < b2) {V : World} {k : Int} {c0 x y : Value}
    (g0 : BlkN V b 9 #[c0]) (g1 : BlkN V b1 3 #[x]) (g2 : BlkN V b2 29 #[y]) {R : Ending → World → Prop} (hR : ∀ V', Below b V V' → R (.returned (.tuple #[.string ⟨#[]⟩, .int .i64 k, .int .i64 30])) V') :
    bodyPostD Tryz.prog Tryz.f55 R (Exit.panic [{ v := .iface 95 (.int .i64 k), recovered := false }]) ⟨tmps, [{ target := .fn (.func 106) #[.pointer (some ⟨b, 0, Option.none⟩), .pointer (some ⟨b1, 0, Option.none⟩), .pointer (some ⟨b2, 0, Option.none⟩)], args := #[] }]⟩ V := by
  refine leaves_cons (f := 106) (args := #[.pointer (some ⟨b, 0, Option.none⟩), .pointer (some ⟨b1, 0, Option.none⟩), .pointer (some ⟨b2, 0, Option.none⟩)]) (by simp) (by simp [go_sem]) ?_
  refine (catch43 k b b1 b2 hb1 hb2 [] V c0 x y g0 g1 g2).mono ?_
  rintro e u' V' ⟨rfl, rfl, hb, k0, k1, k2⟩
  simp only [settle, List.dropWhile_nil, Leaves]
  exact ⟨_, results_cells rfl h2 h3 h4 (load9 k0) (load3 k1) (load27 k2), hR V' hb⟩
theorem leave16_idle {tmps : Array Value} {b b1 b2 : Nat} (h2 : tmps.getD 2 undef = .pointer (some ⟨b, 0, Option.none⟩)) (h3 : tmps.getD 3 undef = .pointer (some ⟨b1, 0, Option.none⟩)) (h4 : tmps.getD 4 undef = .pointer (some ⟨b2, 0, Option.none⟩)) {V : World} {k m : Int} {c : Value} (r0 : (loadVar 9 ⟨b, 0, Option.none⟩).run Tryz.prog V = .ok c V)
    (g1 : BlkN V b1 3 #[.int .i64 k]) (g2 : BlkN V b2 29 #[.int .i64 m]) {R : Ending → World → Prop} (hR : R (.returned (.tuple #[c, .int .i64 k, .int .i64 m])) V) {e : Exit} (he : e = .normal ∨ e = .ret) :
    bodyPostD Tryz.prog Tryz.f55 R e ⟨tmps, [{ target := .fn (.func 106) #[.pointer (some ⟨b, 0, Option.none⟩), .pointer (some ⟨b1, 0, Option.none⟩), .pointer (some ⟨b2, 0, Option.none⟩)], args := #[] }]⟩ V := by
  have key : Leaves Tryz.prog Tryz.f55 tmps R [{ target := .fn (.func 106) #[.pointer (some ⟨b, 0, Option.none⟩), .pointer (some ⟨b1, 0, Option.none⟩), .pointer (some ⟨b2, 0, Option.none⟩)], args := #[] }] .returning V := by
    refine leaves_cons (f := 106) (args := #[.pointer (some ⟨b, 0, Option.none⟩), .pointer (some ⟨b1, 0, Option.none⟩), .pointer (some ⟨b2, 0, Option.none⟩)]) (by simp) (by simp [go_sem]) ?_
    refine (catch43_idle V ⟨b, 0, Option.none⟩ ⟨b1, 0, Option.none⟩ ⟨b2, 0, Option.none⟩).mono ?_
    rintro e u' V' ⟨rfl, rfl, rfl⟩
    simp only [settle, Leaves]
    exact ⟨_, results_cells rfl h2 h3 h4 r0 (load3 g1) (load27 g2), hR⟩
  rcases he with rfl | rfl <;> exact key
set_option maxRecDepth 100000 in
theorem catch48 (k : Int) (b b1 b2 : Nat) (hb1 : b < b1) (hb2 : b1 < b2) (older : List PanicEntry) (V : World) (c0 x y : Value) (h0 : BlkN V b 22 #[c0]) (h1 : BlkN V b1 3 #[x]) (h2 : BlkN V b2 29 #[y]) :
    CallsD Tryz.prog 79 #[.pointer (some ⟨b, 0, Option.none⟩), .pointer (some ⟨b1, 0, Option.none⟩), .pointer (some ⟨b2, 0, Option.none⟩)] (.panicking ({ v := .iface 95 (.int .i64 k), recovered := false } :: older)) V fun e u' V' =>
      e = .returned (.tuple #[]) ∧ u' = .panicking ({ v := .iface 95 (.int .i64 k), recovered := true } :: older) ∧ Below b V V' ∧ BlkN V' b 22 #[.slice Option.none 0 0] ∧ BlkN V' b1 3 #[.int .i64 k] ∧ BlkN V' b2 29 #[.int .i64 30] := by
  have n1 : b ≠ b1 := by omega
  have n2 : b ≠ b2 := by omega
  have n3 : b1 ≠ b2 := by omega
  refine callsD_of_wpS Tryz.func79 rfl fun c₀ cs hu => ?_
  apply wpS_seq
  apply wpS_region
  simp [wpOpsS, go_sem, recoverD, hu, Tryz.ntmps79, Exit.thenS, Array.replicate_succ]
  refine wpS_of_wp ?_
  have d0 := h0.cell 0 rfl
  have e0 := h1.cell 0 rfl
  have f0 := h2.cell 0 rfl
  have x0 := h0.free 0
  have y0 := h1.free 0
  have z0 := h2.free 0
  have l0 := h0.lt
  have l1 := h1.lt
  have l2 := h2.lt
  have ha := assert73 k V
  go_wp2_with fail
  have hb : ∀ (u0 u1 u2 : Value), Below b V (((V.setCell ⟨b, 0, Option.none⟩ u0).setCell ⟨b1, 0, Option.none⟩ u1).setCell ⟨b2, 0, Option.none⟩ u2) := fun u0 u1 u2 =>
    (((Below.refl b V).setCell (p := ⟨b, 0, Option.none⟩) (Nat.le_refl _) _).setCell (p := ⟨b1, 0, Option.none⟩) (by show b ≤ b1; omega) _).setCell (p := ⟨b2, 0, Option.none⟩) (by show b ≤ b2; omega) _
  have g0 := ((BlkN.set h0 0 (.slice Option.none 0 0)).setOther (q := ⟨b1, 0, Option.none⟩) n1 (.int .i64 k)).setOther (q := ⟨b2, 0, Option.none⟩) n2 (.int .i64 30)
  have g1 := (BlkN.set (h1.setOther (q := ⟨b, 0, Option.none⟩) n1.symm (.slice Option.none 0 0)) 0 (.int .i64 k)).setOther (q := ⟨b2, 0, Option.none⟩) n3 (.int .i64 30)
  have g2 := BlkN.set ((h2.setOther (q := ⟨b, 0, Option.none⟩) n2.symm (.slice Option.none 0 0)).setOther (q := ⟨b1, 0, Option.none⟩) n3.symm (.int .i64 k)) 0 (.int .i64 30)
  simp only [bodyPostS, results, Tryz.results79]
  simp [go_sem]
  exact ⟨hb _ _ _, by simpa using g0, by simpa using g1, by simpa using g2⟩
theorem catch48_idle (V : World) (p q r : Addr) :
    CallsD Tryz.prog 79 #[.pointer (some p), .pointer (some q), .pointer (some r)] .returning V fun e u' V' => e = .returned (.tuple #[]) ∧ u' = .returning ∧ V' = V := by
  refine callsD_of_wpS Tryz.func79 rfl fun c₀ cs hu => ?_
  apply wpS_seq
  apply wpS_region
  simp [wpOpsS, go_sem, recoverD, hu, Tryz.ntmps79, Exit.thenS, Array.replicate_succ]
  refine wpS_of_wp ?_
  go_wp2_with fail
  cases c₀
  simp_all [bodyPostS, results, Tryz.results79]
/-- Behind a stuck reader: the closure recovers, and the function returns. -/
theorem leave20_stuck {tmps : Array Value} {b b1 b2 : Nat} (h2 : tmps.getD 2 undef = .pointer (some ⟨b, 0, Option.none⟩)) (h3 : tmps.getD 3 undef = .pointer (some ⟨b1, 0, Option.none⟩)) (h4 : tmps.getD 4 undef = .pointer (some ⟨b2, 0, Option.none⟩)) (hb1 : b < b1) (hb2 : b1 < b2) {V : World} {k : Int} {c0 x y : Value}
    (g0 : BlkN V b 22 #[c0]) (g1 : BlkN V b1 3 #[x]) (g2 : BlkN V b2 29 #[y]) {R : Ending → World → Prop} (hR : ∀ V', Below b V V' → R (.returned (.tuple #[.slice Option.none 0 0, .int .i64 k, .int .i64 30])) V') :
    bodyPostD Tryz.prog Tryz.f36 R (Exit.panic [{ v := .iface 95 (.int .i64 k), recovered := false }]) ⟨tmps, [{ target := .fn (.func 79) #[.pointer (some ⟨b, 0, Option.none⟩), .pointer (some ⟨b1, 0, Option.none⟩), .pointer (some ⟨b2, 0, Option.none⟩)], args := #[] }]⟩ V := by
  refine leaves_cons (f := 79) (args := #[.pointer (some ⟨b, 0, Option.none⟩), .pointer (some ⟨b1, 0, Option.none⟩), .pointer (some ⟨b2, 0, Option.none⟩)]) (by simp) (by simp [go_sem]) ?_
  refine (catch48 k b b1 b2 hb1 hb2 [] V c0 x y g0 g1 g2).mono ?_
  rintro e u' V' ⟨rfl, rfl, hb, k0, k1, k2⟩
  simp only [settle, List.dropWhile_nil, Leaves]
  exact ⟨_, results_cells rfl h2 h3 h4 (load40 k0) (load3 k1) (load27 k2), hR V' hb⟩
theorem leave20_idle {tmps : Array Value} {b b1 b2 : Nat} (h2 : tmps.getD 2 undef = .pointer (some ⟨b, 0, Option.none⟩)) (h3 : tmps.getD 3 undef = .pointer (some ⟨b1, 0, Option.none⟩)) (h4 : tmps.getD 4 undef = .pointer (some ⟨b2, 0, Option.none⟩)) {V : World} {k m : Int} {c : Value} (r0 : (loadVar 22 ⟨b, 0, Option.none⟩).run Tryz.prog V = .ok c V)
    (g1 : BlkN V b1 3 #[.int .i64 k]) (g2 : BlkN V b2 29 #[.int .i64 m]) {R : Ending → World → Prop} (hR : R (.returned (.tuple #[c, .int .i64 k, .int .i64 m])) V) {e : Exit} (he : e = .normal ∨ e = .ret) :
    bodyPostD Tryz.prog Tryz.f36 R e ⟨tmps, [{ target := .fn (.func 79) #[.pointer (some ⟨b, 0, Option.none⟩), .pointer (some ⟨b1, 0, Option.none⟩), .pointer (some ⟨b2, 0, Option.none⟩)], args := #[] }]⟩ V := by
  have key : Leaves Tryz.prog Tryz.f36 tmps R [{ target := .fn (.func 79) #[.pointer (some ⟨b, 0, Option.none⟩), .pointer (some ⟨b1, 0, Option.none⟩), .pointer (some ⟨b2, 0, Option.none⟩)], args := #[] }] .returning V := by
    refine leaves_cons (f := 79) (args := #[.pointer (some ⟨b, 0, Option.none⟩), .pointer (some ⟨b1, 0, Option.none⟩), .pointer (some ⟨b2, 0, Option.none⟩)]) (by simp) (by simp [go_sem]) ?_
    refine (catch48_idle V ⟨b, 0, Option.none⟩ ⟨b1, 0, Option.none⟩ ⟨b2, 0, Option.none⟩).mono ?_
    rintro e u' V' ⟨rfl, rfl, rfl⟩
    simp only [settle, Leaves]
    exact ⟨_, results_cells rfl h2 h3 h4 r0 (load3 g1) (load27 g2), hR⟩
  rcases he with rfl | rfl <;> exact key
/-- What Unquote takes: a quoted form that is the whole text, or where it is stuck. -/
def unqL (most : Nat) (t : L8) : Rs L8 := match quo most t with
  | .ok b [] => .ok b []
  | .ok _ (c :: r) => .no (c :: r)
  | .no r => .no r
def UnqP (s : ByteArray) (e : Ending) : Prop := match unqL s.size s.data.toList with
  | .ok b _ => e = .returned (.tuple #[.string (txtV b), .int .i64 0, .int .i64 0])
  | .no t => e = .returned (.tuple #[.string ⟨#[]⟩, .int .i64 ((s.size - t.length : Nat) : Int), .int .i64 30])
set_option maxRecDepth 100000 in
set_option maxHeartbeats 4000000 in
theorem unquote_at (s : ByteArray) (hs : s.size ≤ 140737488351232) (w : World) (n : Nat) (hn : n = w.heap.size) : Calls Tryz.prog 55 #[.string s] w fun e w' => Below n w w' ∧ UnqP s e := by
  have hmf : ∀ (fn : Fn) (first cap : Array Value) (w : World), (Instr.makeFunc fn first cap).run Tryz.prog w = .ok (.func fn first cap) w := fun _ _ _ _ => rfl
  go_enter_defers Tryz.func55, Tryz.ntmps55
  go_upto_region 3 with fail
  obtain ⟨W, hW⟩ : ∃ W, W = (((w.alloc (.cells #[.string ⟨#[]⟩] 9)).alloc (.cells #[.int .i64 0] 3)).alloc (.cells #[.int .i64 0] 29)).alloc (.cells #[.string s, .int .i64 0, .int .i64 0] 139) := ⟨_, rfl⟩
  have HB : Hid (Below n w W) := Lib.hid (by rw [hW, hn]; exact ((((Below.refl _ w).alloc (Nat.le_refl _) _).alloc (by simp) _).alloc (by simp; omega) _).alloc (by simp; omega) _)
  have HZ : Hid (BlkN W n 9 #[.string ⟨#[]⟩]) := Lib.hid (by rw [hW, hn]; exact (((BlkN.at_ rfl _ _).alloc _).alloc _).alloc _)
  have HA : Hid (BlkN W (n + 1) 3 #[.int .i64 0]) := Lib.hid (by rw [hW, hn]; exact ((BlkN.at_ (by simp) _ _).alloc _).alloc _)
  have HE : Hid (BlkN W (n + 1 + 1) 29 #[.int .i64 0]) := Lib.hid (by rw [hW, hn]; exact (BlkN.at_ (by simp) _ _).alloc _)
  have HR : Hid (Rdr W (n + 1 + 1 + 1) s 0 0) := Lib.hid (by rw [hW, hn]; exact BlkN.at_ (by simp) _ _)
  have HN := Lib.hid hn
  rw [← hW, ← hn]
  clear hW hn
  have e0 : rest s 0 = s.data.toList := rfl
  have HE0 := Lib.hid e0
  clear e0
  have CV := quoted_any s.size s 0 0 W (n + 1 + 1 + 1) HR.out (by omega) hs
  cases hE : quo s.size (rest s 0) with
  | no t =>
    rw [hE] at CV
    have HCV := Lib.hid CV
    clear CV
    go_wp2_with (first | (go_at_call 107; refine HCV.out.mono ?_; rintro e w3 ⟨hu3, j2, hj2, rfl, rfl⟩))
    refine leave16_stuck rfl rfl rfl (by omega) (by omega) (BlkN.upd hu3 HZ.out (by omega)) (BlkN.upd hu3 HA.out (by omega)) (BlkN.upd hu3 HE.out (by omega)) fun V' hb => ?_
    have hn := HN.out
    have hb3 := hu3.toBelow (a := w) (by omega) (hn ▸ HB.out)
    rw [← hn] at hb3
    refine ⟨hb3.trans hb, ?_⟩
    unfold UnqP unqL
    rw [← HE0.out, hE]
    simp only [rest_len]
    rw [show s.size - (s.size - j2) = j2 by omega]
  | ok b t =>
    rw [hE] at CV
    have HCV := Lib.hid CV
    clear CV
    go_upto_region 4 with (first | (go_at_call 107; refine HCV.out.mono ?_; rintro e w3 ⟨hu3, j2, hj, hj2, rfl, rfl, hr3⟩; have hz3 := BlkN.upd hu3 HZ.out (by omega); have hVp := hz3.lt; have d0 := hz3.cell 0 rfl; have x0 := hz3.free 0; have HZ3 := Lib.hid hz3; have HR3 := Lib.hid hr3; have HU3 := Lib.hid hu3; clear hz3 hr3 hu3))
    obtain ⟨V, hV⟩ : ∃ V, V = w3.setCell ⟨n, 0, Option.none⟩ (.string (txtV b)) := ⟨_, rfl⟩
    have HB3 : Hid (BlkN V n 9 #[.string (txtV b)]) := Lib.hid (by rw [hV]; simpa using BlkN.set HZ3.out 0 (.string (txtV b)))
    have HA4 : Hid (BlkN V (n + 1) 3 #[.int .i64 0]) := Lib.hid (by rw [hV]; exact (BlkN.upd HU3.out HA.out (by omega)).setOther (q := ⟨n, 0, Option.none⟩) (by show n + 1 ≠ n; omega) _)
    have HE4 : Hid (BlkN V (n + 1 + 1) 29 #[.int .i64 0]) := Lib.hid (by rw [hV]; exact (BlkN.upd HU3.out HE.out (by omega)).setOther (q := ⟨n, 0, Option.none⟩) (by show n + 1 + 1 ≠ n; omega) _)
    have hr4 : Rdr V (n + 1 + 1 + 1) s j2 0 := by rw [hV]; exact BlkN.setOther HR3.out (q := ⟨n, 0, Option.none⟩) (by show n + 1 + 1 + 1 ≠ n; omega) _
    have hn := HN.out
    have hb3 := HU3.out.toBelow (a := w) (by omega) (hn ▸ HB.out)
    rw [← hn] at hb3
    have HB4 : Hid (Below n w V) := Lib.hid (by rw [hV]; exact hb3.setCell (p := ⟨n, 0, Option.none⟩) (Nat.le_refl _) _)
    have HR4 := Lib.hid hr4
    rw [← hV]
    have hp4 := hr4.lt
    have c1 := hr4.cell 1 rfl
    clear hn hb3 hr4 hV d0 x0 hVp
    by_cases hj3 : j2 < s.size
    · go_wp2_with (first | (go_at_call 81; refine (wrong_any s j2 0 _ (n + 1 + 1 + 1) HR4.out).mono ?_; rintro e w4 ⟨hb4, rfl⟩))
      have hb5 : Below V.heap.size V w4 := hb4
      refine leave16_stuck rfl rfl rfl (by omega) (by omega) (BlkN.below HB3.out hb5) (BlkN.below HA4.out hb5) (BlkN.below HE4.out hb5) fun V' hb => ?_
      refine ⟨HB4.out.trans ((hb5.mono (by omega)).trans hb), ?_⟩
      unfold UnqP unqL
      rw [← HE0.out, hE, rest_cons hj3]
      simp only [List.length_cons, rest_len]
      rw [show s.size - (s.size - (j2 + 1) + 1) = j2 by omega]
    · have hk0 := HB3.out.cell 0 rfl
      have y0 := HB3.out.free 0
      have a0 := HA4.out.cell 0 rfl
      have b0 := HE4.out.cell 0 rfl
      have fa := HA4.out.free 0
      have fb := HE4.out.free 0
      have g0 := HB3.out.lt
      have g1 := HA4.out.lt
      have g2 := HE4.out.lt
      go_wp2_with fail
      have k0 := ((BlkN.set HB3.out 0 (.string (txtV b))).setOther (q := ⟨n + 1, 0, Option.none⟩) (by show n ≠ n + 1; omega) (.int .i64 0)).setOther (q := ⟨n + 1 + 1, 0, Option.none⟩) (by show n ≠ n + 1 + 1; omega) (.int .i64 0)
      have k1 := (BlkN.set (HA4.out.setOther (q := ⟨n, 0, Option.none⟩) (by show n + 1 ≠ n; omega) (.string (txtV b))) 0 (.int .i64 0)).setOther (q := ⟨n + 1 + 1, 0, Option.none⟩) (by show n + 1 ≠ n + 1 + 1; omega) (.int .i64 0)
      have k2 := BlkN.set ((HE4.out.setOther (q := ⟨n, 0, Option.none⟩) (by show n + 1 + 1 ≠ n; omega) (.string (txtV b))).setOther (q := ⟨n + 1, 0, Option.none⟩) (by show n + 1 + 1 ≠ n + 1; omega) (.int .i64 0)) 0 (.int .i64 0)
      refine leave16_idle rfl rfl rfl (load9 (by simpa using k0)) (by simpa using k1) (by simpa using k2) ⟨?_, ?_⟩ (.inr rfl)
      · exact ((HB4.out.setCell (p := ⟨n, 0, Option.none⟩) (Nat.le_refl _) _).setCell (p := ⟨n + 1, 0, Option.none⟩) (by show n ≤ n + 1; omega) _).setCell (p := ⟨n + 1 + 1, 0, Option.none⟩) (by show n ≤ n + 1 + 1; omega) _
      · unfold UnqP unqL
        rw [← HE0.out, hE, rest_end (by omega)]
theorem unquote_any (s : ByteArray) (hs : s.size ≤ 140737488351232) (w : World) : Calls Tryz.prog 55 #[.string s] w fun e w' => Below w.heap.size w w' ∧ UnqP s e := unquote_at s hs w _ rfl
end Go.Proofs.YtjmelamllapmiaaGreatDoor
