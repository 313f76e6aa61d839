/- package word: Read, with its deferred closure that recovers. -/
import Derived.Test.YtjmelamllapmiaaGreatDoorH
import Derived.Tactics
import Derived.Tactics2
import Derived.Defers
import Derived.Recover
namespace Go.Proofs.YtjmelamllapmiaaGreatDoor
open Go.RowKit

theorem assert73 (k : Int) (V : World) : (Instr.typeAssert (.iface 95 (.int .i64 k)) 20 95 true).run Tryz.prog V = .ok (.tuple #[.int .i64 k, .bool true]) V := by
  unfold Instr.typeAssert
  simp [go_sem]
set_option maxRecDepth 100000 in
theorem catch39 (k : Int) (b b1 b2 : Nat) (hb1 : b < b1) (hb2 : b1 < b2) (older : List PanicEntry) (V : World) (c0 c1 c2 c3 c4 : Value) (x y : Value) (h0 : BlkN V b 27 #[c0, c1, c2, c3, c4]) (h1 : BlkN V b1 3 #[x]) (h2 : BlkN V b2 29 #[y]) :
    CallsD Tryz.prog 104 #[.pointer (some ⟨b, 0, Option.none⟩), .pointer (some ⟨b1, 0, Option.none⟩), .pointer (some ⟨b2, 0, Option.none⟩)] (.panicking ({ v := .iface 95 (.int .i64 k), recovered := false } :: older)) V fun e u' V' =>
      e = .returned (.tuple #[]) ∧ u' = .panicking ({ v := .iface 95 (.int .i64 k), recovered := true } :: older) ∧ Below b V V' ∧ BlkN V' b 27 zeroV ∧ BlkN V' b1 3 #[.int .i64 k] ∧ BlkN V' b2 29 #[.int .i64 30] := by
  have n1 : b ≠ b1 := by omega
  have n2 : b ≠ b2 := by omega
  have n3 : b1 ≠ b2 := by omega
  refine callsD_of_wpS Tryz.func104 rfl fun c₀ cs hu => ?_
  apply wpS_seq
  apply wpS_region
  simp [wpOpsS, go_sem, recoverD, hu, Tryz.ntmps104, Exit.thenS, Array.replicate_succ]
  refine wpS_of_wp ?_
  have d0 := h0.cell 0 rfl
  have d1 := h0.cell 1 rfl
  have d2 := h0.cell 2 rfl
  have d3 := h0.cell 3 rfl
  have d4 := h0.cell 4 rfl
  have e0 := h1.cell 0 rfl
  have f0 := h2.cell 0 rfl
  have x0 := h0.free 0
  have x1 := h0.free 1
  have x2 := h0.free 2
  have x3 := h0.free 3
  have x4 := h0.free 4
  have y0 := h1.free 0
  have z0 := h2.free 0
  have l0 := h0.lt
  have l1 := h1.lt
  have l2 := h2.lt
  have ha := assert73 k V
  go_wp2_with fail
  have hu := (((((Upd.refl b V).set 0 (.int .u8 0)).set 1 (.int .i64 0)).set 2 (.string ⟨#[]⟩)).set 3 (.slice Option.none 0 0)).set 4 (.int .i64 0)
  have hb : ∀ (u1 u2 : Value), Below b V (((((((V.setCell ⟨b, 0, Option.none⟩ (.int .u8 0)).setCell ⟨b, 1, Option.none⟩ (.int .i64 0)).setCell ⟨b, 2, Option.none⟩ (.string ⟨#[]⟩)).setCell ⟨b, 3, Option.none⟩ (.slice Option.none 0 0)).setCell ⟨b, 4, Option.none⟩ (.int .i64 0)).setCell ⟨b1, 0, Option.none⟩ u1).setCell ⟨b2, 0, Option.none⟩ u2) := fun u1 u2 =>
    (((((((Below.refl b V).setCell (p := ⟨b, 0, Option.none⟩) (Nat.le_refl _) _).setCell (p := ⟨b, 1, Option.none⟩) (Nat.le_refl _) _).setCell (p := ⟨b, 2, Option.none⟩) (Nat.le_refl _) _).setCell (p := ⟨b, 3, Option.none⟩) (Nat.le_refl _) _).setCell (p := ⟨b, 4, Option.none⟩) (Nat.le_refl _) _).setCell (p := ⟨b1, 0, Option.none⟩) (by show b ≤ b1; omega) _).setCell (p := ⟨b2, 0, Option.none⟩) (by show b ≤ b2; omega) _
  have hc0 := (((((BlkN.set h0 0 (.int .u8 0)).set 1 (.int .i64 0)).set 2 (.string ⟨#[]⟩)).set 3 (.slice Option.none 0 0)).set 4 (.int .i64 0))
  have g0 := (hc0.setOther (q := ⟨b1, 0, Option.none⟩) n1 (.int .i64 k)).setOther (q := ⟨b2, 0, Option.none⟩) n2 (.int .i64 30)
  have hc1 := hu.block b1 h1.lt n1.symm
  have hc2 := hu.block b2 h2.lt n2.symm
  have g1 := (BlkN.set (show BlkN _ b1 3 #[x] from hc1.trans h1) 0 (.int .i64 k)).setOther (q := ⟨b2, 0, Option.none⟩) n3 (.int .i64 30)
  have g2 := BlkN.set (BlkN.setOther (show BlkN _ b2 29 #[y] from hc2.trans h2) (q := ⟨b1, 0, Option.none⟩) n3.symm (.int .i64 k)) 0 (.int .i64 30)
  simp only [bodyPostS, results, Tryz.results104]
  simp [go_sem]
  exact ⟨hb _ _, by simpa [zeroV] using g0, by simpa using g1, by simpa using g2⟩
theorem catch39_idle (V : World) (p q r : Addr) :
    CallsD Tryz.prog 104 #[.pointer (some p), .pointer (some q), .pointer (some r)] .returning V fun e u' V' => e = .returned (.tuple #[]) ∧ u' = .returning ∧ V' = V := by
  refine callsD_of_wpS Tryz.func104 rfl fun c₀ cs hu => ?_
  apply wpS_seq
  apply wpS_region
  simp [wpOpsS, go_sem, recoverD, hu, Tryz.ntmps104, Exit.thenS, Array.replicate_succ]
  refine wpS_of_wp ?_
  go_wp2_with fail
  cases c₀
  simp_all [bodyPostS, results, Tryz.results104]
theorem set5_any {V : World} {b : Nat} {d0 d1 d2 d3 d4 : Value} (h : BlkN V b 27 #[d0, d1, d2, d3, d4]) (c0 c1 c2 c3 c4 : Value) :
    ∃ V', ((((V.setCell ⟨b, 0, Option.none⟩ c0).setCell ⟨b, 1, Option.none⟩ c1).setCell ⟨b, 2, Option.none⟩ c2).setCell ⟨b, 3, Option.none⟩ c3).setCell ⟨b, 4, Option.none⟩ c4 = V' ∧ BlkN V' b 27 #[c0, c1, c2, c3, c4] ∧ But b V V' := by
  have hu := (((((Upd.refl b V).set 0 c0).set 1 c1).set 2 c2).set 3 c3).set 4 c4
  refine ⟨_, rfl, ?_, ⟨hu.os, hu.tape, hu.output, by simp [World.setCell], fun k hk => ?_⟩⟩
  · have := ((((BlkN.set h 0 c0).set 1 c1).set 2 c2).set 3 c3).set 4 c4
    simpa using this
  · exact (Below.heap_setCell _ _ _ _ hk).trans ((Below.heap_setCell _ _ _ _ hk).trans ((Below.heap_setCell _ _ _ _ hk).trans ((Below.heap_setCell _ _ _ _ hk).trans (Below.heap_setCell _ _ _ _ hk))))
/-- What Read reads: a value that is the whole text, or where it is stuck. -/
def readL (t : L8) : Rs Va := match rdV 16 t 0 with
  | .ok x [] => .ok x.1 []
  | .ok _ (c :: r) => .no (c :: r)
  | .no r => .no r
def ReadP (s : ByteArray) (n : Nat) (e : Ending) (w' : World) : Prop := match readL s.data.toList with
  | .ok x _ => ∃ v, e = .returned (.tuple #[v, .int .i64 0, .int .i64 0]) ∧ IsVaR w' (Own34 w' n) v x
  | .no t => e = .returned (.tuple #[.agg zeroV, .int .i64 ((s.size - t.length : Nat) : Int), .int .i64 30])
theorem rest_len (s : ByteArray) (j : Nat) : (rest s j).length = s.size - j := by simp [rest]
theorem results_cell3 {P : Program} {w : World} {fn : Func} {s0 s1 s2 : Tmp} {T T1 T2 Tb U1 U2 : TypeId} (hr : fn.results = #[.cell s0 T, .cell s1 T1, .cell s2 T2]) {fs : Array Field} (ht : P.underlying T = some (.struct fs)) {i : TypeInfo} (hi : P.info? T = some i) {tmps : Array Value} {b b1 b2 : Nat}
    (hp : tmps.getD s0 undef = .pointer (some ⟨b, 0, Option.none⟩)) (hp1 : tmps.getD s1 undef = .pointer (some ⟨b1, 0, Option.none⟩)) (hp2 : tmps.getD s2 undef = .pointer (some ⟨b2, 0, Option.none⟩))
    {cs : Array Value} (hB : BlkN w b Tb cs) (hn : cs.size = i.size) {u1 u2 : Value} (_h1 : BlkN w b1 U1 #[u1]) (_h2 : BlkN w b2 U2 #[u2]) (r1 : (loadVar T1 ⟨b1, 0, Option.none⟩).run P w = .ok u1 w) (r2 : (loadVar T2 ⟨b2, 0, Option.none⟩).run P w = .ok u2 w) :
    (results fn tmps).run P w = .ok (.tuple #[.agg cs, u1, u2]) w := by
  have h := run_loadVar_blk (P := P) ht hi hB hn
  have hp' : tmps[s0]?.getD undef = .pointer (some ⟨b, 0, Option.none⟩) := by simpa using hp
  have hp1' : tmps[s1]?.getD undef = .pointer (some ⟨b1, 0, Option.none⟩) := by simpa using hp1
  have hp2' : tmps[s2]?.getD undef = .pointer (some ⟨b2, 0, Option.none⟩) := by simpa using hp2
  simp only [results, hr]
  simp [hp', hp1', hp2', asAddr, h, r1, r2, Result.andThen]
theorem load3 {w : World} {b : Nat} {k : Int} (h : BlkN w b 3 #[.int .i64 k]) : (loadVar 3 ⟨b, 0, Option.none⟩).run Tryz.prog w = .ok (.int .i64 k) w := by
  have := h.cell 0 (v := .int .i64 k) rfl
  simp [go_sem, this]
theorem load27 {w : World} {b : Nat} {k : Int} (h : BlkN w b 29 #[.int .i64 k]) : (loadVar 29 ⟨b, 0, Option.none⟩).run Tryz.prog w = .ok (.int .i64 k) w := by
  have := h.cell 0 (v := .int .i64 k) rfl
  simp [go_sem, this]
/-- Behind a stuck reader: the closure recovers, and Read returns. -/
theorem leave12_stuck {tmps : Array Value} {b b1 b2 : Nat} (h2 : tmps.getD 2 undef = .pointer (some ⟨b, 0, Option.none⟩)) (h3 : tmps.getD 3 undef = .pointer (some ⟨b1, 0, Option.none⟩)) (h4 : tmps.getD 4 undef = .pointer (some ⟨b2, 0, Option.none⟩)) (hb1 : b < b1) (hb2 : b1 < b2) {V : World} {k : Int} {c0 c1 c2 c3 c4 x y : Value}
    (g0 : BlkN V b 27 #[c0, c1, c2, c3, c4]) (g1 : BlkN V b1 3 #[x]) (g2 : BlkN V b2 29 #[y]) {R : Ending → World → Prop} (hR : ∀ V', Below b V V' → R (.returned (.tuple #[.agg zeroV, .int .i64 k, .int .i64 30])) V') :
    bodyPostD Tryz.prog Tryz.f54 R (Exit.panic [{ v := .iface 95 (.int .i64 k), recovered := false }]) ⟨tmps, [{ target := .fn (.func 104) #[.pointer (some ⟨b, 0, Option.none⟩), .pointer (some ⟨b1, 0, Option.none⟩), .pointer (some ⟨b2, 0, Option.none⟩)], args := #[] }]⟩ V := by
  obtain ⟨i0, hi0, hz0, hz1, hz2⟩ := info_parts info34
  refine leaves_cons (f := 104) (args := #[.pointer (some ⟨b, 0, Option.none⟩), .pointer (some ⟨b1, 0, Option.none⟩), .pointer (some ⟨b2, 0, Option.none⟩)]) (by simp) (by simp [go_sem]) ?_
  refine (catch39 k b b1 b2 hb1 hb2 [] V c0 c1 c2 c3 c4 x y g0 g1 g2).mono ?_
  rintro e u' V' ⟨rfl, rfl, hb, k0, k1, k2⟩
  simp only [settle, List.dropWhile_nil, Leaves]
  exact ⟨_, results_cell3 rfl Tryz.underlying27 hi0 h2 h3 h4 k0 (by rw [hz1]; rfl) k1 k2 (load3 k1) (load27 k2), hR V' hb⟩
theorem leave12_idle {tmps : Array Value} {b b1 b2 : Nat} (h2 : tmps.getD 2 undef = .pointer (some ⟨b, 0, Option.none⟩)) (h3 : tmps.getD 3 undef = .pointer (some ⟨b1, 0, Option.none⟩)) (h4 : tmps.getD 4 undef = .pointer (some ⟨b2, 0, Option.none⟩)) {V : World} {k m : Int} {cs : Array Value} (hcs : cs.size = 5)
    (g0 : BlkN V b 27 cs) (g1 : BlkN V b1 3 #[.int .i64 k]) (g2 : BlkN V b2 29 #[.int .i64 m]) {R : Ending → World → Prop} (hR : R (.returned (.tuple #[.agg cs, .int .i64 k, .int .i64 m])) V) {e : Exit} (he : e = .normal ∨ e = .ret) :
    bodyPostD Tryz.prog Tryz.f54 R e ⟨tmps, [{ target := .fn (.func 104) #[.pointer (some ⟨b, 0, Option.none⟩), .pointer (some ⟨b1, 0, Option.none⟩), .pointer (some ⟨b2, 0, Option.none⟩)], args := #[] }]⟩ V := by
  obtain ⟨i0, hi0, hz0, hz1, hz2⟩ := info_parts info34
  have key : Leaves Tryz.prog Tryz.f54 tmps R [{ target := .fn (.func 104) #[.pointer (some ⟨b, 0, Option.none⟩), .pointer (some ⟨b1, 0, Option.none⟩), .pointer (some ⟨b2, 0, Option.none⟩)], args := #[] }] .returning V := by
    refine leaves_cons (f := 104) (args := #[.pointer (some ⟨b, 0, Option.none⟩), .pointer (some ⟨b1, 0, Option.none⟩), .pointer (some ⟨b2, 0, Option.none⟩)]) (by simp) (by simp [go_sem]) ?_
    refine (catch39_idle V ⟨b, 0, Option.none⟩ ⟨b1, 0, Option.none⟩ ⟨b2, 0, Option.none⟩).mono ?_
    rintro e u' V' ⟨rfl, rfl, rfl⟩
    simp only [settle, Leaves]
    exact ⟨_, results_cell3 rfl Tryz.underlying27 hi0 h2 h3 h4 g0 (by rw [hz1, hcs]) g1 g2 (load3 g1) (load27 g2), hR⟩
  rcases he with rfl | rfl <;> exact key
set_option maxRecDepth 100000 in
set_option maxHeartbeats 4000000 in
theorem read_at (s : ByteArray) (hs : s.size ≤ 140737488351232) (w : World) (n : Nat) (hn : n = w.heap.size) : Calls Tryz.prog 54 #[.string s] w fun e w' => Below n w w' ∧ ReadP s n e w' := by
  have hmf : ∀ (fn : Fn) (first cap : Array Value) (w : World), (Instr.makeFunc fn first cap).run Tryz.prog w = .ok (.func fn first cap) w := fun _ _ _ _ => rfl
  go_enter_defers Tryz.func54, Tryz.ntmps54
  go_upto_region 3 with fail
  obtain ⟨i0, hi0, hz0, hz1, hz2⟩ := info_parts info34
  obtain ⟨W, hW⟩ : ∃ W, W = (((w.alloc (.cells #[.int .u8 0, .int .i64 0, .string ⟨#[]⟩, .slice Option.none 0 0, .int .i64 0] 27)).alloc (.cells #[.int .i64 0] 3)).alloc (.cells #[.int .i64 0] 29)).alloc (.cells #[.string s, .int .i64 0, .int .i64 0] 139) := ⟨_, rfl⟩
  have HB : Hid (Below n w W) := Lib.hid (by rw [hW, hn]; exact ((((Below.refl _ w).alloc (Nat.le_refl _) _).alloc (by simp) _).alloc (by simp; omega) _).alloc (by simp; omega) _)
  have HZ : Hid (BlkN W n 27 #[.int .u8 0, .int .i64 0, .string ⟨#[]⟩, .slice Option.none 0 0, .int .i64 0]) := Lib.hid (by rw [hW, hn]; exact (((BlkN.at_ rfl _ _).alloc _).alloc _).alloc _)
  have HA : Hid (BlkN W (n + 1) 3 #[.int .i64 0]) := Lib.hid (by rw [hW, hn]; exact ((BlkN.at_ (by simp) _ _).alloc _).alloc _)
  have HE : Hid (BlkN W (n + 1 + 1) 29 #[.int .i64 0]) := Lib.hid (by rw [hW, hn]; exact (BlkN.at_ (by simp) _ _).alloc _)
  have HR : Hid (Rdr W (n + 1 + 1 + 1) s 0 0) := Lib.hid (by rw [hW, hn]; exact BlkN.at_ (by simp) _ _)
  have HN := Lib.hid hn
  rw [← hW, ← hn]
  clear hW hn
  have CV := value_any 16 (by omega) s 0 0 W (n + 1 + 1 + 1) HR.out (by omega) hs (by omega)
  have e16 : (16 : Int) - ((16 : Nat) : Int) = 0 := by decide
  rw [e16] at CV
  cases hE : rdV 16 (rest s 0) 0 with
  | no t =>
    rw [hE] at CV
    have HCV := Lib.hid CV
    clear CV
    go_wp2_with (first | (go_at_call 105; refine HCV.out.mono ?_; rintro e w3 ⟨hu3, j2, hj2, rfl, rfl⟩))
    refine leave12_stuck rfl rfl rfl (by omega) (by omega) (BlkN.upd hu3 HZ.out (by omega)) (BlkN.upd hu3 HA.out (by omega)) (BlkN.upd hu3 HE.out (by omega)) fun V' hb => ?_
    have hn := HN.out
    have hb3 := hu3.toBelow (a := w) (by omega) (hn ▸ HB.out)
    rw [← hn] at hb3
    refine ⟨hb3.trans hb, ?_⟩
    have : rest s 0 = s.data.toList := rfl
    unfold ReadP readL
    rw [← this, hE]
    simp only [rest_len]
    rw [show s.size - (s.size - j2) = j2 by omega]
  | ok y t =>
    obtain ⟨x, m⟩ := y
    rw [hE] at CV
    have HCV := Lib.hid CV
    clear CV
    go_upto_region 4 with (first | (go_at_call 105; refine HCV.out.mono ?_; rintro e w3 ⟨hu3, j2, hj, hj2, rfl, v, rfl, hv, hr3⟩; obtain ⟨k3, n3, s3, A3, len3, cap3, r3, rfl⟩ := hv.shape; have hz3 := BlkN.upd hu3 HZ.out (by omega); have hVp := hz3.lt; have d0 := hz3.cell 0 rfl; have d1 := hz3.cell 1 rfl; have d2 := hz3.cell 2 rfl; have d3 := hz3.cell 3 rfl; have d4 := hz3.cell 4 rfl; have x0 := hz3.free 0; have x1 := hz3.free 1; have x2 := hz3.free 2; have x3 := hz3.free 3; have x4 := hz3.free 4; have HX3 := Lib.hid hv; have HZ3 := Lib.hid hz3; have HR3 := Lib.hid hr3; have HU3 := Lib.hid hu3; clear hz3 hr3 hu3 hv))
    obtain ⟨V, hV, hB3, hbut3⟩ := set5_done HZ3.out (.int .u8 k3) (.int .i64 n3) (.string s3) (.slice A3 len3 cap3) (.int .i64 r3)
    rw [hV]
    clear hV d0 d1 d2 d3 d4 x0 x1 x2 x3 x4 hVp
    have hr4 := HR3.out.but hbut3 (by omega)
    have HA4 := Lib.hid (show BlkN V (n + 1) 3 #[.int .i64 0] from (hbut3.other _ (by omega)).trans (BlkN.upd HU3.out HA.out (by omega)))
    have HE4 := Lib.hid (show BlkN V (n + 1 + 1) 29 #[.int .i64 0] from (hbut3.other _ (by omega)).trans (BlkN.upd HU3.out HE.out (by omega)))
    have hn := HN.out
    have hb3 := HU3.out.toBelow (a := w) (by omega) (hn ▸ HB.out)
    rw [← hn] at hb3
    have HB4 : Hid (Below n w V) := Lib.hid (hbut3.below (Nat.le_refl _) hb3)
    have HR4 := Lib.hid hr4
    have HB3 := Lib.hid hB3
    have HBut := Lib.hid hbut3
    have hp4 := hr4.lt
    have c1 := hr4.cell 1 rfl
    clear hn hb3 hr4 hB3 hbut3
    by_cases hj3 : j2 < s.size
    · go_wp2_with (first | (go_at_call 81; refine (wrong_any s j2 m _ (n + 1 + 1 + 1) HR4.out).mono ?_; rintro e w4 ⟨hb4, rfl⟩))
      have hb5 : Below V.heap.size V w4 := hb4
      refine leave12_stuck rfl rfl rfl (by omega) (by omega) (BlkN.below HB3.out hb5) (BlkN.below HA4.out hb5) (BlkN.below HE4.out hb5) fun V' hb => ?_
      refine ⟨HB4.out.trans ((hb5.mono (by omega)).trans hb), ?_⟩
      have : rest s 0 = s.data.toList := rfl
      unfold ReadP readL
      rw [← this, hE, rest_cons hj3]
      simp only [List.length_cons, rest_len]
      rw [show s.size - (s.size - (j2 + 1) + 1) = j2 by omega]
    · have hk0 := HB3.out.cell 0 rfl
      have hk1 := HB3.out.cell 1 rfl
      have hk2 := HB3.out.cell 2 rfl
      have hk3 := HB3.out.cell 3 rfl
      have hk4 := HB3.out.cell 4 rfl
      have y0 := HB3.out.free 0
      have y1 := HB3.out.free 1
      have y2 := HB3.out.free 2
      have y3 := HB3.out.free 3
      have y4 := HB3.out.free 4
      have a0 := HA4.out.cell 0 rfl
      have b0 := HE4.out.cell 0 rfl
      have fa := HA4.out.free 0
      have fb := HE4.out.free 0
      have g0 := HB3.out.lt
      have g1 := HA4.out.lt
      have g2 := HE4.out.lt
      go_wp2_with fail
      obtain ⟨V1, hV1, hB5, hbut5⟩ := set5_any HB3.out (.int .u8 k3) (.int .i64 n3) (.string s3) (.slice A3 len3 cap3) (.int .i64 r3)
      rw [hV1]
      have k1 := BlkN.set (show BlkN V1 (n + 1) 3 #[.int .i64 0] from (hbut5.other _ (by omega)).trans HA4.out) 0 (.int .i64 0)
      have k2 := (show BlkN V1 (n + 1 + 1) 29 #[.int .i64 0] from (hbut5.other _ (by omega)).trans HE4.out)
      have k3' := BlkN.set (k2.setOther (q := ⟨n + 1, 0, Option.none⟩) (by show n + 1 + 1 ≠ n + 1; omega) (.int .i64 0)) 0 (.int .i64 0)
      have k1' := BlkN.setOther (by simpa using k1) (q := ⟨n + 1 + 1, 0, Option.none⟩) (by show n + 1 ≠ n + 1 + 1; omega) (.int .i64 0)
      have k0' := (hB5.setOther (q := ⟨n + 1, 0, Option.none⟩) (by show n ≠ n + 1; omega) (.int .i64 0)).setOther (q := ⟨n + 1 + 1, 0, Option.none⟩) (by show n ≠ n + 1 + 1; omega) (.int .i64 0)
      refine leave12_idle rfl rfl rfl (by rfl) k0' k1' (by simpa using k3') ⟨?_, ?_⟩ (.inr rfl)
      · exact ((hbut5.below (Nat.le_refl _) HB4.out).setCell (p := ⟨n + 1, 0, Option.none⟩) (by show n ≤ n + 1; omega) _).setCell (p := ⟨n + 1 + 1, 0, Option.none⟩) (by show n ≤ n + 1 + 1; omega) _
      · have e0 : rest s 0 = s.data.toList := rfl
        unfold ReadP readL
        rw [← e0, hE, rest_end (by omega)]
        have hWn : n + 1 + 1 + 1 < W.heap.size := HR.out.lt
        have hk : ∀ b o, Own34 w3 W.heap.size b o → ((V1.setCell ⟨n + 1, 0, Option.none⟩ (.int .i64 0)).setCell ⟨n + 1 + 1, 0, Option.none⟩ (.int .i64 0)).heap[b]? = w3.heap[b]? := fun b o hr => by
          have hb := hr.1
          exact (Below.heap_setCell _ _ _ _ (by show b ≠ n + 1 + 1; omega)).trans ((Below.heap_setCell _ _ _ _ (by show b ≠ n + 1; omega)).trans ((hbut5.other b (by omega)).trans (HBut.out.other b (by omega))))
        exact ⟨_, rfl, (HX3.out.keep hk).mono fun b o hr => ⟨by have := hr.1; omega, hr.2.1, let ⟨cur, hc⟩ := hr.2.2; ⟨cur, (hk b o hr).trans hc⟩⟩⟩
theorem read_any (s : ByteArray) (hs : s.size ≤ 140737488351232) (w : World) : Calls Tryz.prog 54 #[.string s] w fun e w' => Below w.heap.size w w' ∧ ReadP s w.heap.size e w' := read_at s hs w _ rfl
end Go.Proofs.YtjmelamllapmiaaGreatDoor
