/- From. -/
import Derived.Test.YthafojadcodkoaaUf
import Derived.Test.YthafojadcodkoaaTu
import Derived.Test.YthafojadcodkoaaTn
namespace Go.RegT
open Go Go.RowKit
variable {P : Program} {ops : Array Oper} {Q : Exit → Act → World → Prop} {T : Nat → Bool} {S : World → Prop}
theorem seqM_skip {rest : List (Bool × Nat)} {i : Nat} {oi : Oper} {a : Act} {w : World} (hS : S w) (hi : ops[i]? = some oi) (hQ : ∀ c a w, Q (.panic c) (a.put oi.dst undef) w → Q (.panic c) a w) (hw : Region.wanted oi (yielded ops a.tmps) = false)
    (h : seqM P ops Q T S rest (a.put oi.dst undef) w) : seqM P ops Q T S ((true, i) :: rest) a w := ⟨hS, oi, undef, hi, .inr ⟨hw, rfl⟩, hQ, h⟩
theorem seqM_skipH {rest : List (Bool × Nat)} {i : Nat} {o : Oper} {a : Act} {w : World} (hi : ops[i]? = some o) (hw : Region.wanted o (yielded ops a.tmps) = false) (hS : S w)
    (h : seqM P ops Q T S rest (a.put o.dst undef) w) : seqM P ops Q T S ((false, i) :: rest) a w := by
  show wpOp P ops Q i _ a w
  unfold wpOp
  simp only [hi]
  rw [if_neg (by rw [hw]; decide)]
  exact ⟨fun _ => hS, h⟩
end Go.RegT
namespace Go.Proofs.Ythafojadcodkoaa
open Go.RowKit Go.ChangeMaps

abbrev ints (l : List Int) : List Value := l.map (Value.int .i64)
/-- An api.World that was handed in. -/
structure WorldA (w : World) (c0 c1 c2 c4 : Value) (ps cs ms : List Int) (xs : List (Int × WV × Pt)) : Prop where
  par : RowA w c0 (ints ps)
  cut : RowA w c1 (ints cs)
  mad : RowA w c4 (ints ms)
  thg : ∃ A cap, c2 = .slice A xs.length cap ∧ xs.length ≤ cap ∧ xs.length * 200 ≤ 140737488351232 ∧ ∀ (j : Nat) (h : j < xs.length), ∃ b o, A = some ⟨b, o, Option.none⟩ ∧ b < w.heap.size ∧ At w b (o + j * 17) (.int .i64 xs[j].1 :: xs[j].2.1.arr.toList) ∧ IsWh w (fun b _ => b < w.heap.size) xs[j].2.1 xs[j].2.2
theorem RowA.get {w : World} {v : Value} {l : List Int} (h : RowA w v (ints l)) (j : Nat) (hj : j < l.length) : ∃ b o cap, v = .slice (some ⟨b, o, Option.none⟩) l.length cap ∧ l.length ≤ cap ∧ b < w.heap.size ∧ w.cell? ⟨b, o + j, Option.none⟩ = some (.int .i64 l[j]) := by
  obtain ⟨A, cap, rfl, hc, hn, hl, h1, hr⟩ := h
  cases A with
  | none =>
    have := (hn rfl).1
    simp [ints] at this
    subst this
    simp at hj
  | some ad =>
    obtain ⟨b, o, rfl, hb, hcl⟩ := hr ad rfl j (.int .i64 l[j]) (by simp [hj])
    exact ⟨b, o, cap, by simp, by simpa using hc, hb, hcl⟩
theorem RowA.slice {w : World} {v : Value} {l : List Int} (h : RowA w v (ints l)) : ∃ A cap, v = .slice A l.length cap ∧ l.length ≤ cap ∧ l.length * 8 ≤ 140737488351232 := by
  obtain ⟨A, cap, rfl, hc, hn, hl, h1, hr⟩ := h
  exact ⟨A, cap, by simp, by simpa using hc, by simpa using hl⟩
theorem RowA.below {w w' : World} {v : Value} {cs : List Value} (h : RowA w v cs) (hb : Below w.heap.size w w') : RowA w' v cs := by
  obtain ⟨A, cap, rfl, hc, hn, hl, h1, hr⟩ := h
  refine ⟨A, cap, rfl, hc, hn, hl, h1, fun ad ha j u hu => ?_⟩
  obtain ⟨b, o, rfl, hbw, hcl⟩ := hr ad ha j u hu
  exact ⟨b, o, rfl, Nat.lt_of_lt_of_le hbw hb.size, (hb.cell (p := ⟨b, o + j, Option.none⟩) hbw).trans hcl⟩
/-- A block of whole numbers. -/
def IntsB (w : World) (b n K : Nat) : Prop := ∃ cur : Array Value, BlkN w b 3 cur ∧ cur.size = n ∧ ∀ (j : Nat) (u : Value), cur[j]? = some u → ∃ m : Int, u = .int .i64 m ∧ 0 ≤ m ∧ m ≤ K
theorem IntsB.mono {w : World} {b n K K' : Nat} (h : IntsB w b n K) (hk : K ≤ K') : IntsB w b n K' := let ⟨c, h1, h2, h3⟩ := h; ⟨c, h1, h2, fun j u hu => let ⟨m, h4, h5, h6⟩ := h3 j u hu; ⟨m, h4, h5, by omega⟩⟩
def madeI (n : Nat) : Array Value := madeCells #[Value.int .i64 0] (n * 1)
theorem make23 (n : Nat) (hn : n ≤ 1000) (w : World) :
    (Instr.makeSlice 23 (.int .i64 (n : Int)) (.int .i64 (n : Int))).run Try.prog w = .ok (.slice (some ⟨w.heap.size, 0, Option.none⟩) n n) (w.alloc (.cells (madeI n) 3)) := by
  obtain ⟨i0, hi, hz0, hz1, hz2⟩ := info_parts info3
  have h := run_make_rowN (P := Try.prog) 23 3 i0 _ Try.underlying23 hi hz0 .i64 .i64 n n (Nat.le_refl _) (by rw [hz2]; omega) (by omega) w
  rw [hz1] at h
  exact h
theorem madeI_ints (w : World) (n : Nat) : IntsB (w.alloc (.cells (madeI n) 3)) w.heap.size n 0 := by
  refine ⟨madeI n, BlkN.at_ rfl _ _, by unfold madeI; rw [size_madeCells, Nat.mul_one], fun j u hu => ⟨0, ?_, by omega, by omega⟩⟩
  unfold madeI madeCells at hu
  rw [Array.getElem?_map] at hu
  cases h : (Array.range (n * 1))[j]? with
  | none => rw [h] at hu; cases hu
  | some x =>
    rw [h] at hu
    simp only [Option.map_some, Option.some.injEq] at hu
    rw [← hu]
    simp [Nat.mod_one]
theorem IntsB.below {w w' : World} {b n K : Nat} (h : IntsB w b n K) (hb : Below w.heap.size w w') : IntsB w' b n K := let ⟨c, h1, h2⟩ := h; ⟨c, h1.below hb, h2⟩
theorem len_cnt : ∀ l : List Va, l.length ≤ cntVs l
  | [] => by simp [cntVs]
  | x :: l => by
    have := len_cnt l
    obtain ⟨k, n, z, m, r⟩ := x
    rw [List.length_cons, cntVs, cntV]; omega
theorem of_len {l : List Va} (h : ofCode l = 0) : l.length ≤ 512 := by
  unfold ofCode at h
  split at h
  · split at h
    · rename_i h2
      have h3 := mayV_cnt h2
      rw [cntV] at h3
      have := len_cnt l
      omega
    · cases h
  · cases h
/-- The cells of an entry: a reference and a thing. -/
def e17 (r : Int) (s : WV) : Array Value := (Value.int .i64 r :: s.arr.toList).toArray
theorem e17_at {r : Int} {s : WV} {i : Nat} {v : Value} (h : s.arr[i]? = some v) : (e17 r s)[i + 1]? = some v := by
  unfold e17
  rw [List.getElem?_toArray, List.getElem?_cons_succ, Array.getElem?_toList]
  exact h
theorem e17_one (r : Int) (s : WV) : ∀ u ∈ (e17 r s).toList, u.oneCell' = true := fun u hu => by
  rcases List.mem_cons.1 (show u ∈ Value.int .i64 r :: s.arr.toList from hu) with rfl | h
  · rfl
  · exact WV.one s u h
theorem infoE56 : (Try.prog.info? 56).map (fun i => (i.zero, i.size, i.bytes)) = some (some (.agg (e17 0 WV.zero)), 17, 200) := by kernel_rfl
theorem e17_what {w : World} {b : Nat} {r : Int} {s : WV} (h : BlkN w b 56 (e17 r s)) : At w b 1 s.arr.toList := fun j v hj => by
  rw [Nat.add_comm]
  exact h.cell (j + 1) (e17_at (by rw [← Array.getElem?_toList]; exact hj))
theorem Wd.put {w w' : World} {hi p tm fm : Nat} {ps cs ms : Value} {L : List Ent} {FL : List ((Int × Nat) × Int)} {lt : Int} (h : Wd w hi p tm fm ps cs ms L FL lt) (hu : But tm w w') (e : Ent) (hm : MapG kI w' tm ((L ++ [e]).map Ent.pair)) (hpt : p ≠ tm) (h1 : hi ≤ e.b) (h2 : BlkN w e.b 53 e.s.arr) {y : Pt} (h3 : IsWh w (fun b _ => hi ≤ b ∧ b < w.heap.size) e.s y) :
    Wd w' hi p tm fm ps cs ms (L ++ [e]) FL lt := by
  have hl := h.low
  refine ⟨(hu.other p hpt).trans h.blk, hm, h.facets.keep (hu.other _ (Ne.symm hl.2.2.2.1)), fun x hx => ?_, ⟨hl.1, hl.2.1, hl.2.2.1, hl.2.2.2.1, by rw [hu.size]; exact hl.2.2.2.2⟩⟩
  have main : ∀ (E : Ent) (z : Pt), hi ≤ E.b → BlkN w E.b 53 E.s.arr → IsWh w (fun b _ => hi ≤ b ∧ b < w.heap.size) E.s z → hi ≤ E.b ∧ BlkN w' E.b 53 E.s.arr ∧ ∃ x, IsWh w' (fun b _ => hi ≤ b ∧ b < w'.heap.size) E.s x := fun E z k1 k2 k3 =>
    ⟨k1, (hu.other _ (by omega)).trans k2, z, (k3.keep fun b o hr => hu.other b (by have := hr.1; omega)).mono fun b o hr => ⟨hr.1, by rw [hu.size]; exact hr.2⟩⟩
  rcases List.mem_append.1 hx with hx | hx
  · obtain ⟨k1, k2, z, k3⟩ := h.each x hx
    exact main x z k1 k2 k3
  · rw [List.mem_singleton.1 hx]
    exact main e y h1 h2 h3
theorem Wd.side {w w' : World} {hi p tm fm b : Nat} {ps cs ms : Value} {L : List Ent} {FL : List ((Int × Nat) × Int)} {lt : Int} (h : Wd w hi p tm fm ps cs ms L FL lt) (hu : Upd b w w') (hb : b < hi) (hn : b ≠ p ∧ b ≠ tm ∧ b ≠ fm) : Wd w' hi p tm fm ps cs ms L FL lt := by
  have hl := h.low
  refine ⟨(hu.block p h.blk.lt (Ne.symm hn.1)).trans h.blk, h.things.keep (hu.block _ h.things.lt (Ne.symm hn.2.1)), h.facets.keep (hu.block _ h.facets.lt (Ne.symm hn.2.2)), fun e he => ?_, ⟨hl.1, hl.2.1, hl.2.2.1, hl.2.2.2.1, Nat.le_trans hl.2.2.2.2 hu.size⟩⟩
  obtain ⟨k1, k2, x, k3⟩ := h.each e he
  exact ⟨k1, (hu.block _ k2.lt (by omega)).trans k2, x, (k3.keep fun c o hr => hu.block c hr.2 (by have := hr.1; omega)).mono fun c o hr => ⟨hr.1, Nat.lt_of_lt_of_le hr.2 hu.size⟩⟩
theorem Wd.own {w w' : World} {hi p tm fm : Nat} {ps cs ms ps' cs' ms' : Value} {L : List Ent} {FL : List ((Int × Nat) × Int)} {lt lt' : Int} (h : Wd w hi p tm fm ps cs ms L FL lt) (hu : Upd p w w') (hb : BlkN w' p 64 #[ps', cs', .map (some tm), .map (some fm), .int .i64 lt', ms']) : Wd w' hi p tm fm ps' cs' ms' L FL lt' := by
  have hl := h.low
  have h0 := h.blk
  unfold BlkN at h0
  have h1 : p ≠ tm := fun e => by
    obtain ⟨es, cl, h1, -⟩ := h.things
    rw [e, h1] at h0
    cases h0
  have h2 : p ≠ fm := fun e => by
    obtain ⟨es, cl, h1, -⟩ := h.facets
    rw [e, h1] at h0
    cases h0
  refine ⟨hb, h.things.keep (hu.block _ h.things.lt (Ne.symm h1)), h.facets.keep (hu.block _ h.facets.lt (Ne.symm h2)), fun e he => ?_, ⟨hl.1, hl.2.1, hl.2.2.1, hl.2.2.2.1, Nat.le_trans hl.2.2.2.2 hu.size⟩⟩
  obtain ⟨k1, k2, x, k3⟩ := h.each e he
  exact ⟨k1, (hu.block _ k2.lt (by omega)).trans k2, x, (k3.keep fun c o hr => hu.block c hr.2 (by have := hr.1; omega)).mono fun c o hr => ⟨hr.1, Nat.lt_of_lt_of_le hr.2 hu.size⟩⟩
theorem IntsB.apart {w : World} {hi p tm fm b n K : Nat} {ps cs ms : Value} {L : List Ent} {FL : List ((Int × Nat) × Int)} {lt : Int} (h : IntsB w b n K) (hw : Wd w hi p tm fm ps cs ms L FL lt) : b ≠ p ∧ b ≠ tm ∧ b ≠ fm := by
  obtain ⟨cur, hb, -⟩ := h
  unfold BlkN at hb
  refine ⟨fun e => ?_, fun e => ?_, fun e => ?_⟩
  · have h1 := hw.blk
    unfold BlkN at h1
    rw [e, h1] at hb
    simp at hb
  · obtain ⟨es, cl, h1, -⟩ := hw.things
    rw [e, h1] at hb
    cases hb
  · obtain ⟨es, cl, h1, -⟩ := hw.facets
    rw [e, h1] at hb
    cases hb
/-- What From knows of the things it has taken. -/
structure LInv (L : List Ent) (la last : Int) : Prop where
  low : ∀ e ∈ L, 1 ≤ e.r ∧ e.r ≤ la
  len : (L.length : Int) ≤ la
  top : la ≤ last ∨ la = 0
  nd : (L.map (·.r)).Nodup
  fit : ∀ e ∈ L, (e.s.k = 14 → e.s.set < 64) ∧ e.s.sl ≤ 512 ∧ e.s.nl ≤ 64
theorem LInv.nil (last : Int) : LInv [] 0 last := ⟨fun e he => (by cases he), (by simp), .inr rfl, (by simp), fun e he => (by cases he)⟩
theorem LInv.add {L : List Ent} {la last : Int} (h : LInv L la last) (e : Ent) (h1 : la < e.r) (h2 : e.r ≤ last) (hf : (e.s.k = 14 → e.s.set < 64) ∧ e.s.sl ≤ 512 ∧ e.s.nl ≤ 64) : LInv (L ++ [e]) e.r last := by
  have h0 : 0 ≤ la := by have := h.len; omega
  refine ⟨fun x hx => ?_, by have := h.len; simp; omega, .inl h2, ?_, fun x hx => ?_⟩
  · rcases List.mem_append.1 hx with hx | hx
    · have := h.low x hx; omega
    · rw [List.mem_singleton.1 hx]; omega
  · rw [List.map_append, List.nodup_append]
    refine ⟨h.nd, by simp, fun a ha b hb e' => ?_⟩
    obtain ⟨x, hx, rfl⟩ := List.mem_map.1 ha
    simp at hb
    have := h.low x hx
    omega
  · rcases List.mem_append.1 hx with hx | hx
    · exact h.fit x hx
    · rw [List.mem_singleton.1 hx]; exact hf
section
attribute [local irreducible] wpList RegT.seqM
set_option maxRecDepth 100000 in
set_option maxHeartbeats 64000000 in
theorem from_any (HN : NewC) (w : World) (c0 c1 c2 c4 : Value) (last : Int) (ps cs ms : List Int) (xs : List (Int × WV × Pt)) (h : WorldA w c0 c1 c2 c4 ps cs ms xs) :
    Calls Try.prog 5 #[.agg #[c0, c1, c2, .int .i64 last, c4]] w fun e w' => FromP w e w' := by
  obtain ⟨P, hP1, hP2⟩ : ∃ P : Ending → World → Prop, (∀ (w' : World) (e : Ending), FromP w e w' → P e w') ∧ (∀ e w', P e w' → FromP w e w') := ⟨fun e w' => FromP w e w', fun w' e h => h, fun e w' h => h⟩
  refine Calls.mono (R := P) ?_ hP2
  have HBAD : Hid (∀ w', Below w.heap.size w w' → P (.returned (.tuple #[.pointer Option.none, .int .i64 71])) w') := Lib.hid fun w' hb => hP1 _ _ (.inl ⟨71, by decide, rfl, hb⟩)
  have HP := Lib.hid hP1
  clear hP1 hP2
  obtain ⟨A0, cap0, rfl, hc0, hl0⟩ := h.par.slice
  obtain ⟨A1, cap1, rfl, hc1, hl1⟩ := h.cut.slice
  obtain ⟨A4, cap4, rfl, hc4, hl4⟩ := h.mad.slice
  obtain ⟨A2, cap2, rfl, hc2, hl2, hthg⟩ := h.thg
  obtain ⟨W, hW⟩ : ∃ W, W = w.alloc (.cells #[.slice A0 ps.length cap0, .slice A1 cs.length cap1, .slice A2 xs.length cap2, .int .i64 last, .slice A4 ms.length cap4] 27) := ⟨_, rfl⟩
  have hb : Below w.heap.size w W := by rw [hW]; exact (Below.refl _ _).alloc (Nat.le_refl _) _
  have hbx : BlkN W w.heap.size 27 #[.slice A0 ps.length cap0, .slice A1 cs.length cap1, .slice A2 xs.length cap2, .int .i64 last, .slice A4 ms.length cap4] := by rw [hW]; exact BlkN.at_ rfl _ _
  have HB := Lib.hid hb
  have HBX := Lib.hid hbx
  have HCUT := Lib.hid h.cut
  have HMAD := Lib.hid h.mad
  have HTHG := Lib.hid hthg
  have hNew := HN W (.slice A0 ps.length cap0) (ints ps) (h.par.below hb) (fun u hu => by obtain ⟨n, _, rfl⟩ := List.mem_map.1 hu; exact ⟨n, rfl⟩)
  have C11 := Lib.hid hNew
  have d0 := hbx.cell (v := .slice A0 ps.length cap0) 0 rfl
  have hWs : w.heap.size < W.heap.size := hbx.lt
  clear h hb hbx hthg hNew
  go_enter Try.func5, Try.ntmps5
  go_upto_region 1 with fail
  rw [← hW]
  clear hW
  go_upto_region 2 with (go_at_call 11; with_reducible refine C11.out.mono ?_; rintro e w1 ⟨hb1, ⟨c, hc, rfl⟩ | ⟨p, tm, fm, cb, mb, pv, cur, rfl, hpl, hwd, hlo, hcb, hcur, hcs⟩⟩)
  · have hcb : (c != 0) = true := bne_iff_ne.2 hc
    have d4 := (HBX.out.below hb1).cell (v := .slice A4 ms.length cap4) 4 rfl
    have HB1 := Lib.hid (bnext HB.out hb1)
    clear hb1 hc
    go_quiet (fail)
    go_wp2_with fail
    exact HBAD.out _ (HB1.out.trans (belowD _ _))
  have hlen : (ints ps).length = ps.length := by simp
  rw [hlen] at hwd hcs hpl
  obtain ⟨N1, hN1⟩ : ∃ N1, N1 = ps.length + 1 := ⟨_, rfl⟩
  rw [← hN1] at hwd hcs
  have hn1 : N1 ≤ ps.length + 1 ∧ ps.length + 1 ≤ N1 := by omega
  clear hN1
  have HB1 := Lib.hid (bnext HB.out hb1)
  have HBX1 := Lib.hid (HBX.out.below hb1)
  have hw1 := hb1.size
  have HWD := Lib.hid hwd
  have HCUR := Lib.hid hcur
  have HCS := Lib.hid hcs
  have C13 : Hid (∀ n, Calls Try.prog 13 #[.pointer (some ⟨p, 0, Option.none⟩)] (w1.drewN n) fun e w' => e = .returned (.int .i64 (N1 : Int)) ∧ w' = w1.drewN n) := Lib.hid fun n => (sides_any (hwd.below (belowD w1 n))).mono fun e w' hh => ⟨hh.1, hh.2.symm⟩
  have d4 := HBX1.out.cell (v := .slice A4 ms.length cap4) 4 rfl
  clear hb1 hwd hcur hcs HBX d0 C11 hlen
  by_cases hml : ms.length = N1
  rotate_left
  · have hne : ((ms.length : Int) != (N1 : Int)) = true := by rw [bne_iff_ne]; omega
    go_quiet ((go_at_call 13; refine Calls.quiet_of_same (C13.out _)))
    go_wp2_with fail
    all_goals exact HBAD.out _ (HB1.out.trans (belowD _ _))
  have hne : ((ms.length : Int) != (N1 : Int)) = false := by rw [bne_eq_false_iff_eq]; omega
  have HML := Lib.hid hml
  clear hml
  go_quiet ((go_at_call 13; refine Calls.quiet_of_same (C13.out _)))
  obtain ⟨W2, hW2⟩ : ∃ W2, W2 = w1.drewN nq := ⟨_, rfl⟩
  have HB2 : Hid (Below w.heap.size w W2) := Lib.hid (by rw [hW2]; exact HB1.out.trans (belowD _ _))
  have HBX2 : Hid (BlkN W2 w.heap.size 27 #[.slice A0 ps.length cap0, .slice A1 cs.length cap1, .slice A2 xs.length cap2, .int .i64 last, .slice A4 ms.length cap4]) := Lib.hid (by rw [hW2]; exact HBX1.out)
  have HWD2 : Hid (Wd W2 w1.heap.size p tm fm pv (.slice (some ⟨cb, 0, Option.none⟩) N1 N1) (.slice (some ⟨mb, 0, Option.none⟩) N1 N1) [] [] 0) := Lib.hid (by rw [hW2]; exact HWD.out.below (belowD _ _))
  have HCUR2 : Hid (BlkN W2 cb 4 cur) := Lib.hid (by rw [hW2]; exact HCUR.out)
  have hw2 : w1.heap.size ≤ W2.heap.size ∧ W2.heap.size ≤ w1.heap.size := by rw [hW2]; exact ⟨Nat.le_refl _, Nat.le_refl _⟩
  rw [← hW2]
  clear hW2 HB1 HBX1 HWD HCUR C13 d4 hne HB
  have d1 := HBX2.out.cell (v := .slice A1 cs.length cap1) 1 rfl
  go_upto_region 5 with fail
  go_loopw [2, 3, 35] (fun r2 r3 i wr => r2 = .pointer Option.none ∧ r3 = .int .i64 0 ∧ ∃ k : Nat, k ≤ cs.length ∧ i = .int .i64 k ∧ Upd cb W2 wr ∧ ∃ cur', BlkN wr cb 4 cur' ∧ cur'.size = N1) (fun _ _ i _ => cs.length - (intOf i).toNat)
  case atStart => exact ⟨rfl, rfl, 0, Nat.zero_le _, rfl, Upd.refl _ _, cur, HCUR2.out, HCS.out⟩
  case round =>
    obtain ⟨rfl, rfl, k, hk, rfl, hu, cur', hcur', hcs'⟩ := hrel
    have HU := Lib.hid hu
    have HCR := Lib.hid hcur'
    have HSR := Lib.hid hcs'
    have hb2 := HB2.out.size
    have HBr := Lib.hid (below_upd HB2.out hu (by omega) hb2)
    have HBXr := Lib.hid (hu.keepB HBX2.out (by omega))
    have HWDr := Lib.hid (HWD2.out.bare hu hcb)
    have hwr := hu.size
    clear hu hcur' hcs' d1
    by_cases hlt : k < cs.length
    · obtain ⟨b, o, cp, hA, -, hbw, hcell⟩ := HCUT.out.get k hlt
      simp only [Value.slice.injEq] at hA
      obtain ⟨rfl, -, rfl⟩ := hA
      have e0 := (HBr.out.cell (p := ⟨b, o + k, Option.none⟩) hbw).trans hcell
      have C14 := Lib.hid (cutedge_any HWDr.out cur' HCR.out HSR.out cs[k])
      have hprev : ∀ k', k = k' + 1 → ∃ m : Int, wr.cell? ⟨b, o + k', Option.none⟩ = some (.int .i64 m) := fun k' hk' => by
        obtain ⟨b2, o2, cp2, hA2, -, hbw2, hcell2⟩ := HCUT.out.get k' (by omega)
        simp only [Value.slice.injEq, Option.some.injEq, Addr.mk.injEq] at hA2
        obtain ⟨⟨rfl, rfl, -⟩, -, -⟩ := hA2
        exact ⟨_, (HBr.out.cell (p := ⟨b, o + k', Option.none⟩) hbw2).trans hcell2⟩
      have d1 := HBXr.out.cell (v := .slice (some ⟨b, o, Option.none⟩) cs.length cap1) 1 rfl
      obtain ⟨n, hn⟩ : ∃ n, n = cs[k] := ⟨_, rfl⟩
      rw [← hn] at e0 C14
      clear hcell hn
      cases k with
      | zero =>
        clear hprev
        rw [Nat.add_zero] at e0
        go_wp2_with (go_at_call 14; with_reducible refine C14.out.mono ?_; rintro e3 w3 ⟨hu3, ⟨cur3, hc3, hs3⟩, c3, rfl⟩; have HU3 := Lib.hid (HU.out.trans hu3); have HC3 := Lib.hid hc3; have HS3 := Lib.hid hs3; have HB3 := Lib.hid (below_upd HBr.out hu3 (by omega) HBr.out.size); clear hu3 hc3 hs3)
        all_goals first
          | exact HBAD.out _ HB3.out
          | (go_roundw
             case rel => first | exact ⟨rfl, rfl, 1, by omega, by go_num, HU3.out, cur3, HC3.out, HS3.out⟩ | exact ⟨1, by omega, by go_num, HU3.out, cur3, HC3.out, HS3.out⟩
             case measure => simp [intOf]; omega)
      | succ k =>
        obtain ⟨m, hm⟩ := hprev k rfl
        clear hprev
        have hsub : (((k + 1 : Nat) : Int) - 1) = (k : Int) := by omega
        have hk1 : (0 : Int) < ((k + 1 : Nat) : Int) := by omega
        by_cases hle : n ≤ m
        · go_wp2_with (go_at_call 14; with_reducible refine C14.out.mono ?_; rintro e3 w3 ⟨hu3, ⟨cur3, hc3, hs3⟩, c3, rfl⟩; have HU3 := Lib.hid (HU.out.trans hu3); have HC3 := Lib.hid hc3; have HS3 := Lib.hid hs3; have HB3 := Lib.hid (below_upd HBr.out hu3 (by omega) HBr.out.size); clear hu3 hc3 hs3)
          all_goals first
            | exact HBAD.out _ HBr.out
            | exact HBAD.out _ HB3.out
        · go_wp2_with (go_at_call 14; with_reducible refine C14.out.mono ?_; rintro e3 w3 ⟨hu3, ⟨cur3, hc3, hs3⟩, c3, rfl⟩; have HU3 := Lib.hid (HU.out.trans hu3); have HC3 := Lib.hid hc3; have HS3 := Lib.hid hs3; have HB3 := Lib.hid (below_upd HBr.out hu3 (by omega) HBr.out.size); clear hu3 hc3 hs3)
          all_goals first
            | exact HBAD.out _ HB3.out
            | (go_roundw
               case rel => first | exact ⟨rfl, rfl, k + 1 + 1, by omega, by go_num, HU3.out, cur3, HC3.out, HS3.out⟩ | exact ⟨k + 1 + 1, by omega, by go_num, HU3.out, cur3, HC3.out, HS3.out⟩
               case measure => simp [intOf]; omega)
    · obtain rfl : k = cs.length := by omega
      have C13 := Lib.hid (sides_any HWDr.out)
      have hmk := make23 N1 (by omega)
      have HMK := Lib.hid (madeI_ints wr N1)
      clear hlt
      go_upto_region 11 with (go_at_call 13; with_reducible refine C13.out.mono ?_; rintro e3 w3 ⟨rfl, rfl⟩)
      obtain ⟨W4, hW4⟩ : ∃ W4, W4 = wr.alloc (.cells (madeI N1) 3) := ⟨_, rfl⟩
      have hb4 : Below wr.heap.size wr W4 := by rw [hW4]; exact (Below.refl _ _).alloc (Nat.le_refl _) _
      have HT4 : Hid (IntsB W4 wr.heap.size N1 0) := Lib.hid (by rw [hW4]; exact HMK.out)
      have hs4 : W4.heap.size ≤ wr.heap.size + 1 ∧ wr.heap.size + 1 ≤ W4.heap.size := by rw [hW4]; simp
      rw [← hW4]
      have HB4 := Lib.hid (bnext HBr.out hb4)
      have HX4 := Lib.hid (HBXr.out.below hb4)
      have HD4 := Lib.hid (Wd.hi0 (hi' := W4.heap.size) (HWDr.out.below hb4) (by omega) (Nat.le_refl _))
      obtain ⟨tb, htb⟩ : ∃ tb, tb = wr.heap.size := ⟨_, rfl⟩
      rw [← htb] at HT4 hs4 ⊢
      have htb2 : tb ≤ wr.heap.size ∧ wr.heap.size ≤ tb := by omega
      clear hW4 hb4 HMK hmk C13 HCR HSR HU HBr HBXr HWDr htb HB2 HBX2 HWD2 HCUR2 HCS
      have d2 := HX4.out.cell (v := .slice A2 xs.length cap2) 2 rfl
      obtain ⟨hi2, hhi2⟩ : ∃ hi2, hi2 = W4.heap.size := ⟨_, rfl⟩
      rw [← hhi2] at HD4
      have hhi : hi2 ≤ W4.heap.size ∧ W4.heap.size ≤ hi2 := by omega
      clear hhi2
      go_upto_region 13 with fail
      go_loopw [2, 3, 9, 65] (fun r2 r3 lv iv wr => r2 = .pointer Option.none ∧ r3 = .int .i64 0 ∧ ∃ (k : Nat) (la : Int) (L : List Ent), k ≤ xs.length ∧ iv = .int .i64 k ∧ lv = .int .i64 la ∧ LInv L la last ∧ Wd wr hi2 p tm fm pv (.slice (some ⟨cb, 0, Option.none⟩) N1 N1) (.slice (some ⟨mb, 0, Option.none⟩) N1 N1) L [] 0 ∧ Below w.heap.size w wr ∧ BlkN wr w.heap.size 27 #[.slice A0 ps.length cap0, .slice A1 cs.length cap1, .slice A2 xs.length cap2, .int .i64 last, .slice A4 ms.length cap4] ∧ IntsB wr tb N1 k) (fun _ _ _ i _ => xs.length - (intOf i).toNat)
      case atStart => exact ⟨rfl, rfl, 0, 0, [], Nat.zero_le _, rfl, rfl, LInv.nil _, HD4.out, HB4.out, HX4.out, HT4.out⟩
      case round =>
        obtain ⟨rfl, rfl, k, la, L, hk, rfl, rfl, hli, hwd, hbr, hbx, htr⟩ := hrel
        have HLI := Lib.hid hli
        have HWR := Lib.hid hwd
        have HBR := Lib.hid hbr
        have HXR := Lib.hid hbx
        have HTR := Lib.hid htr
        have hhr := hwd.low.2.2.2.2
        have hxl := hbx.lt
        clear hli hwd hbr hbx htr d2 HD4 HB4 HX4 HT4
        by_cases hlt : k < xs.length
        · obtain ⟨b, o, hA, hbw, hat, hwh⟩ := HTHG.out k hlt
          obtain ⟨r, s, x, hx⟩ : ∃ r s x, xs[k] = (r, s, x) := ⟨_, _, _, rfl⟩
          rw [hx] at hat hwh
          simp only at hat hwh
          have hat : At wr b (o + k * 17) (e17 r s).toList := fun j v hj => (HBR.out.cell (p := ⟨b, o + k * 17 + j, Option.none⟩) hbw).trans (hat j v hj)
          have HAT := Lib.hid hat
          have HWH := Lib.hid (hwh.keep (w' := wr) fun b o hb => HBR.out.block b hb)
          obtain ⟨i56, hi56, hz560, hz56, hz562⟩ := info_parts infoE56
          obtain ⟨i53, hi53, hz530, hz53, hz532⟩ := info_parts info53
          have HI56 := Lib.hid hi56
          have HI53 := Lib.hid hi53
          subst hA
          clear hat hwh hx hi56 hi53
          go_upto_region 15 with (first
            | (refine wpList_load_blk rfl 56 (.tmp 67) rfl ⟨b, o + k * 17, Option.none⟩ rfl (.agg (e17 r s)) (run_loadVar_at Try.underlying56 HI56.out HAT.out (by rw [hz56]; rfl)) ?_)
            | (refine wpList_store_blk rfl 56 (.tmp 11) (.tmp 68) rfl i56 HI56.out wr.heap.size (e17 r s) rfl rfl 56 (e17 0 WV.zero) (BlkN.at_ rfl 56 (e17 0 WV.zero)) (by rw [hz56]; rfl) rfl (e17_one _ _) ?_
               intro V hVB hbut
               have HEB := Lib.hid hVB
               have HBUT := Lib.hid hbut
               clear hVB hbut))
          have hbv : Below wr.heap.size wr V := HBUT.out.below (Nat.le_refl _) ((Below.refl _ _).alloc (Nat.le_refl _) _)
          have HB5 := Lib.hid (bnext HBR.out hbv)
          have HX5 := Lib.hid (HXR.out.below hbv)
          have HT5 := Lib.hid (HTR.out.below hbv)
          have HW5 := Lib.hid (HWR.out.below hbv)
          have HWH5 := Lib.hid (HWH.out.keep (w' := V) fun b o hb => hbv.block b (Nat.lt_of_lt_of_le hb HBR.out.size))
          have hv5 := hbv.size
          have hwv := HB5.out.size
          clear hbv HWH HTR HXR HWR
          have b0 := HEB.out.cell (v := .int .i64 r) 0 rfl
          have HEW := Lib.hid (e17_what HEB.out)
          have b1 := HEB.out.cell (v := .int .u8 s.k) 1 (e17_at s.at0)
          have b2 := HEB.out.cell (v := .int .i64 s.home) 2 (e17_at s.at1)
          have b3 := HEB.out.cell (v := .int .u8 s.v0) 3 (e17_at s.at2)
          have b4 := HEB.out.cell (v := .int .i64 s.v1) 4 (e17_at s.at3)
          have b5 := HEB.out.cell (v := .string s.v2) 5 (e17_at s.at4)
          have b6 := HEB.out.cell (v := .slice s.vA s.vl s.vc) 6 (e17_at s.at5)
          have b7 := HEB.out.cell (v := .int .i64 s.v4) 7 (e17_at s.at6)
          have b8 := HEB.out.cell (v := .slice s.sA s.sl s.sc) 8 (e17_at s.at7)
          have b9 := HEB.out.cell (v := .int .i64 s.n) 9 (e17_at s.at8)
          have b10 := HEB.out.cell (v := .int .i64 s.lost) 10 (e17_at s.at9)
          have b11 := HEB.out.cell (v := .int .i64 s.of_) 11 (e17_at s.at10)
          have b12 := HEB.out.cell (v := .int .i64 s.by_) 12 (e17_at s.at11)
          have b13 := HEB.out.cell (v := .int .u8 s.set) 13 (e17_at s.at12)
          have b14 := HEB.out.cell (v := .bool s.full) 14 (e17_at s.at13)
          have b15 := HEB.out.cell (v := .slice s.cA s.cl s.cc) 15 (e17_at s.at14)
          have b16 := HEB.out.cell (v := .slice s.nA s.nl s.nc) 16 (e17_at s.at15)
          have d3 := HX5.out.cell (v := .int .i64 last) 3 rfl
          have C15 : Hid (Calls Try.prog 15 #[.pointer (some ⟨p, 0, Option.none⟩), .agg s.arr] V fun e w' => Below V.heap.size V w' ∧ ∃ β : Bool, e = .returned (.bool β) ∧ (β = true → FormP N1 s x)) := Lib.hid (form_any HW5.out s x (B := w.heap.size) HWH5.out hwv)
          by_cases h1 : r ≤ la
          · go_wp2_with fail
            all_goals exact HBAD.out _ HB5.out
          by_cases h2 : last < r
          · go_wp2_with fail
            all_goals exact HBAD.out _ HB5.out
          go_upto_region 17 with (first
            | (go_at_call 15; refine C15.out.mono ?_; rintro e6 w6 ⟨hb6, β6, rfl, hβ6⟩; have HB6 := Lib.hid hb6; have HBT := Lib.hid hβ6; clear hb6 hβ6))
          · exact HBAD.out _ (bnext HB5.out HB6.out)
          have hbb : β6 = true := by
            have h3 : (!β6) = false := by assumption
            simpa using h3
          have HF := Lib.hid (HBT.out hbb)
          subst hbb
          have HB60 := Lib.hid (bnext HB5.out HB6.out)
          have HW6 := Lib.hid (HW5.out.below HB6.out)
          have HEB6 := Lib.hid (HEB.out.below HB6.out)
          have HX6 := Lib.hid (HX5.out.below HB6.out)
          have HT6 := Lib.hid (HT5.out.below HB6.out)
          have HWH6 := Lib.hid (HWH5.out.keep (w' := w6) fun b o hb => HB6.out.block b (Nat.lt_of_lt_of_le hb hwv))
          have hv6 := HB6.out.size
          have HNLX := Lib.hid HWH6.out.2.2.2.2.1
          clear HW5 HEB HX5 HT5 HWH5 HBT C15 HEW d3 b0 b1 b2 b3 b4 b5 b6 b7 b8 b9 b10 b11 b12 b13 b14 b15 b16
          have b0 := HEB6.out.cell (v := .int .i64 r) 0 rfl
          have C16 := Lib.hid (ownWhat_full w6 (fun b _ => b < w.heap.size) s x (fun b o hb => Nat.lt_of_lt_of_le hb HB60.out.size) HWH6.out)
          go_upto_region 19 with (first
            | (refine wpList_load_blk rfl 53 (.tmp 89) rfl ⟨wr.heap.size, 1, Option.none⟩ rfl (.agg s.arr) (run_loadVar_at Try.underlying53 HI53.out (e17_what HEB6.out) (by rw [hz53]; rfl)) ?_)
            | (go_at_call 16; refine C16.out.mono ?_; rintro e7 w7 ⟨hb7, t, rfl, hsn, hwt⟩; have HB7 := Lib.hid hb7; have HSN := Lib.hid hsn; have HWT := Lib.hid hwt; clear hb7 hsn hwt)
            | (refine wpList_store_blk rfl 53 (.tmp 12) (.tmp 91) rfl i53 HI53.out w7.heap.size t.arr rfl rfl 53 WV.zero.arr (BlkN.at_ rfl 53 WV.zero.arr) (by rw [hz53]; rfl) rfl (WV.one _) ?_
               intro w8 hq8 hbut8
               have HQ8 := Lib.hid hq8
               have HBUT8 := Lib.hid hbut8
               clear hq8 hbut8))
          have hv7 := HB7.out.size
          have hb78 : Below w7.heap.size w7 w8 := HBUT8.out.below (Nat.le_refl _) ((Below.refl _ _).alloc (Nat.le_refl _) _)
          have hb68 : Below w6.heap.size w6 w8 := bnext HB7.out hb78
          have hv8 := HQ8.out.lt
          have HB80 := Lib.hid (bnext HB60.out hb68)
          have HW8 := Lib.hid (HW6.out.below hb68)
          have HEB8 := Lib.hid (HEB6.out.below hb68)
          have HX8 := Lib.hid (HX6.out.below hb68)
          have HT8 := Lib.hid (HT6.out.below hb68)
          have HWT8 : Hid (IsWh w8 (fun b _ => hi2 ≤ b ∧ b < w8.heap.size) t ⟨ownX x.v, x.vs.map ownX, x.cd, x.nm.map ownM⟩) := Lib.hid ((HWT.out.keep fun b o hr => hb78.block b hr.2).mono fun b o hr => ⟨by have := hr.1; omega, by have := hr.2; omega⟩)
          clear hb78 hb68 HW6 HEB6 HX6 HT6 HWH6 HWT b0 C16
          have hpt : p ≠ tm := fun e => by
            obtain ⟨es2, cl2, hb2, -⟩ := HW8.out.things
            have h1 := HW8.out.blk
            unfold BlkN at h1
            rw [e, hb2] at h1
            cases h1
          have hnone : lookL (L.map Ent.pair) r = none := by
            rw [look_ent]
            cases hE : entE L r with
            | none => rfl
            | some E => have h4 := entE_mem hE; have := HLI.out.low E h4.1; omega
          have HPUT : Hid (∀ U : World, U.heap = w8.heap → ∃ o, (Instr.mapUpdate 61 (.map (some tm)) (.int .i64 r) (.pointer (some ⟨w7.heap.size, 0, Option.none⟩))).run Try.prog U = .ok () (setBlock U tm o) ∧ MapG kI (setBlock U tm o) tm ((L ++ [(⟨r, w7.heap.size, t⟩ : Ent)]).map Ent.pair)) := Lib.hid (fun U hU => by
            have h1 : MapG kI U tm (L.map Ent.pair) := HW8.out.things.keep (by rw [hU])
            obtain ⟨o, h2, h3⟩ := h1.put things61 r (.pointer (some ⟨w7.heap.size, 0, Option.none⟩)) hnone
            exact ⟨o, h2, by rw [List.map_append]; exact h3⟩)
          have c2 := HW8.out.blk.cell (v := .map (some tm)) 2 rfl
          have q0 := HEB8.out.cell (v := .int .i64 r) 0 rfl
          refine RegT.region_mix (fun i => Nat.ble i 5) (fun U => U.cell? ⟨p, 2, Option.none⟩ = some (.map (some tm)) ∧ U.cell? ⟨wr.heap.size, 0, Option.none⟩ = some (.int .i64 r)) [(true, 0), (true, 1), (true, 2), (true, 3), (true, 4), (true, 5), (false, 6)] rfl (by kernel_rfl) (by kernel_rfl) (by decide) ?_
          have hS0 : w8.drew.cell? ⟨p, 2, Option.none⟩ = some (.map (some tm)) ∧ w8.drew.cell? ⟨wr.heap.size, 0, Option.none⟩ = some (.int .i64 r) := ⟨c2, q0⟩
          refine RegT.seqM_quiet hS0 rfl (fun _ _ _ h => h) (by kernel_rfl) (v := .pointer (some ⟨p, 0, Option.none⟩)) (fun w' hS => ?_) ?_
          · go_simp
          refine RegT.seqM_quiet hS0 rfl (fun _ _ _ h => h) (by kernel_rfl) (v := .pointer (some ⟨p, 0, Option.none⟩)) (fun w' hS => ?_) ?_
          · go_simp
          refine RegT.seqM_quiet hS0 rfl (fun _ _ _ h => h) (by kernel_rfl) (v := .pointer (some ⟨p, 2, Option.none⟩)) (fun w' hS => ?_) ?_
          · go_simp
          refine RegT.seqM_quiet hS0 rfl (fun _ _ _ h => h) (by kernel_rfl) (v := .map (some tm)) (fun w' hS => ?_) ?_
          · obtain ⟨u1, u2⟩ := hS; go_simp
          refine RegT.seqM_quiet hS0 rfl (fun _ _ _ h => h) (by kernel_rfl) (v := .pointer (some ⟨wr.heap.size, 0, Option.none⟩)) (fun w' hS => ?_) ?_
          · go_simp
          refine RegT.seqM_quiet hS0 rfl (fun _ _ _ h => h) (by kernel_rfl) (v := .int .i64 r) (fun w' hS => ?_) ?_
          · obtain ⟨u1, u2⟩ := hS; go_simp
          clear hS0
          refine RegT.seqM_free rfl rfl ?_
          obtain ⟨o2, ho2, hm2⟩ := HPUT.out w8.drew rfl
          have HM2 := Lib.hid hm2
          clear hm2 c2 q0 hnone
          go_wp2_with fail
          refine RegT.seqM_end ?_
          simp only [RegT.NP, Exit.then]
          have hbx : But tm w8 (setBlock w8.drew tm o2) := let h := But.setBlock w8.drew tm o2; ⟨h.os, h.tape, h.output, h.size, h.other⟩
          obtain ⟨X, hX⟩ : ∃ X, X = setBlock w8.drew tm o2 := ⟨_, rfl⟩
          rw [← hX] at hbx HM2 ⊢
          clear hX ho2 HPUT
          have hlow8 := HW8.out.low
          have HWX := Lib.hid (HW8.out.put hbx ⟨r, w7.heap.size, t⟩ HM2.out hpt (by show hi2 ≤ w7.heap.size; omega) HQ8.out HWT8.out)
          have HQX : Hid (BlkN X w7.heap.size 53 t.arr) := Lib.hid ((hbx.other _ (by omega)).trans HQ8.out)
          have HXX : Hid (BlkN X w.heap.size 27 #[.slice A0 ps.length cap0, .slice A1 cs.length cap1, .slice (some ⟨b, o, Option.none⟩) xs.length cap2, .int .i64 last, .slice A4 ms.length cap4]) := Lib.hid ((hbx.other _ (by omega)).trans HX8.out)
          have happ := HT8.out.apart HW8.out
          have HTX : Hid (IntsB X tb N1 k) := Lib.hid (let ⟨c, h1, h2⟩ := HT8.out; ⟨c, (hbx.other _ happ.2.1).trans h1, h2⟩)
          have HBX9 : Hid (Below w.heap.size w X) := Lib.hid (hbx.below (by omega) HB80.out)
          have hsx := hbx.size
          have hxs : X.heap.size ≤ w8.heap.size ∧ w8.heap.size ≤ X.heap.size := by omega
          have hsl : t.sl ≤ 512 := by
            have h5 := HWT8.out.2.2.1.1
            have h6 := of_len HF.out.2.2.1
            simp at h5
            omega
          have hnl : t.nl ≤ 64 := by
            have h5 := HWT8.out.2.2.2.2.1
            have h6 := HF.out.2.2.2.1
            have h7 := HNLX.out
            simp at h5
            omega
          have HLX : Hid (LInv (L ++ [(⟨r, w7.heap.size, t⟩ : Ent)]) r last) := Lib.hid (HLI.out.add ⟨r, w7.heap.size, t⟩ (by show la < r; omega) (by show r ≤ last; omega) ⟨fun h => by have h8 := HSN.out; show t.set < 64; rw [h8.2.2.2.2.2.2.1]; exact HF.out.2.1 (h8.1 ▸ h), hsl, hnl⟩)
          clear hsx hbx HW8 HX8 HT8 HEB8 HQ8 HBUT8 HWT8 HM2 hsl hnl
          have t0 := HQX.out.cell (v := .int .u8 t.k) 0 t.at0
          have t1 := HQX.out.cell (v := .int .i64 t.home) 1 t.at1
          cases k14 : (t.k == 14) with
          | true =>
            go_wp2_with fail
            go_roundw
            case rel => exact ⟨rfl, rfl, k + 1, r, _, by omega, by go_num, rfl, HLX.out, HWX.out, HBX9.out, HXX.out, HTX.out.mono (by omega)⟩
            case measure => simp [intOf]; omega
          | false =>
            have hh := HF.out.1 (by have h8 := HSN.out.1; have := ne_of_beq_false k14; omega)
            have hho := HSN.out.2.1
            obtain ⟨jh, hjh⟩ : ∃ jh : Nat, t.home = jh := ⟨t.home.toNat, by omega⟩
            rw [hjh] at t1
            have hjn : jh < N1 := by omega
            have hjn2 : (jh : Int) < N1 := by omega
            obtain ⟨cur5, hc5, hs5, hi5⟩ := HTX.out
            have hj5 : jh < cur5.size := by omega
            obtain ⟨m5, hm5, hm50, hm51⟩ := hi5 jh cur5[jh] (Array.getElem?_eq_getElem hj5)
            have g5 := hc5.cell (v := .int .i64 m5) jh (by rw [Array.getElem?_eq_getElem hj5, hm5])
            have f5 := hc5.free jh
            have HC5 := Lib.hid hc5
            have HI5 := Lib.hid hi5
            have HS5 := Lib.hid hs5
            clear hc5 hi5 hs5 hh hho hjh
            have hwrap : wrap64 (m5 + 1) = m5 + 1 := by unfold wrap64; omega
            go_wp2_with fail
            obtain ⟨Y, hY⟩ : ∃ Y, Y = X.setCell ⟨tb, jh, Option.none⟩ (.int .i64 (m5 + 1)) := ⟨_, rfl⟩
            have hu5 : Upd tb X Y := by rw [hY]; exact (Upd.refl _ _).set jh _
            have hc6 : BlkN Y tb 3 (cur5.setIfInBounds jh (.int .i64 (m5 + 1))) := by rw [hY]; exact HC5.out.set jh _
            rw [← hY]
            clear hY
            have HWY := Lib.hid (HWX.out.side hu5 (by omega) (HTX.out.apart HWX.out))
            have HXY := Lib.hid (hu5.keepB HXX.out (by omega))
            have HTY : Hid (IntsB Y tb N1 (k + 1)) := Lib.hid ⟨_, hc6, by simp [HS5.out], fun j u hu => by
              rw [Array.getElem?_setIfInBounds] at hu
              split at hu
              · first
                  | exact ⟨_, (Option.some.inj hu).symm, by omega, by push_cast; omega⟩
                  | (split at hu
                     · exact ⟨_, (Option.some.inj hu).symm, by omega, by push_cast; omega⟩
                     · cases hu)
              · obtain ⟨m6, h6, h7, h8⟩ := HI5.out j u hu
                exact ⟨m6, h6, h7, by push_cast; omega⟩⟩
            have HBY := Lib.hid (below_upd HBX9.out hu5 (by omega) HBX9.out.size)
            clear hu5 hc6
            go_roundw
            case rel => exact ⟨rfl, rfl, k + 1, r, _, by omega, by go_num, rfl, HLX.out, HWY.out, HBY.out, HXY.out, HTY.out⟩
            case measure => simp [intOf]; omega
        · obtain rfl : k = xs.length := by omega
          have d4 := HXR.out.cell (v := .slice A4 ms.length cap4) 4 rfl
          go_upto_region 25 with fail
          clear d4
          obtain ⟨U, hU⟩ : ∃ U, U = wr := ⟨_, rfl⟩
          rw [← hU] at HWR HBR HXR HTR hhr hxl ⊢
          clear hU hlt
          go_loopw [2, 3, 13, 112] (fun r2 r3 sv iv wr2 => r2 = .pointer Option.none ∧ r3 = .int .i64 0 ∧ ∃ (j : Nat) (sm : Int), j ≤ ms.length ∧ iv = .int .i64 j ∧ sv = .int .i64 sm ∧ 0 ≤ sm ∧ sm ≤ 512 * (j : Int) ∧ U = wr2) (fun _ _ _ i _ => ms.length - (intOf i).toNat)
          case atStart => exact ⟨rfl, rfl, 0, 0, Nat.zero_le _, rfl, rfl, by omega, by omega, by trivial⟩
          case round =>
            obtain ⟨rfl, rfl, j, sm, hj, rfl, rfl, hs0, hs1, rfl⟩ := hrel
            have hml := HML.out
            have hms : ms.length ≤ 16 := by omega
            clear hml
            by_cases hlt : j < ms.length
            · obtain ⟨b, o, cp, hA, -, hbw, hcell⟩ := HMAD.out.get j hlt
              simp only [Value.slice.injEq] at hA
              obtain ⟨rfl, -, rfl⟩ := hA
              have e0 := (HBR.out.cell (p := ⟨b, o + j, Option.none⟩) hbw).trans hcell
              obtain ⟨n, hn⟩ : ∃ n, n = ms[j] := ⟨_, rfl⟩
              rw [← hn] at e0
              obtain ⟨cur5, hc5, hs5, hi5⟩ := HTR.out
              have hj5 : j < cur5.size := by have := HML.out; omega
              obtain ⟨m5, hm5, hm50, hm51⟩ := hi5 j cur5[j] (Array.getElem?_eq_getElem hj5)
              have g5 := hc5.cell (v := .int .i64 m5) j (by rw [Array.getElem?_eq_getElem hj5, hm5])
              have hjn : (j : Int) < N1 := by have := HML.out; omega
              clear hcell hn hc5 hs5 hi5 hm5
              by_cases h1 : n < m5
              · go_wp2_with fail
                all_goals exact HBAD.out _ HBR.out
              by_cases h2 : 512 < n
              · go_wp2_with fail
                all_goals exact HBAD.out _ HBR.out
              go_wp2_with fail
              go_roundw
              case rel => exact ⟨rfl, rfl, j + 1, sm + n, by omega, by go_num, by go_num, by omega, by push_cast; omega, by trivial⟩
              case measure => simp [intOf]; omega
            · obtain rfl : j = ms.length := by omega
              have d3 := HXR.out.cell (v := .int .i64 last) 3 rfl
              have hw64 : wrap64 (64 * sm) = 64 * sm := by unfold wrap64; omega
              by_cases hneg : last < 0
              · go_upto_region 31 with fail
                go_quiet (fail)
                go_wp2_with fail
                all_goals exact HBAD.out _ (HBR.out.trans (belowD _ _))
              have hneg2 : decide (last < 0) = false := decide_eq_false hneg
              by_cases hgt : 64 * sm < last
              · go_upto_region 31 with fail
                go_quiet (fail)
                go_wp2_with fail
                all_goals exact HBAD.out _ (HBR.out.trans (belowD _ _))
              have hgt2 : decide (64 * sm < last) = false := decide_eq_false hgt
              have hla : la ≤ 524288 := by rcases HLI.out.top with h | h <;> omega
              have hLl : L.length ≤ 600000 := by have := HLI.out.len; omega
              go_upto_region 31 with fail
              refine RegT.region_mix (fun _ => true) (fun Y => Y.cell? ⟨w.heap.size, 3, Option.none⟩ = some (.int .i64 last)) [(true, 0), (true, 1), (true, 2), (true, 3), (true, 4), (true, 5), (true, 6), (true, 7), (true, 8), (true, 9), (true, 10), (true, 11), (false, 12), (true, 13), (true, 14), (true, 15), (true, 16), (true, 17), (true, 18), (true, 21), (true, 22), (false, 19), (false, 20), (false, 23), (false, 24)] rfl (by kernel_rfl) (by kernel_rfl) (by decide) ?_
              obtain ⟨V, hV⟩ : ∃ V, V = U.drew := ⟨_, rfl⟩
              have HBV : Hid (Below U.heap.size U V) := Lib.hid (by rw [hV]; exact (Below.refl _ _).drew)
              have HWV := Lib.hid (HWR.out.below HBV.out)
              have HXV := Lib.hid (HXR.out.below HBV.out)
              have C17 := Lib.hid (sound_any HWV.out HLI.out.nd hLl (fun e he => (HLI.out.fit e he).1) (fun e he => (HLI.out.fit e he).2))
              rw [← hV]
              clear hV d3
              have hS0 : V.cell? ⟨w.heap.size, 3, Option.none⟩ = some (.int .i64 last) := HXV.out.cell 3 rfl
              refine RegT.seqM_quiet hS0 rfl (fun _ _ _ h => h) (by kernel_rfl) (v := .pointer (some ⟨w.heap.size, 3, Option.none⟩)) (fun w' hS => ?_) ?_
              · go_simp
              refine RegT.seqM_quiet hS0 rfl (fun _ _ _ h => h) (by kernel_rfl) (v := .int .i64 last) (fun w' hS => ?_) ?_
              · go_simp
              refine RegT.seqM_quiet hS0 rfl (fun _ _ _ h => h) (by kernel_rfl) (v := .bool false) (fun w' hS => ?_) ?_
              · go_simp
              refine RegT.seqM_quiet hS0 rfl (fun _ _ _ h => h) (by kernel_rfl) (v := .bool false) (fun w' hS => ?_) ?_
              · go_simp
              refine RegT.seqM_quiet hS0 rfl (fun _ _ _ h => h) (by kernel_rfl) (v := .pointer (some ⟨w.heap.size, 3, Option.none⟩)) (fun w' hS => ?_) ?_
              · go_simp
              refine RegT.seqM_quiet hS0 rfl (fun _ _ _ h => h) (by kernel_rfl) (v := .int .i64 last) (fun w' hS => ?_) ?_
              · go_simp
              refine RegT.seqM_quiet hS0 rfl (fun _ _ _ h => h) (by kernel_rfl) (v := .int .i64 sm) (fun w' hS => ?_) ?_
              · go_simp
              refine RegT.seqM_quiet hS0 rfl (fun _ _ _ h => h) (by kernel_rfl) (v := .int .i64 (64 * sm)) (fun w' hS => ?_) ?_
              · go_simp
                first | done | (rw [IntKind.wrap_i64]; exact hw64) | (rw [IntKind.wrap_i64]; omega)
              refine RegT.seqM_quiet hS0 rfl (fun _ _ _ h => h) (by kernel_rfl) (v := .bool false) (fun w' hS => ?_) ?_
              · go_simp
              refine RegT.seqM_quiet hS0 rfl (fun _ _ _ h => h) (by kernel_rfl) (v := .bool false) (fun w' hS => ?_) ?_
              · go_simp
              refine RegT.seqM_quiet hS0 rfl (fun _ _ _ h => h) (by kernel_rfl) (v := .bool false) (fun w' hS => ?_) ?_
              · go_simp
              refine RegT.seqM_quiet hS0 rfl (fun _ _ _ h => h) (by kernel_rfl) (v := .pointer (some ⟨p, 0, Option.none⟩)) (fun w' hS => ?_) ?_
              · go_simp
              refine RegT.seqM_held rfl ?_
              go_wp2_with (go_at_call 17; refine C17.out.mono ?_; rintro e3 w3 h3; unfold SoundP at h3; obtain ⟨hu3, β3, rfl, hβ3⟩ := h3)
              have hx3 := hu3.keepB HXV.out (by omega)
              have HX3 := Lib.hid hx3
              have hS3 : w3.cell? ⟨w.heap.size, 3, Option.none⟩ = some (.int .i64 last) := hx3.cell 3 rfl
              have HB3 := Lib.hid (below_upd (bnext HBR.out HBV.out) hu3 (by omega) (bnext HBR.out HBV.out).size)
              have HF3 := Lib.hid hβ3
              clear hu3 hx3 hβ3 hS0
              refine ⟨hS3, ?_⟩
              cases β3 with
              | false =>
                refine RegT.seqM_quiet hS3 rfl (fun _ _ _ h => h) (by kernel_rfl) (v := .bool true) (fun w' hS => ?_) ?_
                · go_simp
                refine RegT.seqM_quiet hS3 rfl (fun _ _ _ h => h) (by kernel_rfl) (v := .bool true) (fun w' hS => ?_) ?_
                · go_simp
                refine RegT.seqM_quiet hS3 rfl (fun _ _ _ h => h) (by kernel_rfl) (v := .bool true) (fun w' hS => ?_) ?_
                · go_simp
                refine RegT.seqM_skip hS3 rfl (fun _ _ _ h => h) (by kernel_rfl) ?_
                refine RegT.seqM_skip hS3 rfl (fun _ _ _ h => h) (by kernel_rfl) ?_
                refine RegT.seqM_skip hS3 rfl (fun _ _ _ h => h) (by kernel_rfl) ?_
                refine RegT.seqM_skip hS3 rfl (fun _ _ _ h => h) (by kernel_rfl) ?_
                refine RegT.seqM_skip hS3 rfl (fun _ _ _ h => h) (by kernel_rfl) ?_
                refine RegT.seqM_skipH rfl (by kernel_rfl) hS3 ?_
                refine RegT.seqM_skipH rfl (by kernel_rfl) hS3 ?_
                refine RegT.seqM_skipH rfl (by kernel_rfl) hS3 ?_
                refine RegT.seqM_held rfl ?_
                go_wp2_with fail
                refine ⟨hS3, RegT.seqM_end ?_⟩
                simp only [RegT.NP, Exit.then]
                go_wp2_with fail
                all_goals exact HBAD.out _ HB3.out
              | true =>
                obtain ⟨FL, hwd3, hsound, hends⟩ := HF3.out rfl
                have HWD3 := Lib.hid hwd3
                have HSO := Lib.hid hsound
                have HEN := Lib.hid hends
                have C18 := Lib.hid (spare_any hwd3 HLI.out.nd (fun E hE => ⟨_, hends E hE⟩))
                clear hwd3 hsound hends HF3
                refine RegT.seqM_quiet hS3 rfl (fun _ _ _ h => h) (by kernel_rfl) (v := .bool false) (fun w' hS => ?_) ?_
                · go_simp
                refine RegT.seqM_quiet hS3 rfl (fun _ _ _ h => h) (by kernel_rfl) (v := .bool false) (fun w' hS => ?_) ?_
                · go_simp
                refine RegT.seqM_quiet hS3 rfl (fun _ _ _ h => h) (by kernel_rfl) (v := .bool false) (fun w' hS => ?_) ?_
                · go_simp
                refine RegT.seqM_quiet hS3 rfl (fun _ _ _ h => h) (by kernel_rfl) (v := .pointer (some ⟨w.heap.size, 3, Option.none⟩)) (fun w' hS => ?_) ?_
                · go_simp
                refine RegT.seqM_quiet hS3 rfl (fun _ _ _ h => h) (by kernel_rfl) (v := .int .i64 last) (fun w' hS => ?_) ?_
                · go_simp
                refine RegT.seqM_quiet hS3 rfl (fun _ _ _ h => h) (by kernel_rfl) (v := .pointer (some ⟨p, 0, Option.none⟩)) (fun w' hS => ?_) ?_
                · go_simp
                refine RegT.seqM_quiet hS3 rfl (fun _ _ _ h => h) (by kernel_rfl) (v := .int .i64 sm) (fun w' hS => ?_) ?_
                · go_simp
                refine RegT.seqM_quiet hS3 rfl (fun _ _ _ h => h) (by kernel_rfl) (v := .int .i64 (64 * sm)) (fun w' hS => ?_) ?_
                · go_simp
                  first | done | (rw [IntKind.wrap_i64]; exact hw64) | (rw [IntKind.wrap_i64]; omega)
                refine RegT.seqM_held rfl ?_
                go_wp2_with (go_at_call 18; refine C18.out.mono ?_; rintro e4 w4 ⟨hb4, v18, rfl⟩)
                have hx4 := HX3.out.below hb4
                have HX4 := Lib.hid hx4
                have hS4 : w4.cell? ⟨w.heap.size, 3, Option.none⟩ = some (.int .i64 last) := hx4.cell 3 rfl
                have HB4 := Lib.hid (bnext HB3.out hb4)
                have HW4 := Lib.hid (HWD3.out.below hb4)
                clear hx4 hb4 hS3
                refine ⟨hS4, ?_⟩
                refine RegT.seqM_held rfl ?_
                go_wp2_with fail
                refine ⟨hS4, ?_⟩
                refine RegT.seqM_held rfl ?_
                go_wp2_with fail
                refine ⟨hS4, ?_⟩
                refine RegT.seqM_held rfl ?_
                go_wp2_with fail
                refine ⟨hS4, RegT.seqM_end ?_⟩
                simp only [RegT.NP, Exit.then]
                go_upto_region 33 with fail
                · exact HBAD.out _ HB4.out
                refine RegT.region_mix (fun _ => true) (fun Y => BlkN Y w.heap.size 27 #[.slice A0 ps.length cap0, .slice A1 cs.length cap1, .slice A2 xs.length cap2, .int .i64 last, .slice A4 ms.length cap4]) [(true, 0), (true, 1), (true, 2), (true, 3), (true, 4), (true, 5), (false, 6), (false, 7), (false, 8), (false, 9), (false, 10), (false, 11), (false, 12)] rfl (by kernel_rfl) (by kernel_rfl) (by decide) ?_
                obtain ⟨w5, hw5⟩ : ∃ w5, w5 = w4.drew := ⟨_, rfl⟩
                have hb5 : Below w4.heap.size w4 w5 := by rw [hw5]; exact (Below.refl _ _).drew
                have hS5 : BlkN w5 w.heap.size 27 #[.slice A0 ps.length cap0, .slice A1 cs.length cap1, .slice A2 xs.length cap2, .int .i64 last, .slice A4 ms.length cap4] := HX4.out.below hb5
                have HB5 := Lib.hid (bnext HB4.out hb5)
                have HW5 := Lib.hid (HW4.out.below hb5)
                rw [← hw5]
                clear hw5 hb5 hS4
                have C19 := Lib.hid (clone19_any w5 (.slice A4 ms.length cap4) (ints ms) (HMAD.out.below HB5.out))
                refine RegT.seqM_quiet hS5 rfl (fun _ _ _ h => h) (by kernel_rfl) (v := .pointer (some ⟨p, 0, Option.none⟩)) (fun w' hS => ?_) ?_
                · go_simp
                refine RegT.seqM_quiet hS5 rfl (fun _ _ _ h => h) (by kernel_rfl) (v := .pointer (some ⟨p, 0, Option.none⟩)) (fun w' hS => ?_) ?_
                · go_simp
                refine RegT.seqM_quiet hS5 rfl (fun _ _ _ h => h) (by kernel_rfl) (v := .pointer (some ⟨w.heap.size, 3, Option.none⟩)) (fun w' hS => ?_) ?_
                · go_simp
                refine RegT.seqM_quiet hS5 rfl (fun _ _ _ h => h) (by kernel_rfl) (v := .int .i64 last) (fun w' hS => ?_) ?_
                · have e3 := hS.cell (v := .int .i64 last) 3 rfl
                  go_simp
                refine RegT.seqM_quiet hS5 rfl (fun _ _ _ h => h) (by kernel_rfl) (v := .pointer (some ⟨w.heap.size, 4, Option.none⟩)) (fun w' hS => ?_) ?_
                · go_simp
                refine RegT.seqM_quiet hS5 rfl (fun _ _ _ h => h) (by kernel_rfl) (v := .slice A4 ms.length cap4) (fun w' hS => ?_) ?_
                · have e4 := hS.cell (v := .slice A4 ms.length cap4) 4 rfl
                  go_simp
                refine RegT.seqM_held rfl ?_
                go_wp2_with (go_at_call 19; refine C19.out.mono ?_; rintro e6 w6 ⟨hb6, A6, cap6, rfl⟩)
                have hS6 := hS5.below hb6
                have HB6 := Lib.hid (bnext HB5.out hb6)
                have HW6 := Lib.hid (HW5.out.below hb6)
                clear hb6 hS5 C19
                refine ⟨hS6, ?_⟩
                have HS6 := Lib.hid hS6
                have hpk := HW6.out.blk.lt
                have hp4 := HW6.out.blk.free 4
                have hv4 := HW6.out.blk.cell (v := .int .i64 0) 4 rfl
                clear hS6
                refine RegT.seqM_held rfl ?_
                go_wp2_with fail
                refine ⟨HS6.out, ?_⟩
                refine RegT.seqM_held rfl ?_
                go_wp2_with fail
                refine ⟨HS6.out, ?_⟩
                refine RegT.seqM_held rfl ?_
                go_wp2_with fail
                obtain ⟨Y, hY⟩ : ∃ Y, Y = w6.setCell ⟨p, 4, Option.none⟩ (.int .i64 last) := ⟨_, rfl⟩
                have hu7 : Upd p w6 Y := by rw [hY]; exact (Upd.refl _ _).set 4 _
                have hb7 := HW6.out.blk.set 4 (.int .i64 last)
                rw [← hY] at hb7 ⊢
                clear hY hp4 hv4
                have HU7 := Lib.hid hu7
                have HB7 := Lib.hid hb7
                have HS7 := Lib.hid (hu7.keepB HS6.out (by omega))
                have hp5 := hb7.free 5
                have hv5 := hb7.cell (v := .slice (some ⟨mb, 0, Option.none⟩) N1 N1) 5 rfl
                clear hu7 hb7
                refine ⟨HS7.out, ?_⟩
                refine RegT.seqM_held rfl ?_
                go_wp2_with fail
                refine ⟨HS7.out, ?_⟩
                refine RegT.seqM_held rfl ?_
                go_wp2_with fail
                refine ⟨HS7.out, ?_⟩
                refine RegT.seqM_held rfl ?_
                go_wp2_with fail
                obtain ⟨Z, hZ⟩ : ∃ Z, Z = Y.setCell ⟨p, 5, Option.none⟩ (.slice A6 ms.length cap6) := ⟨_, rfl⟩
                have hu8 : Upd p Y Z := by rw [hZ]; exact (Upd.refl _ _).set 5 _
                have hb8 := HB7.out.set 5 (.slice A6 ms.length cap6)
                rw [← hZ] at hb8 ⊢
                clear hZ hp5 hv5
                have hwz : Wd Z hi2 p tm fm pv (.slice (some ⟨cb, 0, Option.none⟩) N1 N1) (.slice A6 ms.length cap6) L FL last := HW6.out.own (HU7.out.trans hu8) hb8
                have hbz : Below w.heap.size w Z := below_upd HB6.out (HU7.out.trans hu8) (by omega) HB6.out.size
                have hsz := hu8.keepB HS7.out (by omega)
                have hml2 := HML.out
                have hpost : P (.returned (.tuple #[.pointer (some ⟨p, 0, Option.none⟩), .int .i64 0])) Z := HP.out _ _ (.inr ⟨hi2, p, tm, fm, pv, _, A6, ms.length, cap6, L, FL, last, L.length + 1, rfl, hbz, hwz, by omega, HSO.out, ⟨by omega, by omega, by omega⟩, fun e he => by
                  have h1 := HLI.out.low e he
                  rcases HLI.out.top with h | h <;> omega, ⟨by omega, by omega, by omega⟩, ⟨fun r t hg => by
                    obtain ⟨e, hE, -⟩ := gr_some hg
                    obtain ⟨he, rfl⟩ := entE_mem hE
                    exact (ends_le (HEN.out e he) (Nat.le_succ _)).1, fun r t hg _ => by
                    obtain ⟨e, hE, -⟩ := gr_some hg
                    obtain ⟨he, rfl⟩ := entE_mem hE
                    exact HEN.out e he⟩⟩)
                have HPOST := Lib.hid hpost
                clear hwz hbz hpost hml2 hu8 hb8
                refine ⟨hsz, RegT.seqM_end ?_⟩
                clear hsz
                simp only [RegT.NP, Exit.then]
                go_wp2_with fail
                all_goals first | exact HPOST.out | (go_ret; exact HPOST.out)
end
end Go.Proofs.Ythafojadcodkoaa
