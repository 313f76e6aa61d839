/- A struct stored into a block that is known whole, as one step (carried over). The reader of package word: value. -/
import Derived.Test.YtjmelamllapmiaaGreatDoorG
import Derived.Laws.CopyRow
namespace Go.Proofs.YtjmelamllapmiaaGreatDoor
open Go.RowKit


/-- w' is w but for block b. -/
structure But (b : Nat) (w w' : World) : Prop where
  os : w'.os = w.os
  tape : w'.tape = w.tape
  output : w'.output = w.output
  size : w'.heap.size = w.heap.size
  other : ∀ k, k ≠ b → w'.heap[k]? = w.heap[k]?
theorem But.below {b B : Nat} {a w w' : World} (h : But b w w') (hB : B ≤ b) (ha : Below B a w) : Below B a w' :=
  ⟨h.os.trans ha.os, h.tape.trans ha.tape, h.output.trans ha.output, by rw [h.size]; exact ha.size, fun k hk => (h.other k (by omega)).trans (ha.block k hk)⟩
theorem But.upd {b p : Nat} {a w w' : World} (h : But b w w') (hB : a.heap.size ≤ b) (ha : Upd p a w) : Upd p a w' :=
  ⟨h.os.trans ha.os, h.tape.trans ha.tape, h.output.trans ha.output, by rw [h.size]; exact ha.size, fun k hk hn => (h.other k (by omega)).trans (ha.block k hk hn)⟩
theorem But.toUpd {b : Nat} {w w' : World} (h : But b w w') : Upd b w w' := ⟨h.os, h.tape, h.output, by rw [h.size]; exact Nat.le_refl _, fun k _ hn => h.other k hn⟩

theorem run_storeVar_blk {P : Program} {w : World} {T Tb : TypeId} {i : TypeInfo} (hi : P.info? T = some i) {b : Nat} {cur cs : Array Value} (hB : BlkN w b Tb cur) (hn : cs.size = i.size) (hc : cur.size = cs.size) (h1 : ∀ u ∈ cs.toList, u.oneCell' = true) :
    ∃ w', (storeVar T ⟨b, 0, Option.none⟩ (.agg cs)).run P w = .ok () w' ∧ BlkN w' b Tb cs ∧ But b w w' := by
  have hst := run_storeCells_at P b 0 Tb cs.toList 0 cur w hB (by simp; omega) h1
  refine ⟨w.setRow b cs, ?_, setRow_heap w b cur cs Tb (0, 0) hB, ⟨rfl, rfl, rfl, by simp [World.setRow], fun k hk => setRow_other w b k cs hk⟩⟩
  have e : (cur.toList.take (0 + 0) ++ cs.toList ++ cur.toList.drop (0 + 0 + cs.toList.length)).toArray = cs := by
    rw [List.drop_of_length_le (by simp; omega)]
    simp
  rw [e] at hst
  simp [storeVar, sizeOf, typeInfo, hi, hn, Value.cells, hst]
theorem wpList_store_blk {P : Program} {w : World} {ops : Array Oper} {rest : List Oper} {o : Oper} {a : Act} {Q : Exit → Act → World → Prop} (hg : o.guard = Option.none) (T : TypeId) (p v : Operand) (hop : o.op = Op.store T p v)
    (i : TypeInfo) (hi : P.info? T = some i) (b : Nat) (cs : Array Value) (hp : a.eval p = .pointer (some ⟨b, 0, Option.none⟩)) (hv : a.eval v = .agg cs) (Tb : TypeId) (cur : Array Value) (hB : BlkN w b Tb cur) (hn : cs.size = i.size) (hc : cur.size = cs.size) (h1 : ∀ u ∈ cs.toList, u.oneCell' = true)
    (h : ∀ w', BlkN w' b Tb cs → But b w w' → wpList P ops Q rest (a.put o.dst undef) w') : wpList P ops Q (o :: rest) a w := by
  refine wpList_plain hg fun K hK => ?_
  obtain ⟨w', hr, h2, h3⟩ := run_storeVar_blk (P := P) hi hB hn hc h1
  unfold Oper.wp
  simp [execOp, hop, hp, hv, Instr.storeAt, Instr.sureAddr, hr, Result.andThen]
  exact hK _ _ (h w' h2 h3)
theorem run_loadVar_blk {P : Program} {w : World} {T Tb : TypeId} {fs : Array Field} (ht : P.underlying T = some (.struct fs)) {i : TypeInfo} (hi : P.info? T = some i) {b : Nat} {cs : Array Value} (hB : BlkN w b Tb cs) (hn : cs.size = i.size) :
    (loadVar T ⟨b, 0, Option.none⟩).run P w = .ok (.agg cs) w := by
  have h := run_loadCells_list (P := P) w ⟨b, 0, Option.none⟩ cs.toList (fun j v hv => by
    rw [add_lit, hB.cell_eq]; simpa using hv)
  rw [Array.length_toList, Array.toArray_toList, hn] at h
  unfold loadVar
  simp [isAgg, run_underlying ht, sizeOf, typeInfo, hi, h, Result.andThen]
theorem results_cell1 {P : Program} {w : World} {fn : Func} {s : Tmp} {T Tb : TypeId} (hr : fn.results = #[.cell s T]) {fs : Array Field} (ht : P.underlying T = some (.struct fs)) {i : TypeInfo} (hi : P.info? T = some i) {tmps : Array Value} {b : Nat} (hp : tmps.getD s undef = .pointer (some ⟨b, 0, Option.none⟩))
    {cs : Array Value} (hB : BlkN w b Tb cs) (hn : cs.size = i.size) : (results fn tmps).run P w = .ok (.agg cs) w := by
  have h := run_loadVar_blk (P := P) ht hi hB hn
  have hp' : tmps[s]?.getD undef = .pointer (some ⟨b, 0, Option.none⟩) := by simpa using hp
  simp [results, hr, hp', asAddr, h]
theorem results_cell2 {P : Program} {w : World} {fn : Func} {s t : Tmp} {T Tb : TypeId} (hr : fn.results = #[.cell s T, .tmp t]) {fs : Array Field} (ht : P.underlying T = some (.struct fs)) {i : TypeInfo} (hi : P.info? T = some i) {tmps : Array Value} {b : Nat} (hp : tmps.getD s undef = .pointer (some ⟨b, 0, Option.none⟩))
    {cs : Array Value} (hB : BlkN w b Tb cs) (hn : cs.size = i.size) {v : Value} (hv : tmps.getD t undef = v) : (results fn tmps).run P w = .ok (.tuple #[.agg cs, v]) w := by
  have h := run_loadVar_blk (P := P) ht hi hB hn
  have hp' : tmps[s]?.getD undef = .pointer (some ⟨b, 0, Option.none⟩) := by simpa using hp
  have hv' : tmps[t]?.getD undef = v := by simpa using hv
  simp only [results, hr]
  simp [hp', asAddr, h, hv', Result.andThen]
theorem Rdr.inc {w : World} {p : Nat} {s : ByteArray} {i k : Nat} (h : Rdr w p s i k) : Rdr (w.setCell ⟨p, 2, Option.none⟩ (.int .i64 ((k : Int) + 1))) p s i (k + 1) := by
  have := BlkN.set h 2 (.int .i64 ((k : Int) + 1))
  unfold Rdr
  simpa using this
theorem Rdr.but {w w' : World} {p b : Nat} {s : ByteArray} {i k : Nat} (h : Rdr w p s i k) (hb : But b w w') (hn : p ≠ b) : Rdr w' p s i k := (hb.other p hn).trans h
theorem set5_done {V : World} {b : Nat} (h : BlkN V b 27 #[.int .u8 0, .int .i64 0, .string ⟨#[]⟩, .slice Option.none 0 0, .int .i64 0]) (c0 c1 c2 c3 c4 : Value) :
    ∃ V', ((((V.setCell ⟨b, 0, Option.none⟩ c0).setCell ⟨b, 1, Option.none⟩ c1).setCell ⟨b, 2, Option.none⟩ c2).setCell ⟨b, 3, Option.none⟩ c3).setCell ⟨b, 4, Option.none⟩ c4 = V' ∧ BlkN V' b 27 #[c0, c1, c2, c3, c4] ∧ But b V V' := by
  have hu := (((((Upd.refl b V).set 0 c0).set 1 c1).set 2 c2).set 3 c3).set 4 c4
  refine ⟨_, rfl, ?_, ⟨hu.os, hu.tape, hu.output, by simp [World.setCell], fun k hk => ?_⟩⟩
  · have := ((((BlkN.set h 0 c0).set 1 c1).set 2 c2).set 3 c3).set 4 c4
    simpa using this
  · exact (Below.heap_setCell _ _ _ _ hk).trans ((Below.heap_setCell _ _ _ _ hk).trans ((Below.heap_setCell _ _ _ _ hk).trans ((Below.heap_setCell _ _ _ _ hk).trans (Below.heap_setCell _ _ _ _ hk))))
theorem lsV_len (f : L8 → Nat → Rs (Va × Nat)) : ∀ (n : Nat) (t : L8) (k : Nat) (l : List Va) x r, lsV f n t k l = .ok x r → x.1.length ≤ l.length + n
  | 0, t, k, l, x, r, h => by simp [lsV] at h
  | n + 1, [], k, l, x, r, h => by simp [lsV] at h
  | n + 1, c :: t, k, l, x, r, h => by
    rw [lsV] at h
    by_cases hc : c = 93
    · rw [if_pos hc] at h
      injection h with h1 h2
      subst h1
      simp only; omega
    · rw [if_neg hc] at h
      by_cases hb : 512 ≤ k ∨ l ≠ [] ∧ c ≠ 32
      · rw [if_pos hb] at h; cases h
      · rw [if_neg hb] at h
        cases he : f (if l = [] then c :: t else t) k with
        | no r' => rw [he] at h; cases h
        | ok y r' =>
          obtain ⟨v, q⟩ := y
          rw [he] at h
          have h2 := lsV_len f n r' q (l ++ [v]) x r h
          simp at h2
          omega
theorem qa_len (most : Nat) : ∀ (t : L8) (st : Qs) (acc b r : L8), qa most st t acc = .ok b r → b.length ≤ acc.length + t.length := by
  intro t
  induction t with
  | nil => intro st acc b r h; cases st <;> simp [qa] at h
  | cons c t ih =>
    intro st acc b r h
    cases st <;> simp only [qa] at h <;> repeat' (split at h)
    all_goals first
      | (cases h; done)
      | (injection h with h1 h2; subst h1; simp; done)
      | (have := ih _ _ _ _ h; simp at this ⊢; omega)
theorem one5 (k n r : Int) (s : ByteArray) (A : Option Addr) (l c : Nat) : ∀ u ∈ #[Value.int .u8 k, .int .i64 n, .string s, .slice A l c, .int .i64 r], u.oneCell' = true := by
  intro u hu
  simp only [Array.mem_def, List.mem_cons, List.not_mem_nil, or_false] at hu
  rcases hu with rfl | rfl | rfl | rfl | rfl <;> rfl
theorem leafV (w : World) (R : Nat → Nat → Prop) (k n r : Int) (s : ByteArray) (h0 : 0 ≤ k) (h1 : k < 256) (h2 : s.size ≤ 140737488351232) : IsVaR w R (.agg #[.int .u8 k, .int .i64 n, .string s, .slice Option.none 0 0, .int .i64 r]) (.mk k n s [] r) := by
  unfold IsVaR
  exact ⟨h0, h1, h2, by simp, Option.none, 0, Nat.le_refl _, rfl, fun h => absurd rfl h⟩
attribute [local irreducible] wpList
set_option maxRecDepth 100000 in
set_option maxHeartbeats 8000000 in
theorem value_step (nest : Nat) (hn : nest ≤ 16) (hL : ∀ m, nest = m + 1 → LstC m) : ValC nest := by
  intro s i k w p h hi hs hk
  obtain ⟨i0, hi0, hz0, hz1, hz2⟩ := info_parts info34
  have HL := Lib.hid hL
  clear hL
  have hp0 := h.lt
  go_enter Tryz.func105, Tryz.ntmps105
  go_upto_region 1 with fail
  obtain ⟨W, hW⟩ : ∃ W, W = w.alloc (.cells #[.int .u8 0, .int .i64 0, .string ⟨#[]⟩, .slice Option.none 0 0, .int .i64 0] 27) := ⟨_, rfl⟩
  have HR : Hid (Rdr W p s i k) := Lib.hid (by rw [hW]; exact BlkN.alloc h _)
  have HZ : Hid (BlkN W w.heap.size 27 #[.int .u8 0, .int .i64 0, .string ⟨#[]⟩, .slice Option.none 0 0, .int .i64 0]) := Lib.hid (by rw [hW]; exact BlkN.at_ rfl _ _)
  have HU : Hid (Upd p w W) := Lib.hid (by rw [hW]; exact (Upd.refl p w).alloc _)
  rw [← hW]
  clear hW h
  have hpW := HR.out.lt
  have hRW := HZ.out.lt
  by_cases hh : i < s.size
  rotate_left
  · have CE := Lib.hid (next_end HR.out hi (by omega))
    go_wp2_with (first | (go_at_call 161; refine CE.out.mono ?_; rintro e w2 ⟨rfl, hb2⟩))
    refine ⟨rfl, HU.out.below hb2, ?_⟩
    rw [rest_end (by omega)]
    cases nest <;> exact ⟨s.size, Nat.le_refl _, (rest_end (Nat.le_refl _)).symm, rfl⟩
  obtain ⟨c, hc⟩ : ∃ c, c = s[i] := ⟨_, rfl⟩
  have HRC : Hid (rest s i = c :: rest s (i + 1)) := Lib.hid (by rw [rest_cons hh, hc])
  have CD := Lib.hid (next_at HR.out hh hc)
  have HCC := Lib.hid hc
  clear hc
  have hc0 : c.toNat < 256 := c.toNat_lt
  by_cases h95 : c = 95
  · subst h95
    go_upto_region 5 with (first
      | (go_at_call 161; refine CD.out.mono ?_; rintro e w2 ⟨rfl, hb2⟩; have hr2 := HR.out.below hb2; have hp2 := hr2.lt; have c1 := hr2.cell 1 rfl; have c2 := hr2.cell 2 rfl; have f1 := hr2.free 1; have f2 := hr2.free 2; have HR2 := Lib.hid hr2; have HB2 := Lib.hid hb2; clear hb2 hr2))
    obtain ⟨V, hV⟩ : ∃ V, V = (w2.setCell ⟨p, 2, Option.none⟩ (.int .i64 ((k : Int) + 1))).setCell ⟨p, 1, Option.none⟩ (.int .i64 ((i : Int) + 1)) := ⟨_, rfl⟩
    have HRV : Hid (Rdr V p s (i + 1) (k + 1)) := Lib.hid (by rw [hV]; exact Rdr.adv (Rdr.inc HR2.out))
    have HZV : Hid (BlkN V w.heap.size 27 #[.int .u8 0, .int .i64 0, .string ⟨#[]⟩, .slice Option.none 0 0, .int .i64 0]) := Lib.hid (by rw [hV]; exact ((HZ.out.below HB2.out).setOther (by show w.heap.size ≠ p; omega) _).setOther (by show w.heap.size ≠ p; omega) _)
    have HUV : Hid (Upd p w V) := Lib.hid (by rw [hV]; exact ((HU.out.below HB2.out).set 2 _).set 1 _)
    rw [← hV]
    clear hV c1 c2 f1 f2 HR2 HB2
    have d0 := HZV.out.cell 0 rfl
    have d1 := HZV.out.cell 1 rfl
    have d2 := HZV.out.cell 2 rfl
    have d3 := HZV.out.cell 3 rfl
    have d4 := HZV.out.cell 4 rfl
    have x0 := HZV.out.free 0
    have x1 := HZV.out.free 1
    have x2 := HZV.out.free 2
    have x3 := HZV.out.free 3
    have x4 := HZV.out.free 4
    have hVp := HZV.out.lt
    go_wp2_with fail
    obtain ⟨V', hV', hB3, hbut3⟩ := set5_done HZV.out (.int .u8 0) (.int .i64 0) (.string ⟨#[]⟩) (.slice Option.none 0 0) (.int .i64 0)
    rw [hV']
    refine bodyPost_ret (results_cell1 (s := 4) (b := w.heap.size) rfl Tryz.underlying27 hi0 rfl hB3 (by rw [hz1]; rfl)) rfl ⟨hbut3.upd (Nat.le_refl _) HUV.out, ?_⟩
    rw [HRC.out]
    have hr3 := HRV.out.but hbut3 (by omega)
    cases nest <;> exact ⟨i + 1, by omega, by omega, rfl, _, rfl, leafV _ _ _ _ _ _ (by decide) (by decide) (by decide), hr3⟩
  have hb95 : ((c.toNat : Int) == 95) = false := u8_beq (n := 95) (by decide) h95
  by_cases hnum : c = 45 ∨ digB c = true
  · have hrd : rdV nest (rest s i) k = match numV true (rest s i) with | .ok n r => .ok (.mk 1 n ⟨#[]⟩ [] 0, k + 1) r | .no r => .no r := by
      rw [HRC.out]
      cases nest <;> (simp only [rdV, if_neg h95, if_pos hnum]; rfl)
    have hbs : ((c.toNat : Int) == 45) = true ∨ (((c.toNat : Int) == 45) = false ∧ 48 ≤ c.toNat ∧ c.toNat ≤ 57) := by
      by_cases h45 : c = 45
      · left; rw [h45]; rfl
      · right
        have hd := hnum.resolve_left h45
        simp only [digB, Bool.and_eq_true, decide_eq_true_eq] at hd
        exact ⟨u8_beq (n := 45) (by decide) h45, hd⟩
    rcases hbs with hb45 | ⟨hb45, hc48, hc57⟩
    all_goals
      go_upto_region 8 with (first | (go_at_call 161; refine CD.out.mono ?_; rintro e w2 ⟨rfl, hb2⟩; have hr2 := HR.out.below hb2; have hp2 := hr2.lt; have c1 := hr2.cell 1 rfl; have c2 := hr2.cell 2 rfl; have f1 := hr2.free 1; have f2 := hr2.free 2; have HR2 := Lib.hid hr2; have HB2 := Lib.hid hb2; clear hb2 hr2))
      obtain ⟨V, hV⟩ : ∃ V, V = w2.setCell ⟨p, 2, Option.none⟩ (.int .i64 ((k : Int) + 1)) := ⟨_, rfl⟩
      have HRV := Lib.hid (show Rdr V p s _ (k + 1) by rw [hV]; exact Rdr.inc HR2.out)
      have HZV : Hid (BlkN V w.heap.size 27 #[.int .u8 0, .int .i64 0, .string ⟨#[]⟩, .slice Option.none 0 0, .int .i64 0]) := Lib.hid (by rw [hV]; exact (HZ.out.below HB2.out).setOther (by show w.heap.size ≠ p; omega) _)
      have HUV : Hid (Upd p w V) := Lib.hid (by rw [hV]; exact (HU.out.below HB2.out).set 2 _)
      rw [← hV]
      clear hV c1 c2 f1 f2 HR2 HB2
      have CN := number_any true s i (k + 1) V p HRV.out hh hs (by rw [← HCC.out]; exact hnum.imp (fun h => ⟨rfl, h⟩) id)
      cases hE : numV true (rest s i) with
      | no t =>
        rw [hE] at CN hrd
        have HCN := Lib.hid CN
        have HRD := Lib.hid hrd
        clear CN hE hrd
        go_wp2_with (first | (go_at_call 162; refine HCN.out.mono ?_; rintro e w3 ⟨hu3, j2, hj2, rfl, rfl⟩))
        refine ⟨rfl, HUV.out.trans hu3, ?_⟩
        rw [HRD.out]
        exact ⟨j2, hj2, rfl, rfl⟩
      | ok n t =>
        rw [hE] at CN hrd
        have HCN := Lib.hid CN
        have HRD := Lib.hid hrd
        clear CN hE hrd
        go_wp2_with (first | (go_at_call 162; refine HCN.out.mono ?_; rintro e w3 ⟨hu3, j2, hjj, hj2, rfl, rfl, hr3⟩; have hz3 := BlkN.upd hu3 HZV.out (by omega); have hVp := hz3.lt; have d0 := hz3.cell 0 rfl; have d1 := hz3.cell 1 rfl; have d2 := hz3.cell 2 rfl; have d3 := hz3.cell 3 rfl; have d4 := hz3.cell 4 rfl; have x0 := hz3.free 0; have x1 := hz3.free 1; have x2 := hz3.free 2; have x3 := hz3.free 3; have x4 := hz3.free 4; have HZ3 := Lib.hid hz3; have HR3 := Lib.hid hr3; have HU3 := Lib.hid (HUV.out.trans hu3); clear hz3 hr3 hu3))
        obtain ⟨V', hV', hB3, hbut3⟩ := set5_done HZ3.out (.int .u8 1) (.int .i64 n) (.string ⟨#[]⟩) (.slice Option.none 0 0) (.int .i64 0)
        rw [hV']
        refine bodyPost_ret (results_cell1 (s := 4) (b := w.heap.size) rfl Tryz.underlying27 hi0 rfl hB3 (by rw [hz1]; rfl)) rfl ⟨hbut3.upd (Nat.le_refl _) HU3.out, ?_⟩
        rw [HRD.out]
        exact ⟨j2, by omega, hj2, rfl, _, rfl, leafV _ _ _ _ _ _ (by decide) (by decide) (by decide), HR3.out.but hbut3 (by omega)⟩
  have hn45 : c ≠ 45 := fun e => hnum (.inl e)
  have hb45 : ((c.toNat : Int) == 45) = false := u8_beq (n := 45) (by decide) hn45
  have hnd : ¬ digB c = true := fun e => hnum (.inr e)
  by_cases h35 : c = 35
  · subst h35
    go_upto_region 12 with (first | (go_at_call 161; refine CD.out.mono ?_; rintro e w2 ⟨rfl, hb2⟩; have hr2 := HR.out.below hb2; have hp2 := hr2.lt; have c1 := hr2.cell 1 rfl; have c2 := hr2.cell 2 rfl; have f1 := hr2.free 1; have f2 := hr2.free 2; have HR2 := Lib.hid hr2; have HB2 := Lib.hid hb2; clear hb2 hr2))
    obtain ⟨V, hV⟩ : ∃ V, V = (w2.setCell ⟨p, 2, Option.none⟩ (.int .i64 ((k : Int) + 1))).setCell ⟨p, 1, Option.none⟩ (.int .i64 ((i : Int) + 1)) := ⟨_, rfl⟩
    have HRV := Lib.hid (show Rdr V p s _ (k + 1) by rw [hV]; exact Rdr.adv (Rdr.inc HR2.out))
    have HZV : Hid (BlkN V w.heap.size 27 #[.int .u8 0, .int .i64 0, .string ⟨#[]⟩, .slice Option.none 0 0, .int .i64 0]) := Lib.hid (by rw [hV]; exact ((HZ.out.below HB2.out).setOther (by show w.heap.size ≠ p; omega) _).setOther (by show w.heap.size ≠ p; omega) _)
    have HUV : Hid (Upd p w V) := Lib.hid (by rw [hV]; exact ((HU.out.below HB2.out).set 2 _).set 1 _)
    rw [← hV]
    clear hV c1 c2 f1 f2 HR2 HB2
    by_cases hh2 : i + 1 < s.size
    rotate_left
    · have CE := Lib.hid (next_end HRV.out (by omega) (by omega))
      go_wp2_with (first | (go_at_call 161; refine CE.out.mono ?_; rintro e w4 ⟨rfl, hb4⟩))
      refine ⟨rfl, HUV.out.below hb4, ?_⟩
      rw [HRC.out, rest_end (by omega)]
      cases nest <;> exact ⟨s.size, Nat.le_refl _, (rest_end (Nat.le_refl _)).symm, rfl⟩
    obtain ⟨d, hd⟩ : ∃ d, d = s[i + 1] := ⟨_, rfl⟩
    have HRD1 : Hid (rest s (i + 1) = d :: rest s (i + 1 + 1)) := Lib.hid (by rw [rest_cons hh2, hd])
    have CD2 := Lib.hid (next_at HRV.out hh2 hd)
    have HDD := Lib.hid hd
    clear hd
    have hd0 : d.toNat < 256 := d.toNat_lt
    by_cases hbad : d.toNat < 49 ∨ 57 < d.toNat
    · have HBAD := Lib.hid hbad
      clear hbad
      go_wp2_with (first | (go_at_call 161; refine CD2.out.mono ?_; rintro e w4 ⟨rfl, hb4⟩; have HB4 := Lib.hid hb4; clear hb4) | (go_at_call 81; refine (wrong_any s (i + 1) (k + 1) _ p (HRV.out.below HB4.out)).mono ?_; rintro e w5 ⟨hb5, rfl⟩))
      all_goals first
        | (refine ⟨rfl, (HUV.out.below HB4.out).below hb5, ?_⟩
           have e1 : rdV nest (rest s i) k = .no (rest s (i + 1)) := by
             rw [HRC.out, HRD1.out]
             cases nest <;> exact if_pos HBAD.out
           rw [e1]
           exact ⟨i + 1, by omega, rfl, rfl⟩)
        | (exfalso; have := HBAD.out; omega)
    have hrd : rdV nest (rest s i) k = match numV false (rest s (i + 1)) with | .ok n r => .ok (.mk 4 0 ⟨#[]⟩ [] n, k + 1) r | .no r => .no r := by
      rw [HRC.out, HRD1.out]
      cases nest <;> exact if_neg hbad
    have hdig : digB s[i + 1] = true := by
      rw [← HDD.out]
      simp only [digB, Bool.and_eq_true, decide_eq_true_eq]
      omega
    have HDIG := Lib.hid hdig
    have h49 : 49 ≤ d.toNat := by omega
    have h57 : d.toNat ≤ 57 := by omega
    clear hbad hdig
    go_upto_region 15 with (first | (go_at_call 161; refine CD2.out.mono ?_; rintro e w4 ⟨rfl, hb4⟩; have HB4 := Lib.hid hb4; clear hb4))
    have HRV := Lib.hid (show Rdr w4 p s (i + 1) (k + 1) from HRV.out.below HB4.out)
    have HZV := Lib.hid (HZV.out.below HB4.out)
    have HUV := Lib.hid (HUV.out.below HB4.out)
    have CN := number_any false s (i + 1) (k + 1) w4 p HRV.out hh2 hs (.inr HDIG.out)
    cases hE : numV false (rest s (i + 1)) with
    | no t =>
      rw [hE] at CN hrd
      have HCN := Lib.hid CN
      have HRD := Lib.hid hrd
      clear CN hE hrd
      go_wp2_with (first | (go_at_call 162; refine HCN.out.mono ?_; rintro e w3 ⟨hu3, j2, hj2, rfl, rfl⟩))
      refine ⟨rfl, HUV.out.trans hu3, ?_⟩
      rw [HRD.out]
      exact ⟨j2, hj2, rfl, rfl⟩
    | ok n t =>
      rw [hE] at CN hrd
      have HCN := Lib.hid CN
      have HRD := Lib.hid hrd
      clear CN hE hrd
      go_wp2_with (first | (go_at_call 162; refine HCN.out.mono ?_; rintro e w3 ⟨hu3, j2, hjj, hj2, rfl, rfl, hr3⟩; have hz3 := BlkN.upd hu3 HZV.out (by omega); have hVp := hz3.lt; have d0 := hz3.cell 0 rfl; have d1 := hz3.cell 1 rfl; have d2 := hz3.cell 2 rfl; have d3 := hz3.cell 3 rfl; have d4 := hz3.cell 4 rfl; have x0 := hz3.free 0; have x1 := hz3.free 1; have x2 := hz3.free 2; have x3 := hz3.free 3; have x4 := hz3.free 4; have HZ3 := Lib.hid hz3; have HR3 := Lib.hid hr3; have HU3 := Lib.hid (HUV.out.trans hu3); clear hz3 hr3 hu3))
      obtain ⟨V', hV', hB3, hbut3⟩ := set5_done HZ3.out (.int .u8 4) (.int .i64 0) (.string ⟨#[]⟩) (.slice Option.none 0 0) (.int .i64 n)
      rw [hV']
      refine bodyPost_ret (results_cell1 (s := 4) (b := w.heap.size) rfl Tryz.underlying27 hi0 rfl hB3 (by rw [hz1]; rfl)) rfl ⟨hbut3.upd (Nat.le_refl _) HU3.out, ?_⟩
      rw [HRD.out]
      exact ⟨j2, by omega, hj2, rfl, _, rfl, leafV _ _ _ _ _ _ (by decide) (by decide) (by decide), HR3.out.but hbut3 (by omega)⟩
  have hb35 : ((c.toNat : Int) == 35) = false := u8_beq (n := 35) (by decide) h35
  by_cases h34 : c = 34
  · subst h34
    have hrd : rdV nest (rest s i) k = match quo 256 (rest s i) with | .ok b r => .ok (.mk 2 0 (txtV b) [] 0, k + 1) r | .no r => .no r := by
      rw [HRC.out]
      cases nest <;> rfl
    have hql : ∀ b t, quo 256 (rest s i) = .ok b t → (txtV b).size ≤ 140737488351232 := fun b t h => by
      rw [HRC.out] at h
      have := qa_len 256 (rest s (i + 1)) .run [] b t (by simpa [quo] using h)
      have h2 : (rest s (i + 1)).length ≤ s.size := by simp [rest]
      simp only [txtV, ByteArray.size, List.size_toArray, List.length_nil] at this ⊢
      omega
    go_upto_region 18 with (first | (go_at_call 161; refine CD.out.mono ?_; rintro e w2 ⟨rfl, hb2⟩; have hr2 := HR.out.below hb2; have hp2 := hr2.lt; have c1 := hr2.cell 1 rfl; have c2 := hr2.cell 2 rfl; have f1 := hr2.free 1; have f2 := hr2.free 2; have HR2 := Lib.hid hr2; have HB2 := Lib.hid hb2; clear hb2 hr2))
    obtain ⟨V, hV⟩ : ∃ V, V = w2.setCell ⟨p, 2, Option.none⟩ (.int .i64 ((k : Int) + 1)) := ⟨_, rfl⟩
    have HRV := Lib.hid (show Rdr V p s _ (k + 1) by rw [hV]; exact Rdr.inc HR2.out)
    have HZV : Hid (BlkN V w.heap.size 27 #[.int .u8 0, .int .i64 0, .string ⟨#[]⟩, .slice Option.none 0 0, .int .i64 0]) := Lib.hid (by rw [hV]; exact (HZ.out.below HB2.out).setOther (by show w.heap.size ≠ p; omega) _)
    have HUV : Hid (Upd p w V) := Lib.hid (by rw [hV]; exact (HU.out.below HB2.out).set 2 _)
    rw [← hV]
    clear hV c1 c2 f1 f2 HR2 HB2
    have CN := quoted_any 256 s i (k + 1) V p HRV.out hi hs
    cases hE : quo 256 (rest s i) with
    | no t =>
      rw [hE] at CN hrd
      have HCN := Lib.hid CN
      have HRD := Lib.hid hrd
      clear CN hE hrd
      go_wp2_with (first | (go_at_call 107; refine HCN.out.mono ?_; rintro e w3 ⟨hu3, j2, hj2, rfl, rfl⟩))
      refine ⟨rfl, HUV.out.trans hu3, ?_⟩
      rw [HRD.out]
      exact ⟨j2, hj2, rfl, rfl⟩
    | ok b t =>
      have hq := hql b t hE
      rw [hE] at CN hrd
      have HCN := Lib.hid CN
      have HRD := Lib.hid hrd
      clear CN hE hrd
      go_wp2_with (first | (go_at_call 107; refine HCN.out.mono ?_; rintro e w3 ⟨hu3, j2, hjj, hj2, rfl, rfl, hr3⟩; have hz3 := BlkN.upd hu3 HZV.out (by omega); have hVp := hz3.lt; have d0 := hz3.cell 0 rfl; have d1 := hz3.cell 1 rfl; have d2 := hz3.cell 2 rfl; have d3 := hz3.cell 3 rfl; have d4 := hz3.cell 4 rfl; have x0 := hz3.free 0; have x1 := hz3.free 1; have x2 := hz3.free 2; have x3 := hz3.free 3; have x4 := hz3.free 4; have HZ3 := Lib.hid hz3; have HR3 := Lib.hid hr3; have HU3 := Lib.hid (HUV.out.trans hu3); clear hz3 hr3 hu3))
      obtain ⟨V', hV', hB3, hbut3⟩ := set5_done HZ3.out (.int .u8 2) (.int .i64 0) (.string (txtV b)) (.slice Option.none 0 0) (.int .i64 0)
      rw [hV']
      refine bodyPost_ret (results_cell1 (s := 4) (b := w.heap.size) rfl Tryz.underlying27 hi0 rfl hB3 (by rw [hz1]; rfl)) rfl ⟨hbut3.upd (Nat.le_refl _) HU3.out, ?_⟩
      rw [HRD.out]
      exact ⟨j2, by omega, hj2, rfl, _, rfl, leafV _ _ _ _ _ _ (by decide) (by decide) (hq), HR3.out.but hbut3 (by omega)⟩
  have hb34 : ((c.toNat : Int) == 34) = false := u8_beq (n := 34) (by decide) h34
  by_cases h91 : c = 91 ∧ 0 < nest
  rotate_left
  · have hrd : rdV nest (rest s i) k = .no (rest s i) := by
      rw [HRC.out]
      cases nest with
      | zero => simp only [rdV, if_neg h95, if_neg hnum, if_neg h35, if_neg h34]; split <;> rfl
      | succ n => simp only [rdV, if_neg h95, if_neg hnum, if_neg h35, if_neg h34]; rw [if_neg (fun e => h91 ⟨e, by omega⟩)]
    have hb : ((c.toNat : Int) == 91) = false ∨ (((c.toNat : Int) == 91) = true ∧ nest = 0) := by
      by_cases h : c = 91
      · exact .inr ⟨by rw [h]; rfl, by have : ¬ 0 < nest := fun e => h91 ⟨h, e⟩; omega⟩
      · exact .inl (u8_beq (n := 91) (by decide) h)
    have hdg : ¬ (48 ≤ c.toNat ∧ c.toNat ≤ 57) := fun e => hnd (by simp only [digB, Bool.and_eq_true, decide_eq_true_eq]; exact e)
    have HRD := Lib.hid hrd
    clear hrd
    have hlow : c.toNat < 48 ∨ 57 < c.toNat := by omega
    rcases hb with hb91 | ⟨hb91, rfl⟩
    all_goals rcases hlow with hlow | hlow
    all_goals
      go_wp2_with (first | (go_at_call 161; refine CD.out.mono ?_; rintro e w2 ⟨rfl, hb2⟩; have hr2 := HR.out.below hb2; have hp2 := hr2.lt; have c1 := hr2.cell 1 rfl; have c2 := hr2.cell 2 rfl; have f1 := hr2.free 1; have f2 := hr2.free 2; have HR2 := Lib.hid hr2; have HB2 := Lib.hid hb2; clear hb2 hr2) | (go_at_call 81; refine (wrong_any s i k _ p HR2.out).mono ?_; rintro e w5 ⟨hb5, rfl⟩))
    all_goals
      refine ⟨rfl, (HU.out.below HB2.out).below hb5, ?_⟩
      rw [HRD.out]
      exact ⟨i, hi, rfl, rfl⟩
  obtain ⟨rfl, hn0⟩ := h91
  obtain ⟨n, rfl⟩ : ∃ n, nest = n + 1 := ⟨nest - 1, by omega⟩
  have hrd : rdV (n + 1) (rest s i) k = match lsV (rdV n) 514 (rest s (i + 1)) (k + 1) [] with | .ok (l, q) r => .ok (.mk 3 0 ⟨#[]⟩ l 0, q) r | .no r => .no r := by
    rw [HRC.out]
    rfl
  go_upto_region 22 with (first | (go_at_call 161; refine CD.out.mono ?_; rintro e w2 ⟨rfl, hb2⟩; have hr2 := HR.out.below hb2; have hp2 := hr2.lt; have c1 := hr2.cell 1 rfl; have c2 := hr2.cell 2 rfl; have f1 := hr2.free 1; have f2 := hr2.free 2; have HR2 := Lib.hid hr2; have HB2 := Lib.hid hb2; clear hb2 hr2))
  obtain ⟨V, hV⟩ : ∃ V, V = (w2.setCell ⟨p, 2, Option.none⟩ (.int .i64 ((k : Int) + 1))).setCell ⟨p, 1, Option.none⟩ (.int .i64 ((i : Int) + 1)) := ⟨_, rfl⟩
  have HRV := Lib.hid (show Rdr V p s _ (k + 1) by rw [hV]; exact Rdr.adv (Rdr.inc HR2.out))
  have HZV : Hid (BlkN V w.heap.size 27 #[.int .u8 0, .int .i64 0, .string ⟨#[]⟩, .slice Option.none 0 0, .int .i64 0]) := Lib.hid (by rw [hV]; exact ((HZ.out.below HB2.out).setOther (by show w.heap.size ≠ p; omega) _).setOther (by show w.heap.size ≠ p; omega) _)
  have HUV : Hid (Upd p w V) := Lib.hid (by rw [hV]; exact ((HU.out.below HB2.out).set 2 _).set 1 _)
  rw [← hV]
  clear hV c1 c2 f1 f2 HR2 HB2
  have CL : ∀ z : Int, z = 16 - n → Calls Tryz.prog 163 #[.pointer (some ⟨p, 0, Option.none⟩), .int .i64 z] V fun e w' => Upd p V w' ∧ RsP (lsV (rdV n) 514 (rest s (i + 1)) (k + 1) []) s (i + 1) e (fun x j => ∃ v xs, e = .returned v ∧ VRow w' V.heap.size v x.1 xs ∧ Rdr w' p s j x.2) := by
    rintro _ rfl
    exact HL.out n rfl s (i + 1) (k + 1) V p HRV.out (by omega) hs (by omega)
  cases hE : lsV (rdV n) 514 (rest s (i + 1)) (k + 1) [] with
  | no t =>
    rw [hE] at CL hrd
    have HCL := Lib.hid CL
    have HRD := Lib.hid hrd
    clear CL hE hrd
    go_wp2_with (first | (go_at_call 163; refine (HCL.out _ (by omega)).mono ?_; rintro e w3 ⟨hu3, j2, hj2, rfl, rfl⟩))
    refine ⟨rfl, HUV.out.trans hu3, ?_⟩
    rw [HRD.out]
    exact ⟨j2, hj2, rfl, rfl⟩
  | ok y t =>
    obtain ⟨l, q⟩ := y
    have hll := lsV_len (rdV n) 514 _ _ _ _ _ hE
    simp only [List.length_nil, Nat.zero_add] at hll
    rw [hE] at CL hrd
    have HCL := Lib.hid CL
    have HRD := Lib.hid hrd
    clear CL hE hrd
    go_wp2_with (first | (go_at_call 163; refine (HCL.out _ (by omega)).mono ?_; rintro e w3 ⟨hu3, j2, hjj, hj2, rfl, vv, xs, rfl, hv3, hr3⟩; obtain ⟨A, cap, hsl, hcap, hlist⟩ := hv3.list; subst hsl; have hz3 := BlkN.upd hu3 HZV.out (by omega); have hVp := hz3.lt; have d0 := hz3.cell 0 rfl; have d1 := hz3.cell 1 rfl; have d2 := hz3.cell 2 rfl; have d3 := hz3.cell 3 rfl; have d4 := hz3.cell 4 rfl; have x0 := hz3.free 0; have x1 := hz3.free 1; have x2 := hz3.free 2; have x3 := hz3.free 3; have x4 := hz3.free 4; have HZ3 := Lib.hid hz3; have HR3 := Lib.hid hr3; have HU3 := Lib.hid (HUV.out.trans hu3); have HLI := Lib.hid hlist; clear hz3 hr3 hu3 hv3 hlist))
    obtain ⟨V', hV', hB3, hbut3⟩ := set5_done HZ3.out (.int .u8 3) (.int .i64 0) (.string ⟨#[]⟩) (.slice A l.length cap) (.int .i64 0)
    rw [hV']
    refine bodyPost_ret (results_cell1 (s := 4) (b := w.heap.size) rfl Tryz.underlying27 hi0 rfl hB3 (by rw [hz1]; rfl)) rfl ⟨hbut3.upd (Nat.le_refl _) HU3.out, ?_⟩
    rw [HRD.out]
    refine ⟨j2, by omega, hj2, rfl, _, rfl, ?_, HR3.out.but hbut3 (by omega)⟩
    have hRV := HZV.out.lt
    have hk3 : ∀ b o, Own34 w3 V.heap.size b o → V'.heap[b]? = w3.heap[b]? := fun b o hr => hbut3.other b (by have := hr.1; omega)
    unfold IsVaR
    refine ⟨by decide, by decide, by decide, by omega, A, cap, hcap, rfl, fun hne => ?_⟩
    obtain ⟨b, o, h1, h2, h3⟩ := HLI.out hne
    exact ⟨b, o, ⟨by have := h1.1; omega, h1.2.1, let ⟨cur, hc⟩ := h1.2.2; ⟨cur, (hk3 b o h1).trans hc⟩⟩, h2, IsVasR.mono (fun b o hr => ⟨by have := hr.1; omega, hr.2.1, let ⟨cur, hc⟩ := hr.2.2; ⟨cur, (hk3 b o hr).trans hc⟩⟩) (IsVasR.keep hk3 (hk3 b o h1) h3)⟩
theorem value_any : ∀ (nest : Nat), nest ≤ 16 → ValC nest
  | 0, _ => value_step 0 (by omega) (fun m e => by omega)
  | n + 1, h => value_step (n + 1) h (fun m e => by
    obtain rfl : m = n := by omega
    exact list_step m (value_any m (by omega)))
end Go.Proofs.YtjmelamllapmiaaGreatDoor
