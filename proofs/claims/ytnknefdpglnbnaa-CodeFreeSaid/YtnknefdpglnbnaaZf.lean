/- walk: all statements of a code are told, in their order, to a function that keeps an invariant. Check, check, May, Size. able.Join of two; namesIn and what Uses tells it; Uses. -/
import Derived.Test.YtnknefdpglnbnaaZb
import Derived.Deep.Cut
import Derived.Test.YtnknefdpglnbnaaZc
namespace Go.Proofs.Ytnknefdpglnbnaa
open Go.RowKit

mutual
def flat : St → Int → List (Int × St)
  | .mk op nm sec ab wh a b t e c ws, d => (d, .mk op nm sec ab wh a b t e c ws) :: (flats t (d + 1) ++ (flats e (d + 1) ++ flats c (d + 1)))
def flats : List St → Int → List (Int × St)
  | [], _ => []
  | x :: l, d => flat x d ++ flats l d
end
theorem flats_append (l m : List St) (d : Int) : flats (l ++ m) d = flats l d ++ flats m d := by
  induction l with
  | nil => simp [flats]
  | cons x l ih => simp [flats, ih]
theorem flats_take (l : List St) (d : Int) (k : Nat) (hk : k < l.length) : flats (l.take (k + 1)) d = flats (l.take k) d ++ flat l[k] d := by
  rw [List.take_succ_eq_append_getElem hk, flats_append]
  simp [flats]
theorem flats_split (l : List St) (d : Int) (k : Nat) (hk : k < l.length) : flats l d = flats (l.take k) d ++ (flat l[k] d ++ flats (l.drop (k + 1)) d) := by
  rw [← List.append_assoc, ← flats_take l d k hk, ← flats_append, List.take_append_drop]
theorem run_loadVar_at {P : Program} {w : World} {T : TypeId} {fs : Array Field} (ht : P.underlying T = some (.struct fs)) {i : TypeInfo} (hi : P.info? T = some i) {b o : Nat} {cs : Array Value} (hB : At w b o cs.toList) (hn : cs.size = i.size) :
    (loadVar T ⟨b, o, Option.none⟩).run P w = .ok (.agg cs) w := by
  have h := run_loadCells_list (P := P) w ⟨b, o, Option.none⟩ cs.toList (fun j v hv => by
    rw [show (⟨b, o, Option.none⟩ : Addr).add j = ⟨b, o + j, Option.none⟩ from by simp [Addr.add]]
    exact hB j v hv)
  rw [Array.length_toList, Array.toArray_toList, hn] at h
  unfold loadVar
  simp [isAgg, run_underlying ht, sizeOf, typeInfo, hi, h, Result.andThen]
theorem wpList_load_g {P : Program} {w : World} {ops : Array Oper} {rest : List Oper} {o : Oper} {a : Act} {Q : Exit → Act → World → Prop} (hg : Region.wanted o (yielded ops a.tmps) = true) (T : TypeId) (p : Operand) (hop : o.op = Op.load T p) (q : Addr) (hp : a.eval p = .pointer (some q)) (v : Value)
    (hl : (loadVar T q).run P w = .ok v w) (h : wpList P ops Q rest (a.put o.dst v) w) : wpList P ops Q (o :: rest) a w := by
  unfold wpList
  rw [if_pos hg]
  refine .inl ?_
  unfold Oper.wp
  simp [execOp, hop, hp, Instr.loadAt, Instr.sureAddr, hl, Result.andThen, Oper.upon]
  exact h
theorem flat_len (x : St) (d : Int) : 0 < (flat x d).length := by cases x; simp [flat]
/-- What was there is as it was, but for the blocks of O and block p. -/
structure Kp (O : Nat → Prop) (p : Nat) (w w' : World) : Prop where
  os : w'.os = w.os
  tape : w'.tape = w.tape
  output : w'.output = w.output
  size : w.heap.size ≤ w'.heap.size
  block : ∀ b, b < w.heap.size → ¬ O b → b ≠ p → w'.heap[b]? = w.heap[b]?
theorem Kp.refl {O : Nat → Prop} {p : Nat} {w : World} : Kp O p w w := ⟨rfl, rfl, rfl, Nat.le_refl _, fun _ _ _ _ => rfl⟩
theorem Kp.trans {O : Nat → Prop} {p : Nat} {a b c : World} (h : Kp O p a b) (k : Kp O p b c) : Kp O p a c := ⟨k.os.trans h.os, k.tape.trans h.tape, k.output.trans h.output, Nat.le_trans h.size k.size, fun q hq ho hp => (k.block q (Nat.lt_of_lt_of_le hq h.size) ho hp).trans (h.block q hq ho hp)⟩
theorem Kp.upd {O : Nat → Prop} {p : Nat} {a b c : World} (h : Kp O p a b) (k : Upd p b c) : Kp O p a c := h.trans ⟨k.os, k.tape, k.output, k.size, fun q hq _ hp => k.block q hq hp⟩
theorem Kp.of_below {O : Nat → Prop} {p : Nat} {w w' : World} (h : Below w.heap.size w w') : Kp O p w w' := ⟨h.os, h.tape, h.output, h.size, fun b hb _ _ => h.block b hb⟩
theorem Kp.own {O : Nat → Prop} {p q : Nat} {w w' : World} (h : Kp O q w w') (hq : O q) : Kp O p w w' := ⟨h.os, h.tape, h.output, h.size, fun b hb ho _ => h.block b hb ho (fun e => ho (e ▸ hq))⟩
theorem Kp.alloc {O : Nat → Prop} {p : Nat} {a w : World} (h : Kp O p a w) (o : Obj) : Kp O p a (w.alloc o) := h.trans (Kp.of_below ((Below.refl _ _).alloc (Nat.le_refl _) o))
theorem Kp.set {O : Nat → Prop} {p : Nat} {a w : World} (h : Kp O p a w) (q : Addr) (hq : O q.block) (v : Value) : Kp O p a (w.setCell q v) := h.trans ⟨rfl, rfl, rfl, by simp [World.setCell], fun b _ ho _ => Below.heap_setCell _ _ _ _ (fun e => ho (e ▸ hq))⟩
/-- A function that is told statements: it keeps I while it answers true; where it answers false, S holds. -/
structure Teller (k : Nat) (caps : Array Value) (O : Nat → Prop) (I S : List (Int × St) → World → Prop) (B p : Nat) (w0 : World) : Prop where
  cf : ∀ args w, (callFunc k args).run Try.prog w = .ok (.enter k args) w
  own : ∀ b, O b → b < w0.heap.size
  ownp : ¬ O p
  size : ∀ told w, I told w → w0.heap.size ≤ w.heap.size
  keep : ∀ told w, I told w → ∀ b, b < B → w.heap[b]? = w0.heap[b]?
  mono : ∀ told w w', I told w → Upd p w w' → I told w'
  call : ∀ told d x s w, I told w → IsSt w B s x → told.length ≤ 512 → 0 ≤ d → d ≤ 513 → Calls Try.prog k (#[.int .i64 (told.length : Nat), .int .i64 d, .agg s.arr] ++ caps) w fun e w' =>
    (∃ ok : Bool, e = .returned (.bool ok) ∧ (ok = true → I (told ++ [(d, x)]) w') ∧ (ok = false → S (told ++ [(d, x)]) w')) ∧ w'.heap[p]? = w.heap[p]? ∧ Kp O p w w'
/-- What holds where the walk was stopped: at a statement that was told, or where there are too many. -/
def Stop (I S : List (Int × St) → World → Prop) (told F : List (Int × St)) (w : World) : Prop :=
  ∃ m, m < F.length ∧ (S (told ++ F.take (m + 1)) w ∨ told.length + m = 513 ∧ I (told ++ F.take m) w)
def WPost (O : Nat → Prop) (I S : List (Int × St) → World → Prop) (p : Nat) (w0 : World) (told F : List (Int × St)) (e : Ending) (w : World) : Prop :=
  ∃ ok : Bool, e = .returned (.bool ok) ∧ (ok = true → I (told ++ F) w ∧ Blk w p 3 (.int .i64 ((told ++ F).length : Nat)) ∧ (told ++ F).length ≤ 513 ∧ Kp O p w0 w) ∧ (ok = false → Stop I S told F w)
def WalkC (k : Nat) (caps : Array Value) (O : Nat → Prop) (I S : List (Int × St) → World → Prop) (B p : Nat) (l : List St) : Prop :=
  ∀ (w : World) (A : Option Addr) (len cap : Nat) (d : Int) (told : List (Int × St)), LR (fun b _ => b < B) 256 A len cap l (fun b o => IsSts w B b o l) → I told w → Blk w p 3 (.int .i64 (told.length : Nat)) → 0 ≤ d → d ≤ told.length → told.length ≤ 513 →
    Calls Try.prog 74 #[.slice A len cap, .int .i64 d, .pointer (some ⟨p, 0, Option.none⟩), .func (.func k) #[] caps] w fun e w' => WPost O I S p w told (flats l d) e w'
theorem Stop.left {I S : List (Int × St) → World → Prop} {told F G : List (Int × St)} {w : World} (h : Stop I S told F w) : Stop I S told (F ++ G) w := by
  obtain ⟨m, hm, h⟩ := h
  refine ⟨m, by simp; omega, ?_⟩
  rwa [List.take_append_of_le_length (by omega), List.take_append_of_le_length (by omega)]
theorem Stop.right {I S : List (Int × St) → World → Prop} {told F G : List (Int × St)} {w : World} (h : Stop I S (told ++ F) G w) : Stop I S told (F ++ G) w := by
  obtain ⟨m, hm, h⟩ := h
  refine ⟨F.length + m, by simp; omega, ?_⟩
  have e1 : ∀ q, (F ++ G).take (F.length + q) = F ++ G.take q := fun q => by
    rw [List.take_append, List.take_of_length_le (Nat.le_add_right _ _), Nat.add_sub_cancel_left]
  rw [Nat.add_assoc, e1, e1, ← List.append_assoc, ← List.append_assoc]
  simpa [Nat.add_assoc] using h
attribute [local go_sem] SV.g0 SV.g1 SV.g2 SV.g3 SV.g4 SV.g5 SV.g6 SV.g7 SV.g8 SV.g9 SV.g10 SV.g11 SV.g12 SV.g13 SV.g14 SV.g15 SV.g16
attribute [local irreducible] wpList
/-- The blocks of a statement are walked as they must be. -/
def Dn (k : Nat) (caps : Array Value) (O : Nat → Prop) (I S : List (Int × St) → World → Prop) (B p : Nat) : St → Prop
  | .mk _ _ _ _ _ _ _ t e c _ => WalkC k caps O I S B p t ∧ WalkC k caps O I S B p e ∧ WalkC k caps O I S B p c
theorem stop_in {I S : List (Int × St) → World → Prop} {told pre G post F : List (Int × St)} {w : World} (hF : F = pre ++ (G ++ post)) (h : Stop I S (told ++ pre) G w) : Stop I S told F w := hF ▸ (h.left).right
theorem stop_at {I S : List (Int × St) → World → Prop} {told T0 rest F : List (Int × St)} {x : St} {d : Int} {w : World} (hF : F = T0 ++ (flat x d ++ rest)) (h : S ((told ++ T0) ++ [(d, x)]) w) : Stop I S told F w := by
  refine stop_in (pre := T0) (G := flat x d) (post := rest) hF ⟨0, flat_len x d, .inl ?_⟩
  obtain ⟨op, nm, sec, ab, wh, a, b, t, e, c, ws⟩ := x
  simpa [flat] using h
theorem stop_max {I S : List (Int × St) → World → Prop} {told T0 rest F : List (Int × St)} {x : St} {d : Int} {w : World} (hF : F = T0 ++ (flat x d ++ rest)) (hn : (told ++ T0).length = 513) (h : I (told ++ T0) w) : Stop I S told F w :=
  stop_in (pre := T0) (G := flat x d) (post := rest) hF ⟨0, flat_len x d, .inr ⟨by simpa using hn, by simpa using h⟩⟩
theorem stop_blk {I S : List (Int × St) → World → Prop} {told T0 T1 bq G r rest F : List (Int × St)} {y : Int × St} {w : World} (hT1 : T1 = told ++ T0 ++ [y]) (hF : F = T0 ++ ((y :: (bq ++ (G ++ r))) ++ rest)) (h : Stop I S (T1 ++ bq) G w) : Stop I S told F w := by
  refine stop_in (pre := T0 ++ y :: bq) (G := G) (post := r ++ rest) (by rw [hF]; simp) ?_
  have e : told ++ (T0 ++ y :: bq) = T1 ++ bq := by rw [hT1]; simp
  rw [e]
  exact h
/-- What the blocks of a statement, the first q of them, tell. -/
def bl3 (t e c : List St) (d : Int) : Nat → List (Int × St)
  | 0 => []
  | 1 => flats t d
  | 2 => flats t d ++ flats e d
  | _ => flats t d ++ (flats e d ++ flats c d)
set_option maxRecDepth 100000 in
set_option maxHeartbeats 4000000 in
theorem walk_list (k : Nat) (caps : Array Value) (O : Nat → Prop) (I S : List (Int × St) → World → Prop) (B p : Nat) (w0 : World) (hT : Teller k caps O I S B p w0) (_hBp : B ≤ p) (l : List St) (hD : ∀ x ∈ l, Dn k caps O I S B p x) : WalkC k caps O I S B p l := by
  intro w A len cap d told hl hI hn hd0 hd1 hlen
  obtain ⟨rfl, hcap, hbytes, hA⟩ := hl
  have hcf := hT.cf
  have HT := Lib.hid hT
  have HA := Lib.hid hA
  have HD := Lib.hid hD
  have HI := Lib.hid hI
  have HN := Lib.hid hn
  have hll : l.length ≤ 140737488351232 := by omega
  obtain ⟨i0, hi, hz0, hz1, hz2⟩ := info_parts info58
  clear hT hA hD hI hn hbytes
  go_enter Try.func74, Try.ntmps74
  go_wp2_with fail
  go_loopw [16] (fun i wr => ∃ j : Nat, j ≤ l.length ∧ i = .int .i64 j ∧ I (told ++ flats (l.take j) d) wr ∧ Blk wr p 3 (.int .i64 ((told ++ flats (l.take j) d).length : Nat)) ∧ (told ++ flats (l.take j) d).length ≤ 513 ∧ Kp O p w wr) (fun i _ => l.length - (intOf i).toNat)
  case atStart => exact ⟨0, Nat.zero_le _, rfl, by simpa [flats] using HI.out, by simpa [flats] using HN.out, by simpa [flats] using hlen, Kp.refl⟩
  case round =>
    obtain ⟨j, hj, rfl, hIr, hNr, hlr, hkp⟩ := hrel
    have HKP := Lib.hid hkp
    clear hkp
    by_cases hlt : j < l.length
    · obtain ⟨b, o, hbB, hAe, hx⟩ := HA.out (by rintro rfl; simp at hlt)
      obtain ⟨s, hat, hs⟩ := hx.at j hlt
      have hkr : ∀ b, b < B → wr.heap[b]? = w.heap[b]? := fun b hb => (HT.out.keep _ _ hIr b hb).trans (HT.out.keep _ _ HI.out b hb).symm
      have HAT := Lib.hid (At.keep hat hbB hkr)
      have HS := Lib.hid (IsSt.keep hkr hs)
      obtain ⟨x, hxe⟩ : ∃ x, x = l[j] := ⟨_, rfl⟩
      have HX := Lib.hid hxe
      rw [← hxe] at HS
      have HF := Lib.hid (flats_split l d j hlt)
      have HFT := Lib.hid (flats_take l d j hlt)
      rw [← hxe] at HF HFT
      obtain ⟨T0, hT0⟩ : ∃ T0, T0 = flats (l.take j) d := ⟨_, rfl⟩
      rw [← hT0] at hIr hNr hlr HF HFT
      obtain ⟨n, hn⟩ : ∃ n, n = (told ++ T0).length := ⟨_, rfl⟩
      rw [← hn] at hNr hlr
      have HNE := Lib.hid hn
      have HIR := Lib.hid hIr
      have HNR := Lib.hid hNr
      have hdn : d ≤ (n : Int) := by rw [hn]; simp; omega
      have hplt := hNr.lt
      subst hAe
      clear hxe hT0 hn hIr hNr hat hs hx hkr
      go_upto_region 4 with (first | (refine wpList_load_blk rfl 58 (.tmp 18) rfl ⟨b, o + j * 17, Option.none⟩ rfl (.agg s.arr) (run_loadVar_at Try.underlying58 hi HAT.out (by rw [hz1]; rfl)) ?_) | (refine wpList_store_blk rfl 58 (.tmp 10) (.tmp 19) rfl i0 hi wr.heap.size s.arr rfl rfl 58 SV.zero.arr (BlkN.at_ rfl 58 SV.zero.arr) (by rw [hz1]; rfl) rfl (SV.one _) ?_; intro w1 hB1 hbut))
      have hU1 : Upd p wr w1 := hbut.upd (Nat.le_refl _) ((Upd.refl p wr).alloc _)
      have HI1 := Lib.hid (HT.out.mono _ _ _ HIR.out hU1)
      have hN1 : Blk w1 p 3 (.int .i64 (n : Nat)) := (hbut.other _ (Nat.ne_of_lt hplt)).trans (HNR.out.alloc _)
      have HS1 := Lib.hid (IsSt.keep (fun b hb => (HT.out.keep _ _ HI1.out b hb).trans (HT.out.keep _ _ HIR.out b hb).symm) HS.out)
      have HB1 := Lib.hid hB1
      have HN1 := Lib.hid hN1
      have hpc := hN1.cell
      have hpf := hN1.free
      have hplt1 := hN1.lt
      have hblt1 := hB1.lt
      have HU1 := Lib.hid hU1
      clear hB1 hbut hU1 hN1
      by_cases hn5 : n ≤ 512
      · have hcf := HT.out.cf
        have hdec : decide ((512 : Int) < (n : Int)) = false := by simp; omega
        have hTl : (told ++ T0).length = n := HNE.out.symm
        have HB1' := Lib.hid (HB1.out.setOther (q := ⟨p, 0, Option.none⟩) (by simp; omega) (.int .i64 ((n : Int) + 1)))
        have HN1' := Lib.hid (HN1.out.set (.int .i64 ((n : Int) + 1)))
        have HU1' := Lib.hid ((Upd.refl p w1).set 0 (.int .i64 ((n : Int) + 1)))
        have HI1' := Lib.hid (HT.out.mono _ _ _ HI1.out HU1'.out)
        have HS1' := Lib.hid (IsSt.keep (fun b hb => (HT.out.keep _ _ HI1'.out b hb).trans (HT.out.keep _ _ HI1.out b hb).symm) HS1.out)
        have HC := Lib.hid (HT.out.call _ d x s _ HI1'.out HS1'.out (by omega) hd0 (by omega))
        rw [hTl] at HC
        clear hTl
        go_upto_region 8 with (first | (refine wpList_load_g rfl 58 (.tmp 10) rfl ⟨wr.heap.size, 0, Option.none⟩ rfl (.agg s.arr) (run_loadVar_blk Try.underlying58 hi HB1'.out (by rw [hz1]; rfl)) ?_) | (refine (HC.out).mono ?_; rintro e w2 ⟨⟨ok, rfl, hok1, hok2⟩, hp2, hk2⟩))
        · have hok : ok = false := by first | assumption | simp_all
          go_ret
          exact ⟨false, rfl, (fun h => nomatch h), fun _ => stop_at HF.out (hok2 hok)⟩
        have hok : ok = true := by first | assumption | simp_all
        have HI2 := Lib.hid (hok1 hok)
        subst hok
        rw [Bool.not_true]
        have HN2 : Hid (Blk w2 p 3 (.int .i64 ((n : Int) + 1))) := Lib.hid (hp2.trans HN1'.out)
        have hfr : ¬ O wr.heap.size := fun ho => absurd (HT.out.own _ ho) (Nat.not_lt.2 (HT.out.size _ _ HIR.out))
        have hB2 : BlkN w2 wr.heap.size 58 s.arr := (hk2.block _ HB1'.out.lt hfr (Nat.ne_of_gt hplt)).trans HB1'.out
        have HS2 := Lib.hid (IsSt.keep (fun b hb => (HT.out.keep _ _ HI2.out b hb).trans (HT.out.keep _ _ HI1'.out b hb).symm) HS1'.out)
        have HKP2 : Hid (Kp O p w w2) := Lib.hid ((HKP.out.trans (Kp.refl.upd (HU1.out.trans HU1'.out))).trans hk2)
        have q13 := hB2.cell 13 s.at13
        have q14 := hB2.cell 14 s.at14
        have q15 := hB2.cell 15 s.at15
        have hblt2 := hB2.lt
        have hplt2 := HN2.out.lt
        clear hok1 hok2 hp2 hk2 hB2 hpc hpf hblt1 hplt1 hdec hcf hfr
        have hD3 : Dn k caps O I S B p x := by rw [HX.out]; exact HD.out _ (List.getElem_mem hlt)
        obtain ⟨op, nm, sec, ab, wh, xa, xb, t, e, c, ws⟩ := x
        obtain ⟨hDt, hDe, hDc⟩ := hD3
        have HDt := Lib.hid hDt
        have HDe := Lib.hid hDe
        have HDc := Lib.hid hDc
        obtain ⟨T1, hT1⟩ : ∃ T1, T1 = (told ++ T0) ++ [(d, St.mk op nm sec ab wh xa xb t e c ws)] := ⟨_, rfl⟩
        have hT1l : T1.length = n + 1 := by rw [hT1, List.length_append, ← HNE.out]; rfl
        rw [← hT1] at HI2
        have HT1 := Lib.hid hT1
        have HT1l := Lib.hid hT1l
        have HFq : Hid (flats (l.take (j + 1)) d = T0 ++ ((d, St.mk op nm sec ab wh xa xb t e c ws) :: bl3 t e c (d + 1) 3)) := Lib.hid (by rw [HFT.out]; rfl)
        clear hDt hDe hDc hT1 hT1l
        go_wp2_with fail
        have hU3 : Upd p w2 (w2.alloc (.cells #[.slice s.tA s.tl s.tc, .slice s.eA s.el s.ec, .slice s.cA s.cl s.cc] 42)) := (Upd.refl p w2).alloc _
        obtain ⟨w3, hw3⟩ : ∃ w3, w3 = w2.alloc (.cells #[.slice s.tA s.tl s.tc, .slice s.eA s.el s.ec, .slice s.cA s.cl s.cc] 42) := ⟨_, rfl⟩
        have hB3 : BlkN w3 w2.heap.size 42 #[.slice s.tA s.tl s.tc, .slice s.eA s.el s.ec, .slice s.cA s.cl s.cc] := by rw [hw3]; exact BlkN.at_ rfl _ _
        rw [← hw3] at hU3 ⊢
        have HB3 := Lib.hid hB3
        have HI3 := Lib.hid (HT.out.mono _ _ _ HI2.out hU3)
        have HS3 := Lib.hid (IsSt.keep (fun b hb => (HT.out.keep _ _ HI3.out b hb).trans (HT.out.keep _ _ HI2.out b hb).symm) HS2.out)
        have HN3 : Hid (Blk w3 p 3 (.int .i64 (T1.length : Nat))) := Lib.hid (by rw [HT1l.out, hw3]; exact HN2.out.alloc _)
        have HKP3 := Lib.hid (HKP2.out.upd hU3)
        have HOF : Hid (¬ O w2.heap.size) := Lib.hid fun ho => absurd (HT.out.own _ ho) (Nat.not_lt.2 (HT.out.size _ _ HI2.out))
        have HPF : Hid (w2.heap.size ≠ p) := Lib.hid (Nat.ne_of_gt hplt2)
        clear hU3 hw3 hB3 q13 q14 q15 hblt2 hplt2
        go_loopw [46] (fun i wq => ∃ q : Nat, q ≤ 3 ∧ i = .int .i64 q ∧ I (T1 ++ bl3 t e c (d + 1) q) wq ∧ Blk wq p 3 (.int .i64 ((T1 ++ bl3 t e c (d + 1) q).length : Nat)) ∧ (T1 ++ bl3 t e c (d + 1) q).length ≤ 513 ∧ Kp O p w3 wq) (fun i _ => 3 - (intOf i).toNat)
        case atStart => exact ⟨0, by omega, rfl, by simpa [bl3] using HI3.out, by simpa [bl3] using HN3.out, by simp [bl3, HT1l.out]; omega, Kp.refl⟩
        case round =>
          obtain ⟨q, hq, rfl, hIq, hNq, hlq, hkq⟩ := hrel
          have HIQ := Lib.hid hIq
          have HNQ := Lib.hid hNq
          have HLQ := Lib.hid hlq
          have HKQ := Lib.hid hkq
          have hBq : BlkN wr w2.heap.size 42 #[.slice s.tA s.tl s.tc, .slice s.eA s.el s.ec, .slice s.cA s.cl s.cc] := (hkq.block _ HB3.out.lt HOF.out HPF.out).trans HB3.out
          have HSQ := Lib.hid (IsSt.keep (fun b hb => (HT.out.keep _ _ HIQ.out b hb).trans (HT.out.keep _ _ HI3.out b hb).symm) HS3.out)
          obtain ⟨_, _, _, _, gt, ge, gc, _⟩ := HSQ.out.form
          have HGT := Lib.hid gt
          have HGE := Lib.hid ge
          have HGC := Lib.hid gc
          have HDL : Hid (d + 1 ≤ ((T1 ++ bl3 t e c (d + 1) q).length : Nat)) := Lib.hid (by rw [List.length_append, HT1l.out]; omega)
          have r0 := hBq.cell 0 rfl
          have r1 := hBq.cell 1 rfl
          have r2 := hBq.cell 2 rfl
          clear hIq hNq hlq hkq hBq gt ge gc
          obtain rfl | rfl | rfl | rfl : q = 0 ∨ q = 1 ∨ q = 2 ∨ q = 3 := by omega
          · rw [show ((0 : Nat) : Int) = 0 from rfl]
            go_wp2_with (go_at_call 74; refine (HDt.out _ _ _ _ _ _ HGT.out HIQ.out HNQ.out (by omega) HDL.out HLQ.out).mono ?_; rintro e' w4 ⟨ok4, rfl, h41, h42⟩)
            · have hok : ok4 = false := by first | assumption | simp_all
              go_ret
              exact ⟨false, rfl, (fun h => nomatch h), fun _ => stop_blk (rest := flats (l.drop (j + 1)) d) (r := flats e (d + 1) ++ flats c (d + 1)) HT1.out (by rw [HF.out]; simp [flat, bl3]) (h42 hok)⟩
            · have hok : ok4 = true := by first | assumption | simp_all
              obtain ⟨k1, k2, k3, k4⟩ := h41 hok
              subst hok
              have eq : T1 ++ bl3 t e c (d + 1) 0 ++ flats t (d + 1) = T1 ++ bl3 t e c (d + 1) 1 := by simp [bl3]
              rw [eq] at k1 k2 k3
              go_roundw
              case rel => exact ⟨1, by omega, rfl, k1, k2, k3, HKQ.out.trans k4⟩
              case measure => simp [intOf]
          · rw [show ((1 : Nat) : Int) = 1 from rfl]
            go_wp2_with (go_at_call 74; refine (HDe.out _ _ _ _ _ _ HGE.out HIQ.out HNQ.out (by omega) HDL.out HLQ.out).mono ?_; rintro e' w4 ⟨ok4, rfl, h41, h42⟩)
            · have hok : ok4 = false := by first | assumption | simp_all
              go_ret
              exact ⟨false, rfl, (fun h => nomatch h), fun _ => stop_blk (rest := flats (l.drop (j + 1)) d) (r := flats c (d + 1)) HT1.out (by rw [HF.out]; simp [flat, bl3]) (h42 hok)⟩
            · have hok : ok4 = true := by first | assumption | simp_all
              obtain ⟨k1, k2, k3, k4⟩ := h41 hok
              subst hok
              have eq : T1 ++ bl3 t e c (d + 1) 1 ++ flats e (d + 1) = T1 ++ bl3 t e c (d + 1) 2 := by simp [bl3]
              rw [eq] at k1 k2 k3
              go_roundw
              case rel => exact ⟨2, by omega, rfl, k1, k2, k3, HKQ.out.trans k4⟩
              case measure => simp [intOf]
          · rw [show ((2 : Nat) : Int) = 2 from rfl]
            go_wp2_with (go_at_call 74; refine (HDc.out _ _ _ _ _ _ HGC.out HIQ.out HNQ.out (by omega) HDL.out HLQ.out).mono ?_; rintro e' w4 ⟨ok4, rfl, h41, h42⟩)
            · have hok : ok4 = false := by first | assumption | simp_all
              go_ret
              exact ⟨false, rfl, (fun h => nomatch h), fun _ => stop_blk (rest := flats (l.drop (j + 1)) d) (r := []) HT1.out (by rw [HF.out]; simp [flat, bl3]) (h42 hok)⟩
            · have hok : ok4 = true := by first | assumption | simp_all
              obtain ⟨k1, k2, k3, k4⟩ := h41 hok
              subst hok
              have eq : T1 ++ bl3 t e c (d + 1) 2 ++ flats c (d + 1) = T1 ++ bl3 t e c (d + 1) 3 := by simp [bl3]
              rw [eq] at k1 k2 k3
              go_roundw
              case rel => exact ⟨3, by omega, rfl, k1, k2, k3, HKQ.out.trans k4⟩
              case measure => simp [intOf]
          · rw [show ((3 : Nat) : Int) = 3 from rfl]
            go_wp2_with fail
            have e3 : told ++ flats (l.take (j + 1)) d = T1 ++ bl3 t e c (d + 1) 3 := by rw [HFq.out, HT1.out]; simp
            go_roundw
            case rel => exact ⟨j + 1, by omega, by go_num, by rw [e3]; exact HIQ.out, by rw [e3]; exact HNQ.out, by rw [e3]; exact HLQ.out, HKP3.out.trans HKQ.out⟩
            case measure => simp [intOf]; omega
      · obtain rfl : n = 513 := by omega
        go_wp2_with fail
        go_ret
        exact ⟨false, rfl, (fun h => nomatch h), fun _ => stop_max HF.out HNE.out.symm (HT.out.mono _ _ _ HI1.out ((Upd.refl p w1).set 0 _))⟩
    · obtain rfl : j = l.length := by omega
      have HIr := Lib.hid hIr
      have HNr := Lib.hid hNr
      have HLr := Lib.hid hlr
      clear hIr hNr hlr
      go_wp2_with fail
      go_ret
      have h1 := HIr.out
      have h2 := HNr.out
      have h3 := HLr.out
      rw [List.take_length] at h1 h2 h3
      exact ⟨true, rfl, fun _ => ⟨h1, h2, h3, HKP.out⟩, (fun h => nomatch h)⟩
theorem walk_any (k : Nat) (caps : Array Value) (O : Nat → Prop) (I S : List (Int × St) → World → Prop) (B p : Nat) (w0 : World) (hT : Teller k caps O I S B p w0) (hBp : B ≤ p) (l : List St) : WalkC k caps O I S B p l :=
  walk_list k caps O I S B p w0 hT hBp l fun x hx => by
    clear hx
    induction x using St.ind with
    | h op nm sec ab wh a b t e c ws h1 h2 h3 => exact ⟨walk_list k caps O I S B p w0 hT hBp t h1, walk_list k caps O I S B p w0 hT hBp e h2, walk_list k caps O I S B p w0 hT hBp c h3⟩
end Go.Proofs.Ytnknefdpglnbnaa
namespace Go.Proofs.Ytnknefdpglnbnaa
open Go.RowKit

/-- The first statement that may not be, counted from i; 0, 0: none. -/
def chk : List St → Nat → Nat × Nat
  | [], _ => (0, 0)
  | x :: l, i => if i = 512 then (512, 4) else if mayS x = true then chk l (i + 1) else (i, 160)
def mays (l : List (Int × St)) : Bool := l.all fun r => mayS r.2
theorem chk_may (l : List (Int × St)) (i : Nat) (h : mays l = true) (hi : i + l.length ≤ 512) : chk (l.map (·.2)) i = (0, 0) := by
  induction l generalizing i with
  | nil => rfl
  | cons x l ih =>
    simp only [mays, List.all_cons, Bool.and_eq_true] at h
    simp only [List.length_cons] at hi
    simp only [List.map_cons, chk]
    rw [if_neg (by omega), if_pos h.1]
    exact ih (i + 1) h.2 (by omega)
theorem chk_stop (l : List (Int × St)) (x : Int × St) (m : List (Int × St)) (i : Nat) (h : mays l = true) (hi : i + l.length ≤ 512) (hx : i + l.length = 512 ∨ mayS x.2 = false) :
    chk ((l ++ x :: m).map (·.2)) i = (i + l.length, if i + l.length = 512 then 4 else 160) := by
  induction l generalizing i with
  | nil =>
    simp only [List.nil_append, List.map_cons, chk, List.length_nil, Nat.add_zero] at *
    by_cases hc : i = 512
    · simp [hc]
    · have hf := hx.resolve_left hc
      simp [hc, hf]
  | cons y l ih =>
    simp only [mays, List.all_cons, Bool.and_eq_true] at h
    simp only [List.length_cons] at hi hx
    simp only [List.cons_append, List.map_cons, chk, List.length_cons]
    rw [if_neg (by omega), if_pos h.1, ih (i + 1) h.2 (by omega) (hx.imp (fun h => by omega) id), show i + 1 + l.length = i + (l.length + 1) by omega]
attribute [local go_sem] SV.g0 SV.g1 SV.g2 SV.g3 SV.g4 SV.g5 SV.g6 SV.g7 SV.g8 SV.g9 SV.g10 SV.g11 SV.g12 SV.g13 SV.g14 SV.g15 SV.g16
attribute [local irreducible] wpList
set_option maxRecDepth 100000 in
set_option maxHeartbeats 1000000 in
theorem chk1_long (s : SV) (d : Int) (w : World) (q1 q2 : Nat) (h1 : Blk w q1 3 (.int .i64 0)) (h2 : Blk w q2 35 (.int .i64 0)) (hq : q1 ≠ q2) :
    Calls Try.prog 75 #[.int .i64 512, .int .i64 d, .agg s.arr, .pointer (some ⟨q1, 0, Option.none⟩), .pointer (some ⟨q2, 0, Option.none⟩)] w fun e w' =>
      e = .returned (.bool false) ∧ Blk w' q1 3 (.int .i64 512) ∧ Blk w' q2 35 (.int .i64 4) ∧ Kp (fun b => b = q1 ∨ b = q2) q1 w w' := by
  have h17 := s.size
  have H1 := Lib.hid h1
  have H2 := Lib.hid h2
  have l1 := h1.lt
  have l2 := h2.lt
  have c1 := h1.cell
  have c2 := h2.cell
  have f1 := h1.free
  have f2 := h2.free
  obtain ⟨i0, hi, hz0, hz1, hz2⟩ := info_parts info58
  clear h1 h2
  go_enter Try.func75, Try.ntmps75
  go_wp2_with fail
  go_ret
  exact ⟨rfl, ((H1.out.set _).setOther hq _).alloc _, ((H2.out.setOther (Ne.symm hq) _).set _).alloc _, ((Kp.refl.set _ (.inl rfl) _).set _ (.inr rfl) _).alloc _⟩
set_option maxRecDepth 100000 in
set_option maxHeartbeats 1000000 in
theorem chk1_short (s : SV) (x : St) (d : Int) (k : Nat) (w : World) (B : Nat) (q1 q2 : Nat) (hk : k < 512) (hs : IsSt w B s x) (hB1 : B ≤ q1) (_hB2 : B ≤ q2) (h1 : Blk w q1 3 (.int .i64 0)) (h2 : Blk w q2 35 (.int .i64 0)) (hq : q1 ≠ q2) :
    Calls Try.prog 75 #[.int .i64 k, .int .i64 d, .agg s.arr, .pointer (some ⟨q1, 0, Option.none⟩), .pointer (some ⟨q2, 0, Option.none⟩)] w fun e w' =>
      ∃ ok : Bool, e = .returned (.bool ok) ∧ (ok = true → mayS x = true ∧ Below w.heap.size w w') ∧ (ok = false → mayS x = false ∧ Blk w' q1 3 (.int .i64 k) ∧ Blk w' q2 35 (.int .i64 160) ∧ Kp (fun b => b = q1 ∨ b = q2) q1 w w') := by
  have h17 := s.size
  have l1 := h1.lt
  have l2 := h2.lt
  obtain ⟨w0, hw0⟩ : ∃ w0, w0 = w.alloc (.cells s.arr 58) := ⟨_, rfl⟩
  have hb0 : Below w.heap.size w w0 := by rw [hw0]; exact (Below.refl _ _).alloc (Nat.le_refl _) _
  have HA := Lib.hid (show BlkN w0 w.heap.size 58 s.arr by rw [hw0]; exact BlkN.at_ rfl _ _)
  have HB0 := Lib.hid hb0
  have HS := Lib.hid (IsSt.keep (fun b hb => hb0.block b (by omega)) hs)
  have H1 := Lib.hid (h1.below hb0)
  have H2 := Lib.hid (h2.below hb0)
  have hdec : ((k : Int) == 512) = false := by rw [beq_eq_false_iff_ne]; omega
  obtain ⟨i0, hi, hz0, hz1, hz2⟩ := info_parts info58
  have hsz := hb0.size
  clear h1 h2 hs hb0
  have HC := Lib.hid (mayS_any s x w0 B (by omega) HS.out)
  go_enter Try.func75, Try.ntmps75
  go_upto_region 1 with (fail)
  rw [← hw0]
  clear hw0
  cases hm : mayS x
  · have HM := Lib.hid hm
    rw [hm] at HC
    clear hm
    go_wp2_with (first | (refine wpList_load_blk rfl 58 (.tmp 7) rfl ⟨w.heap.size, 0, Option.none⟩ rfl (.agg s.arr) (run_loadVar_blk Try.underlying58 hi HA.out (by rw [hz1]; rfl)) ?_) | (go_at_call 76; refine HC.out.mono ?_; rintro e w1 ⟨rfl, hb1⟩; have g1 := H1.out.below hb1; have g2 := H2.out.below hb1; have G1 := Lib.hid g1; have G2 := Lib.hid g2; have c1 := g1.cell; have c2 := g2.cell; have f1 := g1.free; have f2 := g2.free; have m1 := g1.lt; have m2 := g2.lt; clear g1 g2))
    go_ret
    exact ⟨false, rfl, (fun h => nomatch h), fun _ => ⟨HM.out, (G1.out.set _).setOther hq _, (G2.out.setOther (Ne.symm hq) _).set _, ((Kp.of_below (HB0.out.trans (hb1.mono hsz))).set _ (.inl rfl) _).set _ (.inr rfl) _⟩⟩
  · have HM := Lib.hid hm
    rw [hm] at HC
    clear hm
    go_wp2_with (first | (refine wpList_load_blk rfl 58 (.tmp 7) rfl ⟨w.heap.size, 0, Option.none⟩ rfl (.agg s.arr) (run_loadVar_blk Try.underlying58 hi HA.out (by rw [hz1]; rfl)) ?_) | (go_at_call 76; refine HC.out.mono ?_; rintro e w1 ⟨rfl, hb1⟩; have g2 := H2.out.below hb1; have c2 := g2.cell; clear g2))
    go_ret
    exact ⟨true, rfl, fun _ => ⟨HM.out, HB0.out.trans (hb1.mono hsz)⟩, (fun h => nomatch h)⟩
/-- What holds while all were well, and where the first was not. -/
def ChkI (q1 q2 p : Nat) (w0 : World) (told : List (Int × St)) (w : World) : Prop :=
  mays told = true ∧ told.length ≤ 512 ∧ Blk w q1 3 (.int .i64 0) ∧ Blk w q2 35 (.int .i64 0) ∧ Kp (fun b => b = q1 ∨ b = q2) p w0 w
def ChkS (q1 q2 p : Nat) (w0 : World) (told : List (Int × St)) (w : World) : Prop :=
  ∃ l x, told = l ++ [x] ∧ mays l = true ∧ l.length ≤ 512 ∧ (l.length = 512 ∨ mayS x.2 = false) ∧ Blk w q1 3 (.int .i64 (l.length : Nat)) ∧ Blk w q2 35 (.int .i64 ((if l.length = 512 then 4 else 160 : Nat) : Int)) ∧ Kp (fun b => b = q1 ∨ b = q2) p w0 w
theorem cf75 (args : Array Value) (w : World) : (callFunc 75 args).run Try.prog w = .ok (.enter 75 args) w := by go_simp
theorem chk_teller (q1 q2 B p : Nat) (w0 : World) (h1 : q1 < w0.heap.size) (h2 : q2 < w0.heap.size) (hq : q1 ≠ q2) (hp1 : p ≠ q1) (hp2 : p ≠ q2) (hB1 : B ≤ q1) (hB2 : B ≤ q2) (hBp : B ≤ p) (hp : p < w0.heap.size) :
    Teller 75 #[.pointer (some ⟨q1, 0, Option.none⟩), .pointer (some ⟨q2, 0, Option.none⟩)] (fun b => b = q1 ∨ b = q2) (ChkI q1 q2 p w0) (ChkS q1 q2 p w0) B p w0 where
  cf := cf75
  own := by rintro b (rfl | rfl) <;> assumption
  ownp := by rintro (rfl | rfl) <;> simp at *
  size := fun told w h => h.2.2.2.2.size
  keep := fun told w h b hb => h.2.2.2.2.block b (by omega) (by rintro (rfl | rfl) <;> omega) (by omega)
  mono := fun told w w' ⟨a1, a2, a3, a4, a5⟩ hu => ⟨a1, a2, hu.blk a3 (Ne.symm hp1), hu.blk a4 (Ne.symm hp2), a5.upd hu⟩
  call := by
    rintro told d x s w ⟨a1, a2, a3, a4, a5⟩ hs hlen hd0 hd1
    have hsz := a5.size
    by_cases hk : told.length = 512
    · rw [hk]
      refine (chk1_long s d w q1 q2 a3 a4 hq).mono ?_
      rintro e w' ⟨rfl, b1, b2, b3⟩
      exact ⟨⟨false, rfl, (fun h => nomatch h), fun _ => ⟨told, (d, x), rfl, a1, a2, .inl hk, by rw [hk]; exact b1, by rw [if_pos hk]; exact b2, a5.trans (b3.own (.inl rfl))⟩⟩, b3.block p (by omega) (by rintro (rfl | rfl) <;> omega) hp1, b3.own (.inl rfl)⟩
    · refine (chk1_short s x d told.length w B q1 q2 (by omega) hs hB1 hB2 a3 a4 hq).mono ?_
      rintro e w' ⟨ok, rfl, c1, c2⟩
      cases ok with
      | true =>
        obtain ⟨m1, m2⟩ := c1 rfl
        exact ⟨⟨true, rfl, fun _ => ⟨by simp [mays] at a1 ⊢; exact ⟨a1, m1⟩, by simp; omega, a3.below m2, a4.below m2, a5.trans (Kp.of_below m2)⟩, (fun h => nomatch h)⟩, m2.block p (by omega), Kp.of_below m2⟩
      | false =>
        obtain ⟨m1, b1, b2, b3⟩ := c2 rfl
        exact ⟨⟨false, rfl, (fun h => nomatch h), fun _ => ⟨told, (d, x), rfl, a1, a2, .inr m1, b1, by rw [if_neg hk]; exact b2, a5.trans (b3.own (.inl rfl))⟩⟩, b3.block p (by omega) (by rintro (rfl | rfl) <;> omega) hp1, b3.own (.inl rfl)⟩
/-- What Check says of a code. -/
def chkL (l : List St) : Nat × Nat := chk ((flats l 0).map (·.2)) 0
theorem chk_post {q1 q2 p : Nat} {w0 w : World} {F : List (Int × St)} {e : Ending} {O : Nat → Prop} {l : List St} (hF : F = flats l 0) (h : WPost O (ChkI q1 q2 p w0) (ChkS q1 q2 p w0) p w0 [] F e w) :
    ∃ ok : Bool, e = .returned (.bool ok) ∧ Blk w q1 3 (.int .i64 ((chkL l).1 : Nat)) ∧ Blk w q2 35 (.int .i64 ((chkL l).2 : Nat)) ∧ Kp (fun b => b = q1 ∨ b = q2) p w0 w := by
  obtain ⟨ok, he, h1, h2⟩ := h
  refine ⟨ok, he, ?_⟩
  unfold chkL
  rw [← hF]
  cases ok with
  | true =>
    obtain ⟨⟨a1, a2, a3, a4, a5⟩, _⟩ := h1 rfl
    rw [List.nil_append] at a1 a2
    rw [chk_may F 0 a1 (by omega)]
    exact ⟨a3, a4, a5⟩
  | false =>
    obtain ⟨m, hm, h3⟩ := h2 rfl
    rcases h3 with ⟨l', x, e1, a1, a2, a3, a4, a5, a6⟩ | ⟨h3, a1, a2, _⟩
    · rw [List.nil_append] at e1
      have e2 : F = l' ++ x :: F.drop (m + 1) := by
        conv => lhs; rw [← List.take_append_drop (m + 1) F, e1]
        simp
      rw [e2, chk_stop l' x _ 0 a1 (by omega) (by simpa using a3), Nat.zero_add]
      exact ⟨a4, a5, a6⟩
    · simp at a2 h3; omega
set_option maxRecDepth 100000 in
set_option maxHeartbeats 1000000 in
theorem Check_any (l : List St) (A : Option Addr) (len cap : Nat) (w : World) (B : Nat) (hB : B ≤ w.heap.size) (h : LR (fun b _ => b < B) 256 A len cap l (fun b o => IsSts w B b o l)) :
    Calls Try.prog 28 #[.slice A len cap] w fun e w' => e = .returned (.tuple #[.int .i64 ((chkL l).1 : Nat), .int .i64 ((chkL l).2 : Nat)]) ∧ Below w.heap.size w w' := by
  have HH := Lib.hid h
  clear h
  go_enter Try.func28, Try.ntmps28
  go_upto_region 2 with (fail)
  obtain ⟨w0, hw0⟩ : ∃ w0, w0 = ((w.alloc (.cells #[.int .i64 0] 3)).alloc (.cells #[.int .i64 0] 35)).alloc (.cells #[.int .i64 0] 3) := ⟨_, rfl⟩
  have hb0 : Below w.heap.size w w0 := by rw [hw0]; exact (((Below.refl _ _).alloc (Nat.le_refl _) _).alloc (by simp) _).alloc (by simp; omega) _
  have k1 : Blk w0 w.heap.size 3 (.int .i64 0) := by rw [hw0]; exact ((Blk.at_ rfl _ _).alloc _).alloc _
  have k2 : Blk w0 (w.heap.size + 1) 35 (.int .i64 0) := by rw [hw0]; exact (Blk.at_ (by simp) _ _).alloc _
  have k3 : Blk w0 (w.heap.size + 1 + 1) 3 (.int .i64 0) := by rw [hw0]; exact Blk.at_ (by simp) _ _
  rw [← hw0]
  have hT := chk_teller w.heap.size (w.heap.size + 1) B (w.heap.size + 1 + 1) w0 k1.lt k2.lt (by omega) (by omega) (by omega) (by omega) (by omega) (by omega) k3.lt
  have HW := Lib.hid (walk_any 75 _ _ _ _ B _ w0 hT (by omega) l w0 A len cap 0 [] (HH.out.imp fun b o hr hp => ⟨hr, IsSts.keep (fun b hb => hb0.block b (by omega)) hr hp⟩) ⟨rfl, by simp, k1, k2, Kp.refl⟩ (by simpa using k3) (by omega) (by simp) (by simp))
  have HB0 := Lib.hid hb0
  clear hw0 hT k1 k2 k3 hb0
  go_wp2_with (go_at_call 74; refine HW.out.mono ?_; rintro e w1 hP; obtain ⟨ok, rfl, c1, c2, c3⟩ := chk_post rfl hP; clear hP)
  obtain ⟨va, hva⟩ : ∃ va, va = (chkL l).1 := ⟨_, rfl⟩
  obtain ⟨ve, hve⟩ : ∃ ve, ve = (chkL l).2 := ⟨_, rfl⟩
  rw [← hva] at c1
  rw [← hve] at c2
  have HVA := Lib.hid hva
  have HVE := Lib.hid hve
  clear hva hve
  have C1 := Lib.hid c1
  have C2 := Lib.hid c2
  have C3 := Lib.hid c3
  have d1 := c1.cell
  have d2 := c2.cell
  have f1 := c1.free
  have f2 := c2.free
  clear c1 c2 c3
  go_region
  go_wp2_with fail
  have e1 : w.heap.size ≠ w.heap.size + 1 := by omega
  have D1 := ((C1.out.set (.int .i64 va)).setOther (q := ⟨w.heap.size + 1, 0, Option.none⟩) e1 (.int .i64 ve)).cell
  have D2 := ((C2.out.setOther (q := ⟨w.heap.size, 0, Option.none⟩) (Ne.symm e1) (.int .i64 va)).set (.int .i64 ve)).cell
  have hb1 : Below w.heap.size w w1 := ⟨C3.out.os.trans HB0.out.os, C3.out.tape.trans HB0.out.tape, C3.out.output.trans HB0.out.output, Nat.le_trans HB0.out.size C3.out.size, fun k hk => (C3.out.block k (Nat.lt_of_lt_of_le hk HB0.out.size) (by rintro (rfl | rfl) <;> omega) (by omega)).trans (HB0.out.block k (by omega))⟩
  exact bodyPost_ret (v := .tuple #[.int .i64 va, .int .i64 ve]) (by simp [results, Try.results28, go_sem, D1, D2]) rfl ⟨by rw [HVA.out, HVE.out], ((hb1.setCell (by simp) _).setCell (by simp) _).drew⟩
set_option maxHeartbeats 1000000 in
theorem check_any (l : List St) (A : Option Addr) (len cap : Nat) (w : World) (B : Nat) (hB : B ≤ w.heap.size) (h : LR (fun b _ => b < B) 256 A len cap l (fun b o => IsSts w B b o l)) :
    Calls Try.prog 78 #[.slice A len cap] w fun e w' => e = .returned (.int .i64 ((chkL l).2 : Nat)) ∧ Below w.heap.size w w' := by
  have HH := Lib.hid h
  clear h
  go_enter Try.func78, Try.ntmps78
  go_wp2_with (go_at_call 28; refine (Check_any l A len cap _ B hB HH.out).mono ?_; rintro e w1 ⟨rfl, hb1⟩)
  go_ret
  exact ⟨rfl, hb1⟩
set_option maxHeartbeats 1000000 in
theorem May_any (l : List St) (A : Option Addr) (len cap : Nat) (w : World) (B : Nat) (hB : B ≤ w.heap.size) (h : LR (fun b _ => b < B) 256 A len cap l (fun b o => IsSts w B b o l)) :
    Calls Try.prog 30 #[.slice A len cap] w fun e w' => e = .returned (.bool (((chkL l).2 : Int) == 0)) ∧ Below w.heap.size w w' := by
  have HH := Lib.hid h
  clear h
  go_enter Try.func30, Try.ntmps30
  go_wp2_with (go_at_call 78; refine (check_any l A len cap _ B hB HH.out).mono ?_; rintro e w1 ⟨rfl, hb1⟩)
  go_ret
  exact ⟨rfl, hb1⟩
end Go.Proofs.Ytnknefdpglnbnaa
namespace Go.Proofs.Ytnknefdpglnbnaa
open Go.RowKit

def joinI (x y : Int) : Int := bits .or .u8 (bits .or .u8 0 (x % 64)) (y % 64)
set_option maxHeartbeats 1000000 in
theorem join2_any (x y : Int) (hx0 : 0 ≤ x) (hx : x < 256) (hy0 : 0 ≤ y) (hy : y < 256) (w : World) (b : Nat) (h : BlkN w b 49 #[.int .u8 x, .int .u8 y]) :
    Calls Try.prog 82 #[.slice (some ⟨b, 0, Option.none⟩) 2 2] w fun e w' => e = .returned (.int .u8 (joinI x y)) ∧ w = w' := by
  have c0 := h.cell 0 rfl
  have c1 := h.cell 1 rfl
  clear h
  go_enter Try.func82, Try.ntmps82
  go_wp2_with fail
  go_loop [3, 5, 8] (fun m _ i => (i = .int .i64 0 ∧ m = .int .u8 0) ∨ (i = .int .i64 1 ∧ m = .int .u8 (bits .or .u8 0 (x % 64))) ∨ (i = .int .i64 2 ∧ m = .int .u8 (bits .or .u8 (bits .or .u8 0 (x % 64)) (y % 64)))) (fun _ _ i => 2 - (intOf i).toNat)
  case atStart => exact .inl ⟨rfl, rfl⟩
  case round =>
    obtain ⟨rfl, rfl⟩ | ⟨rfl, rfl⟩ | ⟨rfl, rfl⟩ := hrel
    · go_wp2_with fail
      exact ⟨.inr (.inl ⟨rfl, rfl⟩), by decide⟩
    · go_wp2_with fail
      exact ⟨.inr (.inr ⟨rfl, rfl⟩), by decide⟩
    · go_wp2_with fail
      go_ret
      exact ⟨rfl, rfl⟩
set_option maxHeartbeats 1000000 in
theorem uses11_any (s : ByteArray) (w : World) (q : Nat) (a : Int) (m r : Bool) (h : BlkN w q 51 #[.int .u8 a, .bool m, .bool r]) :
    Calls Try.prog 84 #[.string s, .pointer (some ⟨q, 0, Option.none⟩)] w fun e w' => e = .returned (.tuple #[]) ∧ w' = w.setCell ⟨q, 2, Option.none⟩ (.bool true) := by
  have c := h.cell 2 rfl
  have f := h.free 2
  clear h
  go_enter Try.func84, Try.ntmps84
  go_wp2_with fail
  go_end0
  exact ⟨rfl, rfl⟩
mutual
def namesX : Ex → List ByteArray | .mk k _ s l => (if k = 4 then [s] else []) ++ namesXs l
def namesXs : List Ex → List ByteArray | [] => [] | x :: l => namesX x ++ namesXs l
end
theorem namesXs_take (l : List Ex) : ∀ k (h : k < l.length), namesXs (l.take (k + 1)) = namesXs (l.take k) ++ namesX l[k] := by
  induction l with
  | nil => intro k h; simp at h
  | cons x l ih =>
    intro k h
    cases k with
    | zero => simp [namesXs]
    | succ k => simp only [List.take_succ_cons, namesXs, List.getElem_cons_succ, ih k (by simpa using h), List.append_assoc]
/-- A function that is told names. -/
structure NTeller (k : Nat) (caps : Array Value) (O : Nat → Prop) (J : List ByteArray → World → Prop) (B p : Nat) (w0 : World) : Prop where
  cf : ∀ args w, (callFunc k args).run Try.prog w = .ok (.enter k args) w
  own : ∀ b, O b → b < w0.heap.size
  ownp : O p
  size : ∀ told w, J told w → w0.heap.size ≤ w.heap.size
  keep : ∀ told w, J told w → ∀ b, b < B → w.heap[b]? = w0.heap[b]?
  mono : ∀ told w w', J told w → Below w.heap.size w w' → J told w'
  call : ∀ told s w, J told w → Calls Try.prog k (#[.string s] ++ caps) w fun e w' => e = .returned (.tuple #[]) ∧ J (told ++ [s]) w' ∧ Kp O p w w'
def NameC (k : Nat) (caps : Array Value) (O : Nat → Prop) (J : List ByteArray → World → Prop) (B p : Nat) (x : Ex) : Prop :=
  ∀ (w : World) (v : Value) (told : List ByteArray), IsEx w B v x → J told w → Calls Try.prog 83 #[v, .func (.func k) #[] caps] w fun e w' => e = .returned (.tuple #[]) ∧ J (told ++ namesX x) w' ∧ Kp O p w w'
set_option maxRecDepth 100000 in
set_option maxHeartbeats 1000000 in
theorem names_any (k : Nat) (caps : Array Value) (O : Nat → Prop) (J : List ByteArray → World → Prop) (B p : Nat) (w0 : World) (hT : NTeller k caps O J B p w0) (_hB : B ≤ w0.heap.size) (x : Ex) : NameC k caps O J B p x := by
  induction x using Ex.ind with
  | h kd n s l IH =>
    intro w v told h hJ
    obtain ⟨h1, h2, h3, h4, A, cap, h5, rfl, h7⟩ := h.form
    have hcf := hT.cf
    have HT := Lib.hid hT
    have HI := Lib.hid IH
    have hb0 : Below w.heap.size w (w.alloc (.cells #[.int .u8 kd, .int .i64 n, .string s, .slice A l.length cap] 26)) := (Below.refl _ _).alloc (Nat.le_refl _) _
    have H7 := Lib.hid h7
    have hsz0 := hT.size _ _ hJ
    have HJ := Lib.hid hJ
    have HJ1 := Lib.hid (hT.mono _ _ _ hJ hb0)
    have hfr : ¬ O w.heap.size := fun ho => absurd (hT.own _ ho) (by omega)
    have HFR := Lib.hid hfr
    have HB1 : Hid (BlkN (w.alloc (.cells #[.int .u8 kd, .int .i64 n, .string s, .slice A l.length cap] 26)) w.heap.size 26 #[.int .u8 kd, .int .i64 n, .string s, .slice A l.length cap]) := Lib.hid (BlkN.at_ rfl _ _)
    have HB0 := Lib.hid hb0
    clear h h7 hT IH hJ hfr hb0
    have main : ∀ (w1 : World) (t1 : List ByteArray), t1 = told ++ (if kd = 4 then [s] else []) → J t1 w1 → Kp O p w w1 → True := fun _ _ _ _ _ => trivial
    clear main
    by_cases hk4 : kd = 4
    · subst hk4
      go_enter Try.func83, Try.ntmps83
      go_wp2_with (first | (refine (HT.out.call told s _ HJ1.out).mono ?_; rintro e w1 ⟨rfl, hj1, hk1⟩; have hbb : BlkN w1 w.heap.size 26 #[.int .u8 4, .int .i64 n, .string s, .slice A l.length cap] := (hk1.block _ HB1.out.lt HFR.out (fun e => HFR.out (e ▸ HT.out.ownp))).trans HB1.out; have q3 := hbb.cell 3 rfl; clear hbb))
      obtain ⟨T1, hT1⟩ : ∃ T1, T1 = told ++ [s] := ⟨_, rfl⟩
      have HJW := Lib.hid hj1
      have HKW := Lib.hid ((Kp.of_below (O := O) (p := p) HB0.out).trans hk1)
      rw [← hT1] at HJW
      have HT1 := Lib.hid hT1
      clear hj1 hk1 q3 hT1
      go_loopw [16] (fun i wr => ∃ j : Nat, j ≤ l.length ∧ i = .int .i64 j ∧ J (T1 ++ namesXs (l.take j)) wr ∧ Kp O p w wr) (fun i _ => l.length - (intOf i).toNat)
      case atStart => exact ⟨0, Nat.zero_le _, rfl, by simpa [namesXs] using HJW.out, HKW.out⟩
      case round =>
        obtain ⟨j, hj, rfl, hjr, hkr⟩ := hrel
        have HJR := Lib.hid hjr
        have HKR := Lib.hid hkr
        clear hjr hkr
        by_cases hlt : j < l.length
        · obtain ⟨b, o, hbB, hA, hx⟩ := H7.out (by rintro rfl; simp at hlt)
          have hkw : ∀ b, b < B → wr.heap[b]? = w.heap[b]? := fun b hb => (HT.out.keep _ _ HJR.out b hb).trans (HT.out.keep _ _ HJ.out b hb).symm
          obtain ⟨k', n', s', A', len', cap', hat, hxj⟩ := hx.at2 j hlt
          have hat' := At.keep hat hbB hkw
          have hxr := IsEx.keep hkw hxj
          obtain ⟨e0, e1, e2, e3⟩ := hat'.four
          have hb1 : Below wr.heap.size wr (wr.alloc (.cells #[.int .u8 k', .int .i64 n', .string s', .slice A' len' cap'] 26)) := (Below.refl _ _).alloc (Nat.le_refl _) _
          have HJ2 := Lib.hid (HT.out.mono _ _ _ HJR.out hb1)
          have HX2 := Lib.hid (IsEx.keep (fun b hb => (HT.out.keep _ _ HJ2.out b hb).trans (HT.out.keep _ _ HJR.out b hb).symm) hxr)
          have HKA := Lib.hid (HKR.out.trans (Kp.of_below (O := O) (p := p) hb1))
          have HNT := Lib.hid (namesXs_take l j hlt)
          subst hA
          clear hx hat hat' hxj hxr hkw hb1
          go_wp2_with (go_at_call 83; refine (HI.out l[j] (List.getElem_mem hlt) _ _ _ HX2.out HJ2.out).mono ?_; rintro e w2 ⟨rfl, hj2, hk2⟩)
          go_roundw
          case rel => exact ⟨j + 1, by omega, by go_num, by rw [HNT.out, ← List.append_assoc]; exact hj2, HKA.out.trans hk2⟩
          case measure => simp [intOf]; omega
        · obtain rfl : j = l.length := by omega
          go_wp2_with fail
          go_end0
          have hz := HJR.out
          rw [List.take_length] at hz
          refine ⟨rfl, ?_, HKR.out⟩
          rw [HT1.out] at hz
          simpa [namesX, List.append_assoc] using hz
    · have hk4' : (kd == 4) = false := by simpa using hk4
      go_enter Try.func83, Try.ntmps83
      go_wp2_with fail
      obtain ⟨T1, hT1⟩ : ∃ T1, T1 = told := ⟨_, rfl⟩
      have HJW := Lib.hid HJ1.out
      have HKW := Lib.hid (Kp.of_below (O := O) (p := p) HB0.out)
      rw [← hT1] at HJW
      have HT1 := Lib.hid hT1
      clear hT1
      go_loopw [16] (fun i wr => ∃ j : Nat, j ≤ l.length ∧ i = .int .i64 j ∧ J (T1 ++ namesXs (l.take j)) wr ∧ Kp O p w wr) (fun i _ => l.length - (intOf i).toNat)
      case atStart => exact ⟨0, Nat.zero_le _, rfl, by simpa [namesXs] using HJW.out, HKW.out⟩
      case round =>
        obtain ⟨j, hj, rfl, hjr, hkr⟩ := hrel
        have HJR := Lib.hid hjr
        have HKR := Lib.hid hkr
        clear hjr hkr
        by_cases hlt : j < l.length
        · obtain ⟨b, o, hbB, hA, hx⟩ := H7.out (by rintro rfl; simp at hlt)
          have hkw : ∀ b, b < B → wr.heap[b]? = w.heap[b]? := fun b hb => (HT.out.keep _ _ HJR.out b hb).trans (HT.out.keep _ _ HJ.out b hb).symm
          obtain ⟨k', n', s', A', len', cap', hat, hxj⟩ := hx.at2 j hlt
          have hat' := At.keep hat hbB hkw
          have hxr := IsEx.keep hkw hxj
          obtain ⟨e0, e1, e2, e3⟩ := hat'.four
          have hb1 : Below wr.heap.size wr (wr.alloc (.cells #[.int .u8 k', .int .i64 n', .string s', .slice A' len' cap'] 26)) := (Below.refl _ _).alloc (Nat.le_refl _) _
          have HJ2 := Lib.hid (HT.out.mono _ _ _ HJR.out hb1)
          have HX2 := Lib.hid (IsEx.keep (fun b hb => (HT.out.keep _ _ HJ2.out b hb).trans (HT.out.keep _ _ HJR.out b hb).symm) hxr)
          have HKA := Lib.hid (HKR.out.trans (Kp.of_below (O := O) (p := p) hb1))
          have HNT := Lib.hid (namesXs_take l j hlt)
          subst hA
          clear hx hat hat' hxj hxr hkw hb1
          go_wp2_with (go_at_call 83; refine (HI.out l[j] (List.getElem_mem hlt) _ _ _ HX2.out HJ2.out).mono ?_; rintro e w2 ⟨rfl, hj2, hk2⟩)
          go_roundw
          case rel => exact ⟨j + 1, by omega, by go_num, by rw [HNT.out, ← List.append_assoc]; exact hj2, HKA.out.trans hk2⟩
          case measure => simp [intOf]; omega
        · obtain rfl : j = l.length := by omega
          go_wp2_with fail
          go_end0
          have hz := HJR.out
          rw [List.take_length] at hz
          refine ⟨rfl, ?_, HKR.out⟩
          rw [HT1.out] at hz
          simpa [namesX, hk4] using hz
end Go.Proofs.Ytnknefdpglnbnaa
