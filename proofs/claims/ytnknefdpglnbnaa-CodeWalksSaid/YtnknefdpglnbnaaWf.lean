/- CodeAlone, the plain law: how deep the statements of a walk stand; each of them alone may be; their abilities are what the code uses. CodeAlone, the walk: it returns true for every code. -/
import Derived.Test.YtnknefdpglnbnaaPc
import Derived.Test.YtnknefdpglnbnaaWd
import Derived.Test.YtnknefdpglnbnaaZj
import Derived.RangeFuncNested
import Derived.RangeFuncCalls
import Derived.RangeFuncLeaves
import Derived.Shelf.Abstract
import Derived.OwnWalkIn
import Derived.TacticsInMore
namespace Go.Proofs.Ytnknefdpglnbnaa
open Go Go.RowKit Go.Told

def lastD (a : Int) : List (Int × St) → Int
  | [] => a
  | k :: r => lastD k.1 r
def Stp (a : Int) : List (Int × St) → Prop
  | [] => True
  | k :: r => 0 ≤ k.1 ∧ k.1 ≤ a + 1 ∧ Stp k.1 r
theorem lastD_append : ∀ (X Y : List (Int × St)) (a : Int), lastD a (X ++ Y) = lastD (lastD a X) Y
  | [], _, _ => rfl
  | k :: X, Y, _a => lastD_append X Y k.1
theorem Stp.append : ∀ {X Y : List (Int × St)} {a : Int}, Stp a X → Stp (lastD a X) Y → Stp a (X ++ Y)
  | [], _, _, _, h => h
  | _k :: _X, _Y, _a, ⟨h1, h2, h3⟩, h => ⟨h1, h2, Stp.append h3 h⟩
mutual
theorem flat_stp : ∀ (x : St) (d a : Int), 0 ≤ d → d ≤ a + 1 → Stp a (flat x d) ∧ d ≤ lastD a (flat x d)
  | .mk op nm sec ab wh xa xb t e c ws, d, a, h0, h1 => by
    obtain ⟨t1, t2⟩ := flats_stp t (d + 1) d (by omega) (by omega)
    obtain ⟨e1, e2⟩ := flats_stp e (d + 1) (lastD d (flats t (d + 1))) (by omega) (by omega)
    obtain ⟨c1, c2⟩ := flats_stp c (d + 1) (lastD (lastD d (flats t (d + 1))) (flats e (d + 1))) (by omega) (by omega)
    constructor
    · exact ⟨h0, h1, t1.append (e1.append c1)⟩
    · show d ≤ lastD d (flats t (d + 1) ++ (flats e (d + 1) ++ flats c (d + 1)))
      rw [lastD_append, lastD_append]
      omega
theorem flats_stp : ∀ (l : List St) (d a : Int), 0 ≤ d → d ≤ a + 1 → Stp a (flats l d) ∧ d - 1 ≤ lastD a (flats l d)
  | [], d, a, h0, h1 => ⟨trivial, by show d - 1 ≤ a; omega⟩
  | x :: l, d, a, h0, h1 => by
    obtain ⟨x1, x2⟩ := flat_stp x d a h0 h1
    obtain ⟨l1, l2⟩ := flats_stp l d (lastD a (flat x d)) h0 (by omega)
    constructor
    · exact x1.append l1
    · show d - 1 ≤ lastD a (flat x d ++ flats l d)
      rw [lastD_append]
      exact l2
end
theorem Stp.at : ∀ {L : List (Int × St)} {a : Int}, Stp a L → ∀ (m : Nat) (hm : m < L.length), 0 ≤ L[m].1 ∧ L[m].1 ≤ lastD a (L.take m) + 1
  | k :: L, a, ⟨h1, h2, h3⟩, 0, _ => ⟨h1, h2⟩
  | k :: L, a, ⟨h1, h2, h3⟩, m + 1, hm => h3.at m (by simpa using hm)
mutual
theorem flat_sub : ∀ (x : St) (d : Int) (k : Int × St), k ∈ flat x d → ∃ p q, flat x d = p ++ (flat k.2 k.1 ++ q)
  | .mk op nm sec ab wh xa xb t e c ws, d, k, h => by
    have hf : flat (.mk op nm sec ab wh xa xb t e c ws) d = (d, .mk op nm sec ab wh xa xb t e c ws) :: (flats t (d + 1) ++ (flats e (d + 1) ++ flats c (d + 1))) := rfl
    rw [hf] at h
    rcases List.mem_cons.1 h with rfl | h
    · exact ⟨[], [], by simp⟩
    · rcases List.mem_append.1 h with h | h
      · obtain ⟨p, q, hp⟩ := flats_sub t (d + 1) k h
        exact ⟨(d, .mk op nm sec ab wh xa xb t e c ws) :: p, q ++ (flats e (d + 1) ++ flats c (d + 1)), by rw [hf, hp]; simp⟩
      · rcases List.mem_append.1 h with h | h
        · obtain ⟨p, q, hp⟩ := flats_sub e (d + 1) k h
          exact ⟨(d, .mk op nm sec ab wh xa xb t e c ws) :: (flats t (d + 1) ++ p), q ++ flats c (d + 1), by rw [hf, hp]; simp⟩
        · obtain ⟨p, q, hp⟩ := flats_sub c (d + 1) k h
          exact ⟨(d, .mk op nm sec ab wh xa xb t e c ws) :: (flats t (d + 1) ++ (flats e (d + 1) ++ p)), q, by rw [hf, hp]; simp⟩
theorem flats_sub : ∀ (l : List St) (d : Int) (k : Int × St), k ∈ flats l d → ∃ p q, flats l d = p ++ (flat k.2 k.1 ++ q)
  | [], _, _, h => by simp [flats] at h
  | x :: l, d, k, h => by
    have hf : flats (x :: l) d = flat x d ++ flats l d := rfl
    rw [hf] at h
    rcases List.mem_append.1 h with h | h
    · obtain ⟨p, q, hp⟩ := flat_sub x d k h
      exact ⟨p, q ++ flats l d, by rw [hf, hp]; simp⟩
    · obtain ⟨p, q, hp⟩ := flats_sub l d k h
      exact ⟨flat x d ++ p, q, by rw [hf, hp]; simp⟩
end
/-- Each statement of a code that may be may be alone. -/
theorem alone_may (l : List St) (h : (chkL l).2 = 0) (k : Int × St) (hk : k ∈ flats l 0) : (chkL [k.2]).2 = 0 := by
  obtain ⟨p, q, hp⟩ := flats_sub l 0 k hk
  have hm := chk_zero_may _ 0 (by omega) h
  have hl := chk_zero _ 0 (by omega) h
  have e : flats [k.2] 0 = flat k.2 0 := by simp [flats]
  unfold chkL
  rw [e, flat_snd k.2 0 k.1]
  rw [hp] at hm hl
  rw [List.map_append, List.map_append] at hm hl
  rw [List.all_append, List.all_append, Bool.and_eq_true, Bool.and_eq_true] at hm
  rw [List.length_append, List.length_append] at hl
  rw [chk_all _ 0 hm.2.1 (by omega)]
/-- What a round asks of what it is told. -/
def GoodT (last : Int) (k : Int × St) : Prop := 0 ≤ k.1 ∧ k.1 ≤ last + 1 ∧ (chkL [k.2]).2 = 0
theorem told_good (l : List St) (m : Nat) (hm : m < (toldL l).length) : GoodT (lastD (-1) ((toldL l).take m)) (toldL l)[m] := by
  unfold toldL at hm ⊢
  split at hm
  · rename_i hz
    simp only [hz, if_true]
    obtain ⟨h1, h2⟩ := ((flats_stp l 0 (-1) (by omega) (by omega)).1).at m hm
    exact ⟨h1, h2, alone_may l hz _ (List.getElem_mem hm)⟩
  · simp at hm
theorem one_may {x : St} (h : (chkL [x]).2 = 0) : mayS x = true := by
  have := chk_zero_may _ 0 (by omega) h
  obtain ⟨op, nm, sec, ab, wh, a, b, t, e, c, ws⟩ := x
  simp only [flats, flat, List.append_nil, List.map_cons, List.all_cons, Bool.and_eq_true] at this
  exact this.1
theorem oneI_lt {a : Int} (h0 : 0 ≤ a) (h : oneI a = true) : a < 64 := by
  unfold oneI oneB mayB at h
  simp at h
  omega
/-- The abilities as the law gathers them. -/
theorem able_two {u : Nat} (hu : u < 64) {nm sec : ByteArray} {ab wh : Int} {a b : Ex} {t e c : List St} {ws : List ByteArray} (h0 : 0 ≤ ab) (h : (chkL [.mk 2 nm sec ab wh a b t e c ws]).2 = 0) :
    bits .or .u8 (u : Nat) ab = (stepA u (.mk 2 nm sec ab wh a b t e c ws) : Nat) := by
  have hm := one_may h
  simp [mayS] at hm
  have h1 := oneI_lt h0 hm.1.1.1.1.2
  have h2 := or_nat0 ⟨u, hu⟩ ⟨ab.toNat, by omega⟩
  simp only [stepA, if_true]
  rw [show ab % 64 = ab from by omega, ← h2, show ((ab.toNat : Nat) : Int) = ab from by omega]
theorem able_nine {u : Nat} (hu : u < 64) : bits .or .u8 (u : Nat) 1 = ((u ||| 1 : Nat) : Int) := or_nat0 ⟨u, hu⟩ ⟨1, by omega⟩
end Go.Proofs.Ytnknefdpglnbnaa
namespace Go.Proofs.Ytnknefdpglnbnaa
open Go Go.RowKit Go.Told
attribute [local go_sem] Oper.semAt_some

theorem wpListIn_load {F : Fence} {n : Nat} {P : Program} {w : World} {ops : Array Oper} {rest : List Oper} {o : Oper} {a : Act} {Q : Exit → Act → World → Prop} (T : TypeId) (p : Operand) (hop : o.op = Op.load T p) (hg : Region.wanted o (yielded ops a.tmps) = true) (q : Addr) (hp : a.eval p = .pointer (some q)) (v : Value)
    (hl : (loadVar T q).run P w = .ok v w) (h : wpListIn F n P ops Q rest (a.put o.dst v) w) : wpListIn F n P ops Q (o :: rest) a w := by
  refine wpListIn_step fun K hK => ?_
  rw [if_pos hg]
  unfold Oper.wpIn
  refine ⟨?_, ?_⟩
  · simp [Oper.about, hop]
  · rw [Oper.semAt_plain F _ _ (by rw [hop]; intro c hc'; cases hc')]
    simp [execOp, hop, hp, Instr.loadAt, Instr.sureAddr, hl, Result.andThen]
    exact hK _ _ h
theorem wpListIn_store_blk {F : Fence} {n : Nat} {P : Program} {w : World} {ops : Array Oper} {rest : List Oper} {o : Oper} {a : Act} {Q : Exit → Act → World → Prop} (hg : o.guard = Option.none) (T : TypeId) (p v : Operand) (hop : o.op = Op.store T p v)
    (i : TypeInfo) (hi : P.info? T = some i) (b : Nat) (cs : Array Value) (hp : a.eval p = .pointer (some ⟨b, 0, Option.none⟩)) (hv : a.eval v = .agg cs) (Tb : TypeId) (cur : Array Value) (hB : BlkN w b Tb cur) (hn : cs.size = i.size) (hc : cur.size = cs.size) (h1 : ∀ u ∈ cs.toList, u.oneCell' = true)
    (h : ∀ w', BlkN w' b Tb cs → But b w w' → wpListIn F n P ops Q rest (a.put o.dst undef) w') : wpListIn F n P ops Q (o :: rest) a w := by
  refine wpListIn_plain hg fun K hK => ?_
  obtain ⟨w', hr, h2, h3⟩ := run_storeVar_blk (P := P) hi hB hn hc h1
  unfold Oper.wpIn
  refine ⟨?_, ?_⟩
  · simp [Oper.about, hop]
  · rw [Oper.semAt_plain F _ _ (by rw [hop]; intro c hc'; cases hc')]
    simp [execOp, hop, hp, hv, Instr.storeAt, Instr.sureAddr, hr, Result.andThen]
    exact hK _ _ (h w' h2 h3)
theorem wpListIn_buildS {F : Fence} {n : Nat} {P : Program} {w w' : World} {ops : Array Oper} {rest : List Oper} {o : Oper} {a : Act} {Q : Exit → Act → World → Prop} (T : TypeId) (k : Nat) (ps : Array (Nat × Operand)) (hop : o.op = Op.buildSlice T k ps) (hg : Region.wanted o (yielded ops a.tmps) = true) (vs : Array (Nat × Value)) (hv' : ps.toList.map (fun ix => (ix.1, a.eval ix.2)) = vs.toList) (v : Value)
    (hr : (Instr.buildSlice T k vs).run P w = .ok v w') (h : wpListIn F n P ops Q rest (a.put o.dst v) w') : wpListIn F n P ops Q (o :: rest) a w := by
  have hv : ps.map (fun ix => (ix.1, a.eval ix.2)) = vs := by apply Array.ext'; rw [Array.toList_map]; exact hv'
  refine wpListIn_step fun K hK => ?_
  rw [if_pos hg]
  unfold Oper.wpIn
  refine ⟨?_, ?_⟩
  · simp [Oper.about, hop]
  · rw [Oper.semAt_plain F _ _ (by rw [hop]; intro c hc'; cases hc')]
    unfold execOp
    simp only [hop, hv, Sem.run_bind, Sem.run_pure, hr, Result.andThen_ok]
    exact hK _ _ h
theorem each52_any (A : Option Addr) (len cap : Nat) (w : World) :
    Calls Try.prog 52 #[.slice A len cap] w fun e w' => e = .returned (.func (.func 91) #[] #[.pointer (some ⟨w.heap.size, 0, Option.none⟩)]) ∧ w' = w.alloc (.cells #[.slice A len cap] 42) := by
  go_enter Try.func52, Try.ntmps52
  go_wp2
  go_ret
  exact ⟨rfl, rfl⟩
set_option maxRecDepth 100000 in
theorem fn_nil (f : Fn) (x c : Array Value) (w : World) : (binOp .eql 81 (.func f x c) .nilFunc).run Try.prog w = .ok (.bool false) w := by rfl
theorem Try.results12 : Try.f12.results = #[.cell 2 4] := rfl
/-- The last of them is not as it must be. -/
def BadT (xs : List TX) : Prop := ∃ pre x, xs = pre ++ [x] ∧ ¬ GoodT (lastD (-1) (pre.map keyT)) (keyT x)
theorem bad_none {l : List St} {xs : List TX} (h : BadT xs) (hp : PreT l xs) : False := by
  obtain ⟨pre, x, rfl, hb⟩ := h
  obtain ⟨m, hm, he⟩ := hp
  refine hb ?_
  have hl := congrArg List.length he
  simp [List.length_take] at hl
  have h1 : pre.map keyT = (toldL l).take m := by
    have := congrArg (List.take m) he
    rw [List.map_append, List.take_append_of_le_length (by simp; omega), List.take_of_length_le (by simp; omega), List.take_take] at this
    rw [this]
    congr 1
    omega
  have h2 : keyT x = (toldL l)[m] := by
    have h3 := congrArg (fun L => L[m]?) he
    simp only [List.map_append, List.map_cons, List.map_nil] at h3
    rw [List.getElem?_append_right (by simp; omega), List.getElem?_take_of_lt (by omega), List.getElem?_eq_getElem hm] at h3
    have h4 : m - (pre.map keyT).length = 0 := by simp; omega
    rw [h4] at h3
    simpa using h3
  rw [h1, h2]
  exact told_good l m hm
/-- The law's own cells between two rounds. -/
def CellsA (b n : Nat) (w0 : World) (pre : List TX) (W : World) : Prop :=
  Blk W b 4 (.bool false) ∧ Blk W n 3 (.int .i64 (pre.length : Nat)) ∧ Blk W (n + 1) 3 (.int .i64 (lastD (-1) (pre.map keyT))) ∧ Blk W (n + 1 + 1) 49 (.int .u8 (foldA (pre.map keyT) 0 : Nat)) ∧ Below b w0 W ∧ -1 ≤ lastD (-1) (pre.map keyT) ∧ lastD (-1) (pre.map keyT) ≤ 513
theorem kset {n lo : Nat} {A B : World} (h : KpX n lo A B) {b : Nat} (hb : b < n) (o : Nat) (v : Value) : KpX n lo A (B.setCell ⟨b, o, Option.none⟩ v) :=
  h.trans ⟨rfl, rfl, rfl, by simp [World.setCell], fun k hk _ => Below.heap_setCell _ _ _ _ (by show k ≠ b; omega)⟩
theorem foldA_snoc (K : List (Int × St)) (k : Int × St) : foldA (K ++ [k]) 0 = stepA (foldA K 0) k.2 := by simp [foldA]
theorem lastD_snoc (K : List (Int × St)) (k : Int × St) : lastD (-1) (K ++ [k]) = k.1 := by rw [lastD_append]; rfl
/-- A round's last stores. -/
theorem fin_round {b n m : Nat} {w0 W W6 : World} {pre : List TX} {x : TX} {last : Int} {v : Int} (hb : b + 1 ≤ n) (hm : n + 3 ≤ m) (h1 : Blk W6 b 4 (.bool false)) (h2 : Blk W6 n 3 (.int .i64 (pre.length : Nat))) (h3 : Blk W6 (n + 1) 3 (.int .i64 last)) (h4 : Blk W6 (n + 1 + 1) 49 (.int .u8 v))
    (h5 : Below b w0 W6) (h6 : KpX m (loT x) W W6) (h7 : v = (stepA (foldA (pre.map keyT) 0) x.2.2.1 : Nat)) (h8 : 0 ≤ x.1) (h9 : x.1 ≤ 513) (a : Act) :
    post m (loT x) (CellsA b n w0) (fun _ xs _ => BadT xs) (pre ++ [x]) W .normal a ((W6.setCell ⟨n + 1, 0, Option.none⟩ (.int .i64 x.1)).setCell ⟨n, 0, Option.none⟩ (.int .i64 ((pre.length : Nat) + 1))) := by
  refine ⟨kset (kset h6 (by omega) _ _) (by omega) _ _, (h1.setOther (by simp; omega) _).setOther (by simp; omega) _, ?_, ?_, ?_, ?_, ?_⟩
  · have := (h2.setOther (q := ⟨n + 1, 0, Option.none⟩) (by simp) (.int .i64 x.1)).set (.int .i64 ((pre.length : Nat) + 1))
    simpa using this
  · rw [List.map_append, List.map_singleton, lastD_snoc]
    exact (h3.set _).setOther (by simp) _
  · rw [List.map_append, List.map_singleton, foldA_snoc, ← h7]
    exact (h4.setOther (by simp) _).setOther (by simp; omega) _
  · exact (h5.setCell (p := ⟨n + 1, 0, Option.none⟩) (by simp; omega) _).setCell (p := ⟨n, 0, Option.none⟩) (by simp; omega) _
  · rw [List.map_append, List.map_singleton, lastD_snoc]
    exact ⟨by show -1 ≤ x.1; omega, h9⟩
attribute [local irreducible] wpList wpListIn
attribute [local go_sem] fn_nil
set_option maxRecDepth 100000 in
set_option maxHeartbeats 2000000 in
theorem alone_walk (l : List St) (A : Option Addr) (len cap : Nat) (w : World) (h : LR (fun b _ => b < w.heap.size) 256 A len cap l (fun b o => IsSts w w.heap.size b o l)) :
    Calls Try.prog 12 #[.slice A len cap] w fun e w' => e = .returned (.bool true) ∧ Below w.heap.size w w' := by
  have hlen := h.1
  subst hlen
  have HL := Lib.hid h
  have KL0 : ∀ w', Below w.heap.size w w' → LR (fun b _ => b < w.heap.size) 256 A l.length cap l (fun b o => IsSts w' w.heap.size b o l) := fun w' hb => HL.out.imp fun b o hr hp => ⟨hr, IsSts.keep (fun b hb' => hb.block b hb') hr hp⟩
  have KL := Lib.hid KL0
  clear h KL0
  refine (callsIn_wide (n := 9)).1 ?_
  refine callsIn_of_wp_marks Try.func12 rfl trivial ?_ rfl
  simp only [Try.ntmps12, List.size_toArray, List.length_cons, List.length_nil, Nat.reduceAdd, Nat.reduceSub, Array.replicate_succ, Array.replicate_zero, List.push_toArray, List.append_toArray, List.nil_append, List.cons_append]
  have hb0 : Below w.heap.size w (w.alloc (.cells #[.bool false] 4)) := (Below.refl _ w).alloc (Nat.le_refl _) _
  gi_wp2_with (first
    | (refine ⟨trivial, ?_⟩; gi_at_call 17; refine (callsIn_wide.2 (lives_any _)).mono ?_; rintro e w1 ⟨rfl, hb1⟩; have HB1 : Hid (Below w.heap.size w w1) := Lib.hid (hb0.trans (hb1.mono (by simp))))
    | (refine ⟨trivial, ?_⟩; gi_at_call 32; refine (callsIn_wide.2 (Size_any l A l.length cap _ w.heap.size HB1.out.size (KL.out _ HB1.out))).mono ?_; rintro e w2 ⟨rfl, hb2⟩)
    | (refine ⟨trivial, ?_⟩; gi_at_call 52; refine (callsIn_wide.2 (each52_any _ _ _ _)).mono ?_; rintro e w3 ⟨rfl, rfl⟩))
  have hz1 := HB1.out.size
  have hz0 : w.heap.size + 1 ≤ w1.heap.size := by have := hb1.size; simpa using this
  have hz2 := hb2.size
  obtain ⟨w3, hw3⟩ : ∃ w3, w3 = (((w2.alloc (Obj.cells #[Value.int IntKind.i64 0] 3)).alloc (Obj.cells #[Value.int IntKind.i64 (-1)] 3)).alloc (Obj.cells #[Value.int IntKind.u8 0] 49)).alloc (Obj.cells #[Value.slice A l.length cap] 42) := ⟨_, rfl⟩
  rw [← hw3]
  have hs3 : w3.heap.size = w2.heap.size + 4 := by rw [hw3]; simp
  have hB3 : Below w2.heap.size w2 w3 := by rw [hw3]; exact ((((Below.refl _ _).alloc (Nat.le_refl _) _).alloc (by simp) _).alloc (by simp; omega) _).alloc (by simp; omega) _
  have hR3 : Blk w3 w.heap.size 4 (.bool false) := ((Blk.at_ rfl _ _ : Blk (w.alloc (.cells #[.bool false] 4)) w.heap.size 4 (.bool false)).below hb1).below (hb2.trans (hB3.mono hz2))
  have h43 : Blk w3 w2.heap.size 3 (.int .i64 0) := by rw [hw3]; exact (((Blk.at_ rfl _ _).alloc _).alloc _).alloc _
  have h53 : Blk w3 (w2.heap.size + 1) 3 (.int .i64 (-1)) := by rw [hw3]; exact ((Blk.at_ (by simp) _ _).alloc _).alloc _
  have h63 : Blk w3 (w2.heap.size + 1 + 1) 49 (.int .u8 0) := by rw [hw3]; exact (Blk.at_ (by simp) _ _).alloc _
  have hE3 : Blk w3 (w2.heap.size + 1 + 1 + 1) 42 (.slice A l.length cap) := by rw [hw3]; exact Blk.at_ (by simp) _ _
  have hW3 : Below w.heap.size w w3 := (HB1.out.trans (hb2.mono hz1)).trans (hB3.mono (by omega))
  have SQ := Lib.hid (each91 8 l A l.length cap (w2.heap.size + 1 + 1 + 1) w3 w.heap.size (by omega) (KL.out _ hW3) hE3)
  clear hw3
  obtain ⟨i0, hi, hz0, hz1', hz2'⟩ := info_parts info58
  refine rangeFunc_told (by omega) (gf := 91) (lb := #[.pointer (some ⟨w2.heap.size + 1 + 1 + 1, 0, Option.none⟩)]) rfl (fun args w => by go_simp) (encs := encT) (lo := loT) (Dt := DtT) SQ.out (Below.refl _ _) (fun _ => rfl)
    (fun _ _ _ _ h hs hb => h.stay hs hb) (CellsA w.heap.size w2.heap.size w) (fun _ xs _ => BadT xs) ?hI (fun _ _ _ _ h _ => h) ⟨hR3, h43, h53, h63, hW3, by decide, by decide⟩
    (fun x a' W0 W => BlkN W W0.heap.size 58 x.2.1.arr ∧ a' = { tmps := #[.slice A l.length cap, undef, .pointer (some ⟨w.heap.size, 0, Option.none⟩), .int .i64 (sizeL l : Nat), .pointer (some ⟨w2.heap.size, 0, Option.none⟩), .pointer (some ⟨w2.heap.size + 1, 0, Option.none⟩), .pointer (some ⟨w2.heap.size + 1 + 1, 0, Option.none⟩), .func (.func 91) #[] #[.pointer (some ⟨w2.heap.size + 1 + 1 + 1, 0, Option.none⟩)], .int .i64 x.1, .pointer (some ⟨W0.heap.size, 0, Option.none⟩), undef, undef, .bool true, .bool false, .slice A l.length cap, .int .i64 (sizeL l : Nat), .slice A l.length cap, .func (.func 91) #[] #[.pointer (some ⟨w2.heap.size + 1 + 1 + 1, 0, Option.none⟩)], .func (.func 91) #[] #[.pointer (some ⟨w2.heap.size + 1 + 1 + 1, 0, Option.none⟩)], .bool false, .func (.func 91) #[] #[.pointer (some ⟨w2.heap.size + 1 + 1 + 1, 0, Option.none⟩)], .int .i64 x.1, .agg x.2.1.arr, undef, undef, undef, undef, undef, undef, undef, undef, undef, undef, undef, undef, undef, undef, undef, undef, undef, undef, undef, undef, undef, undef, undef, undef, undef, undef, undef, undef, undef, undef, undef, undef, undef, undef, undef, undef, undef, undef, undef, undef, undef, undef, undef, undef, undef, undef, undef, undef, undef, undef, undef, undef, undef, undef, undef, undef, undef, undef, undef, undef, undef, undef], defers := [] }) ?hAx ?assign ?body ?done ?stop
  case hI =>
    rintro s X Y ⟨k1, k2, k3, k4, k5, k6⟩ hb
    exact ⟨(hb.block _ (by omega)).trans k1, (hb.block _ (by omega)).trans k2, (hb.block _ (by omega)).trans k3, (hb.block _ (by omega)).trans k4, k5.trans (hb.mono (by omega)), k6⟩
  case hAx =>
    rintro x a' W0 X Y ⟨k1, k2⟩ hs hb
    exact ⟨(hb _ (Nat.le_refl _) k1.lt).trans k1, k2⟩
  case assign =>
    intro lp x W0 K hK
    gi_wp2_with (refine wpListIn_store_blk rfl 58 (.tmp 9) (.tmp 22) rfl i0 hi W0.heap.size x.2.1.arr rfl rfl 58 SV.zero.arr (BlkN.at_ rfl 58 SV.zero.arr) (by rw [hz1']; rfl) rfl (SV.one _) ?_; intro w5 hB5 hbut5)
    refine hK _ _ ⟨hB5, rfl⟩ ?_
    exact hbut5.below (Nat.le_refl _) ((Below.refl _ _).alloc (Nat.le_refl _) _)
  case body =>
    rintro lp pre x a' W0 W ⟨k1, k2, k3, k4, k5, k6, k7⟩ hlo hlo2 hsz ⟨⟨hpl, hd0, hd1⟩, hd⟩ ⟨hBx, rfl⟩
    have hkd := k5.size
    have hlo3 := hlo
    have hlo4 := hlo2
    obtain ⟨d, s, y, lo⟩ := x
    change w3.heap.size + 2 ≤ lo at hlo3
    change lo ≤ W0.heap.size at hlo4
    obtain ⟨last, hlast⟩ : ∃ last, last = lastD (-1) (pre.map keyT) := ⟨_, rfl⟩
    obtain ⟨ab0, hab0⟩ : ∃ ab0, ab0 = foldA (pre.map keyT) 0 := ⟨_, rfl⟩
    rw [← hlast] at k3 k6 k7
    simp only at hd0 hd1 hlo hlo2
    rw [← hab0] at k4
    have HS := Lib.hid hd
    have HLA := Lib.hid hlast
    have HAB := Lib.hid hab0
    have HBX := Lib.hid hBx
    have K1 := Lib.hid k1
    have K2 := Lib.hid k2
    have K3 := Lib.hid k3
    have K4 := Lib.hid k4
    have c3 := k3.cell
    have lx := hBx.lt
    have l3 := k3.lt
    have l1 := k1.lt
    have f1 := k1.free
    clear hd hlast hab0 hBx k1 k2 k3 k4
    have hn0 : Below W.heap.size W (W.alloc (.cells s.arr 58)) := (Below.refl _ W).alloc (Nat.le_refl _) _
    have HM := Lib.hid (May_any [y] (some ⟨W.heap.size, 0, Option.none⟩) 1 1 (W.alloc (.cells s.arr 58)) (W.alloc (.cells s.arr 58)).heap.size (Nat.le_refl _)
      (LR_one (BlkN.at_ rfl 58 s.arr) (by simp) (IsStR.mono (fun b o hb => by have := hb.lt; simp; omega) (IsStR.keep (w := W) (fun b o hb => hn0.block b hb.lt) HS.out))))
    obtain ⟨op, nm, sec, ab, wh, xa, xb, t, e, c, ws⟩ := y
    have HF := HS.out
    unfold IsStR at HF
    obtain ⟨⟨e1, -, -, e4, -⟩, ⟨r1, r2, r3, r4, -⟩, -⟩ := HF
    by_cases hg : GoodT last (d, .mk op nm sec ab wh xa xb t e c ws)
    · obtain ⟨g0, g1, g2⟩ := hg
      simp only at g0 g1 g2
      have h1 : decide (d < 0) = false := by simp; omega
      have h2 : decide (last + 1 < d) = false := by simp; omega
      have HG := Lib.hid g2
      rw [g2] at HM
      have q0 : ∀ w6, Below (W.alloc (.cells s.arr 58)).heap.size (W.alloc (.cells s.arr 58)) w6 → Below W.heap.size W w6 := fun w6 hb6 => hn0.trans (hb6.mono (by simp))
      have Q0 := Lib.hid q0
      clear q0 g2
      have hop2 : op = 2 ∨ op = 9 ∨ (op ≠ 2 ∧ op ≠ 9) := by omega
      have HO := Lib.hid hop2
      clear hop2
      gi_wp2_with (first
        | (refine wpListIn_load 58 (.tmp 9) rfl (by kernel_rfl) ⟨W0.heap.size, 0, Option.none⟩ rfl (.agg s.arr) (run_loadVar_blk Try.underlying58 hi HBX.out (by rw [hz1']; rfl)) ?_)
        | (refine wpListIn_buildS 42 1 #[(0, .tmp 32)] rfl (by kernel_rfl) #[(0, .agg s.arr)] rfl _ (buildS42 s W) ?_)
        | (refine ⟨trivial, ?_⟩; gi_at_call 30; refine (CallsIn.inRound lp (callsIn_wide.2 HM.out)).mono ?_; rintro e w6 ⟨rfl, hb6⟩; have hB6 := Q0.out _ hb6; have hBX6 : BlkN w6 W0.heap.size 58 s.arr := (hB6.block _ lx).trans HBX.out; have K16 := K1.out.below hB6; have K26 := K2.out.below hB6; have K36 := K3.out.below hB6; have K46 := K4.out.below hB6; have q0 := hBX6.cell 0 s.at0; have q3 := hBX6.cell 3 s.at3; have c26 := K26.cell; have c36 := K36.cell; have c46 := K46.cell; have f36 := K36.free; have f26 := K26.free; have f46 := K46.free; have l26 := K26.lt; have l36 := K36.lt; have l46 := K46.lt; have lX6 := hBX6.lt; have HB6 := Lib.hid hB6; clear hb6 hB6 hBX6))
      all_goals
        refine fin_round (x := (d, s, .mk op nm sec ab wh xa xb t e c ws, lo)) (last := last) (by omega) (by omega) ?_ ?_ ?_ (by first | exact K46 | exact K46.set _) ?_ ?_ ?_ hd0 hd1 _
        · first | exact K16 | exact K16.setOther (by simp; omega) _
        · first | exact K26 | exact K26.setOther (by simp; omega) _
        · first | exact K36 | exact K36.setOther (by simp) _
        · first | exact k5.trans (HB6.out.mono hkd) | exact (k5.trans (HB6.out.mono hkd)).setCell (by simp; omega) _
        · first | exact KpX.of_below HB6.out (by show lo ≤ W.heap.size; omega) | exact kset (KpX.of_below HB6.out (by show lo ≤ W.heap.size; omega)) (by omega) _ _
        · have hlt := foldA_lt (pre.map keyT) 0 (by omega)
          rw [← HAB.out] at hlt ⊢
          first
          | (obtain rfl : op = 2 := by simpa using ‹(op == 2) = true›
             exact able_two hlt r3 HG.out)
          | (obtain rfl : op = 9 := by simpa using ‹(op == 9) = true›
             exact able_nine hlt)
          | (have n2 : op ≠ 2 := by simpa using ‹(op == 2) = false›
             have n9 : op ≠ 9 := by simpa using ‹(op == 9) = false›
             simp [stepA, n2, n9])
    · have h1 : decide (d < 0) = false := by simp; omega
      have f11 := K1.out.free
      have c11 := K1.out.cell
      have hB0 := Lib.hid hn0
      by_cases hgt : last + 1 < d
      · have h2 : decide (last + 1 < d) = true := by simpa using hgt
        gi_wp2_with (refine And.intro trivial ?_)
        exact ⟨kset (KpX.of_below (Below.refl _ _) (by show lo ≤ W.heap.size; omega)) (by omega) _ _, pre, _, rfl, fun g => hg (by rw [HLA.out]; exact g)⟩
      · have h2 : decide (last + 1 < d) = false := by simpa using hgt
        obtain ⟨z, hz⟩ : ∃ z, z = (chkL [.mk op nm sec ab wh xa xb t e c ws]).2 := ⟨_, rfl⟩
        have hne : ((z : Int) == 0) = false := by
          simp
          intro hz0
          exact hg ⟨hd0, by show d ≤ last + 1; omega, by rw [← hz]; omega⟩
        rw [← hz] at HM
        have HZ := Lib.hid hz
        clear hz
        gi_wp2_with (first
          | (refine wpListIn_load 58 (.tmp 9) rfl (by kernel_rfl) ⟨W0.heap.size, 0, Option.none⟩ rfl (.agg s.arr) (run_loadVar_blk Try.underlying58 hi HBX.out (by rw [hz1']; rfl)) ?_)
          | (refine wpListIn_buildS 42 1 #[(0, .tmp 32)] rfl (by kernel_rfl) #[(0, .agg s.arr)] rfl _ (buildS42 s W) ?_)
          | (refine ⟨trivial, ?_⟩; gi_at_call 30; refine (CallsIn.inRound lp (callsIn_wide.2 HM.out)).mono ?_; rintro e w6 ⟨rfl, hb6⟩; have hB6 := hB0.out.trans (hb6.mono (by simp)); have K16 := K1.out.below hB6; have c16 := K16.cell; have f16 := K16.free; have l16 := K16.lt; have HB6 := Lib.hid hB6; clear hb6 hB6))
        exact ⟨kset (KpX.of_below HB6.out (by show lo ≤ W.heap.size; omega)) (by omega) _ _, pre, _, rfl, fun g => hg (by rw [HLA.out]; exact g)⟩
  case stop =>
    rintro D c pre W hD hS hb _
    exact (bad_none hb hS).elim
  case done =>
    rintro D xs W hD hA ⟨k1, k2, k3, k4, k5, k6, k7⟩ hK
    have hkd := k5.size
    have hxl : xs.length = (toldL l).length := by rw [← hA]; simp
    rw [hxl] at k2
    unfold AllT at hA
    rw [hA] at k4
    have CU := Lib.hid (Uses_any l A l.length cap W w.heap.size hkd (KL.out W k5))
    have K1 := Lib.hid k1
    have K2 := Lib.hid k2
    have K4 := Lib.hid k4
    have K5 := Lib.hid k5
    have hKl := (Array.getElem?_eq_some_iff.1 hK).1
    obtain ⟨j0, hj, hy0, hy1, hy2⟩ := info_parts info51
    clear k1 k2 k3 k4 hA hxl k5 k6 k7
    obtain ⟨u, hu⟩ : ∃ u, u = usesL l := ⟨_, rfl⟩
    obtain ⟨N, hN⟩ : ∃ N, N = (toldL l).length := ⟨_, rfl⟩
    obtain ⟨F, hF⟩ : ∃ F, F = foldA (toldL l) 0 := ⟨_, rfl⟩
    have hsz : sizeL l = N := by rw [hN]; unfold sizeL toldL; split <;> simp
    obtain ⟨z, hz⟩ : ∃ z, z = (chkL l).2 := ⟨_, rfl⟩
    rw [← hu, ← hz] at CU
    rw [← hN] at K2
    rw [← hF] at K4
    rw [hsz]
    have hchk : (z = 0 ∧ u.a = (F : Nat) ∧ (0 < N ↔ 0 < l.length)) ∨ (z ≠ 0 ∧ N = 0) := by
      rw [hz, hu, hF, hN]
      by_cases h0 : (chkL l).2 = 0
      · refine .inl ⟨h0, ?_, ?_⟩
        · unfold usesL toldL
          rw [if_pos h0, if_pos h0]
          exact usesF_a _
        · unfold toldL
          rw [if_pos h0]
          cases l with
          | nil => simp [flats]
          | cons x l =>
            have := flat_len x 0
            simp [flats]
            omega
      · exact .inr ⟨h0, by unfold toldL; rw [if_neg h0]; rfl⟩
    clear hu hz hF hN hsz
    have hlD : w.heap.size < D := by omega
    rcases hchk with ⟨rfl, hua, hnl⟩ | ⟨hz, rfl⟩
    · have HNL := Lib.hid hnl
      clear hnl
      gi_wp2_with (first
        | (refine ⟨trivial, ?_⟩; gi_at_call 35; refine (callsIn_wide.2 CU.out).mono ?_; rintro e w7 ⟨rfl, hb7⟩)
        | (refine wpListIn_store_blk rfl 51 (.tmp 10) (.tmp 55) rfl j0 hj w7.heap.size u.arr rfl rfl 51 (⟨0, false, false⟩ : US).arr (BlkN.at_ rfl 51 _) (by rw [hy1]; rfl) rfl (US.one u) ?_; intro w8 hB8 hbut8; have hs7 := hb7.size; have hB78 : Below W.heap.size W w8 := hbut8.below hs7 (hb7.alloc hs7 _); have K28 := K2.out.below hB78; have K18 := K1.out.below hB78; have K48 := K4.out.below hB78; have c28 := K28.cell; have c48 := K48.cell; have q08 : w8.cell? ⟨w7.heap.size, 0, Option.none⟩ = some (.int .u8 u.a) := hB8.cell 0 rfl; have q0l := hB8.lt; have K58 := (K5.out.trans (hB78.mono hkd)); have hKD8 := (hB78.block D hKl).trans hK; have hs8 := hB78.size)
        | (refine ⟨trivial, ?_⟩; gi_at_call 17; refine (callsIn_wide.2 (lives_any _)).mono ?_; rintro e w9 ⟨rfl, hb9⟩; have K19 := K18.below hb9; have c19 := K19.cell; have f19 := K19.free; have l19 := K19.lt))
      have hKD9 := (hb9.block D (by omega)).trans hKD8
      have hK10 := (KeepsOthers.setCell w9 ⟨w.heap.size, 0, Option.none⟩ (.bool true)).same D _ hKD9 rfl
      have K510 : Below w.heap.size w w9 := K58.trans (hb9.mono (by have := K58.size; omega))
      have hW10 : Below w.heap.size w (w9.setCell ⟨w.heap.size, 0, Option.none⟩ (.bool true)) := K510.setCell (by simp) _
      have hbz : ((w9.setCell ⟨w.heap.size, 0, Option.none⟩ (.bool true)).putObj D (.deferred Option.none)).cell? ⟨w.heap.size, 0, Option.none⟩ = some (.bool true) :=
        Blk.cell (T := 4) ((World.putObj_heap_other (by omega)).trans (K19.set (.bool true)))
      have hBz : Below w.heap.size w ((w9.setCell ⟨w.heap.size, 0, Option.none⟩ (.bool true)).putObj D (.deferred Option.none)) := hW10.trans (belowK_b (w := w) (Nat.le_refl _) _ D _ _ (by omega) hK10 rfl rfl)
      exact ⟨by simp, .inl ⟨_, _, rfl, run_takeDeferred hK10, ⟨_, by simp only [results, Try.results12]; simp [go_sem, hbz], rfl, hBz⟩⟩⟩
    · have hne : ((z : Int) != 0) = true := by simp; omega
      have hne' : ((z : Int) == 0) = false := by simp; omega
      have K2 : Hid (Blk W w2.heap.size 3 (.int .i64 0)) := K2
      gi_wp2_with (first
        | (refine ⟨trivial, ?_⟩; gi_at_call 35; refine (callsIn_wide.2 CU.out).mono ?_; rintro e w7 ⟨rfl, hb7⟩)
        | (refine wpListIn_store_blk rfl 51 (.tmp 10) (.tmp 55) rfl j0 hj w7.heap.size u.arr rfl rfl 51 (⟨0, false, false⟩ : US).arr (BlkN.at_ rfl 51 _) (by rw [hy1]; rfl) rfl (US.one u) ?_; intro w8 hB8 hbut8; have hs7 := hb7.size; have hB78 : Below W.heap.size W w8 := hbut8.below hs7 (hb7.alloc hs7 _); have K28 := K2.out.below hB78; have K18 := K1.out.below hB78; have K48 := K4.out.below hB78; have c28 := K28.cell; have c48 := K48.cell; have q08 : w8.cell? ⟨w7.heap.size, 0, Option.none⟩ = some (.int .u8 u.a) := hB8.cell 0 rfl; have q0l := hB8.lt; have K58 := (K5.out.trans (hB78.mono hkd)); have hKD8 := (hB78.block D hKl).trans hK; have hs8 := hB78.size)
        | (refine ⟨trivial, ?_⟩; gi_at_call 17; refine (callsIn_wide.2 (lives_any _)).mono ?_; rintro e w9 ⟨rfl, hb9⟩; have K19 := K18.below hb9; have c19 := K19.cell; have f19 := K19.free; have l19 := K19.lt))
      have hKD9 := (hb9.block D (by omega)).trans hKD8
      have hK10 := (KeepsOthers.setCell w9 ⟨w.heap.size, 0, Option.none⟩ (.bool true)).same D _ hKD9 rfl
      have K510 : Below w.heap.size w w9 := K58.trans (hb9.mono (by have := K58.size; omega))
      have hW10 : Below w.heap.size w (w9.setCell ⟨w.heap.size, 0, Option.none⟩ (.bool true)) := K510.setCell (by simp) _
      have hbz : ((w9.setCell ⟨w.heap.size, 0, Option.none⟩ (.bool true)).putObj D (.deferred Option.none)).cell? ⟨w.heap.size, 0, Option.none⟩ = some (.bool true) :=
        Blk.cell (T := 4) ((World.putObj_heap_other (by omega)).trans (K19.set (.bool true)))
      have hBz : Below w.heap.size w ((w9.setCell ⟨w.heap.size, 0, Option.none⟩ (.bool true)).putObj D (.deferred Option.none)) := hW10.trans (belowK_b (w := w) (Nat.le_refl _) _ D _ _ (by omega) hK10 rfl rfl)
      exact ⟨by simp, .inl ⟨_, _, rfl, run_takeDeferred hK10, ⟨_, by simp only [results, Try.results12]; simp [go_sem, hbz], rfl, hBz⟩⟩⟩
end Go.Proofs.Ytnknefdpglnbnaa
