/- The region of CodeWalks that compares what a round is told with the document's row: it draws its order, in a round of a range over a function. -/
import Derived.Test.YtnknefdpglnbnaaNd
import Derived.Test.YtnknefdpglnbnaaRg
import Derived.Test.YtnknefdpglnbnaaCp
import Derived.RangeFuncIn
import Derived.RangeFuncCalls
namespace Go.RegT
open Go
variable {P : Program} {ops : Array Oper} {Q : Exit → Act → World → Prop} {md : Region.Mode} {S : World → Prop} {T : Nat → Bool}
theorem rowsIn_round {n l : Nat} {row : String} {args : Array Value} {w : World} {R : Value → World → Prop} (h : Rows P row args w R) : RowsIn (Fence.wide.inRound l) n P row args w R :=
  fun c cs _ => let ⟨v, w', r, s⟩ := h c cs; ⟨v, w', r, (stepsIn_wide (P := P)).2 s⟩
theorem wpOpIn_of {n l : Nat} (hd : ∀ (j : Nat) (o : Oper), ops[j]? = some o → ∀ c, o.op ≠ .defer c) (hQ : ¬ LetsOut Q) {i : Nat} {K : Act → World → Prop} {a : Act} {w : World}
    (h : wpOp P ops Q i K a w) : wpOpIn (Fence.wide.inRound l) n P ops Q i K a w := by
  unfold wpOp at h
  unfold wpOpIn
  cases hi : ops[i]? with
  | none => rw [hi] at h; exact h
  | some o =>
    rw [hi] at h
    simp only at h ⊢
    split
    · rename_i hw
      rw [if_pos hw] at h
      have h := h.resolve_right fun h => hQ h.2
      refine ⟨fun _ _ => trivial, ?_⟩
      rw [show (Fence.wide.inRound l).round = some l from rfl, Oper.semAt_some l _ _ (hd i o hi)]
      unfold Oper.wp at h
      generalize (execOp a.eval o).run P w = r at *
      cases r with
      | ok x w' =>
        cases x <;> simp only [Oper.upon, Oper.uponIn] at h ⊢
        case value u => exact h
        case skip => exact h
        case defer d => exact h
        case enter f args =>
          exact ⟨fun e => (by cases e), CallsIn.inRound l (callsIn_wide.2 h)⟩
        case row row args => exact ⟨fun e => (by cases e), rowsIn_round h⟩
      | halt x w' => cases x <;> simp only [Oper.upon, Oper.uponIn] at h ⊢ <;> exact h
    · rename_i hw
      rw [if_neg hw] at h
      exact ⟨fun _ _ => trivial, h⟩
theorem wpAnyIn_of {n l : Nat} (hd : ∀ (j : Nat) (o : Oper), ops[j]? = some o → ∀ c, o.op ≠ .defer c) (hQ : ¬ LetsOut Q) :
    ∀ (fuel : Nat) (listed : Array Bool) (a : Act) (w : World), wpAny P md ops Q fuel listed a w → wpAnyIn (Fence.wide.inRound l) n P md ops Q fuel listed a w
  | 0, _, _, _, h => h
  | fuel + 1, _, _, _, h => ⟨h.1, fun i hi => wpOpIn_mono (fun a' w' h' => wpAnyIn_of hd hQ fuel _ a' w' h') (wpOpIn_of hd hQ (h.2 i hi))⟩
def noDefer (ops : Array Oper) : Bool := ops.all fun o => match o.op with | .defer _ => false | _ => true
theorem noDefer_spec (h : noDefer ops = true) (j : Nat) (o : Oper) (hj : ops[j]? = some o) (c : Call) : o.op ≠ .defer c := by
  intro e
  obtain ⟨hlt, he⟩ := Array.getElem?_eq_some_iff.1 hj
  have h2 := Array.all_eq_true.1 h j hlt
  rw [he, e] at h2
  cases h2
/-- Neither a panic nor a way out of memory. -/
def NPO (Q : Exit → Act → World → Prop) : Exit → Act → World → Prop
  | .panic _, _, _ => False
  | .outgrown, _, _ => False
  | e, a, w => Q e a w
/-- The beginning, in a round, where nothing panics. -/
theorem region_round {id n l : Nat} {a : Act} {w : World} (m : Nat) (T : Nat → Bool) (S : World → Prop) (hn : ops.size = m) (hm : P.follows .mixedOrders = true) (hd : noDefer ops = true)
    (h : wpAnyT P .any ops (NPO Q) T S m (Array.replicate m false) a w.drew) : (Code.region id ops true).wpIn (Fence.wide.inRound l) n P Q a w := by
  subst hn
  exact wpIn_mono (wpIn_region_any hm (wpAnyIn_of (noDefer_spec hd) (by rintro ⟨_, _, h⟩; exact h) _ _ _ _ (wpAny_of_T _ _ _ _ h))) (fun e a w q => by cases e <;> first | exact q | exact q.elim)
theorem take_skip {i : Nat} {oi : Oper} {fuel : Nat} {listed : Array Bool} {a : Act} {w : World} (hi : ops[i]? = some oi) (hs : Region.noSelect ops = true) (hB : takeB md ops T listed i = true)
    (hQ : ∀ c a w, Q (.panic c) (a.put oi.dst undef) w → Q (.panic c) a w) (hw : Region.wanted oi (yielded ops a.tmps) = false) (hS : S w)
    (h : wpAnyT P md ops Q T S fuel (listed.setIfInBounds i true) (a.put oi.dst undef) w) : wpAnyT P md ops Q T S (fuel + 1) listed a w := take hi hs hB hQ (.inr ⟨hw, rfl⟩) hS h
theorem wpOp_value {i : Nat} {o : Oper} {K : Act → World → Prop} {a : Act} {w w' : World} {v : Value} (hi : ops[i]? = some o) (hw : Region.wanted o (yielded ops a.tmps) = true) (hr : (execOp a.eval o).run P w = .ok (.value v) w') (h : K (a.put o.dst v) w') : wpOp P ops Q i K a w := by
  unfold wpOp
  simp only [hi, hw, if_true]
  refine .inl ?_
  unfold Oper.wp
  rw [hr]
  exact h
theorem wpOp_call {i : Nat} {o : Oper} {c : Call} {K : Act → World → Prop} {a : Act} {w : World} {f : FuncId} {args : Array Value} {R : Ending → World → Prop} (hi : ops[i]? = some o) (hw : Region.wanted o (yielded ops a.tmps) = true) (hop : o.op = .call c) (hf : c.callee = .value (.func f))
    (hcf : ∀ args w, (callFunc f args).run P w = .ok (.enter f args) w) (ha : c.args.toList.map a.eval = args.toList) (hc : Calls P f args w R) (h : ∀ e w'', R e w'' → ∃ v, e = .returned v ∧ K (a.put o.dst v) w'') : wpOp P ops Q i K a w := by
  have ha' : c.args.map a.eval = args := by apply Array.ext'; rw [Array.toList_map]; exact ha
  have hr : (execOp a.eval o).run P w = .ok (.enter f args) w := by
    have hv : a.eval (.func f) = .func (.func f) #[] #[] := rfl
    simp [execOp, hop, resolve, hf, hv, invoke, Deferred.ofValue, hcf, ha']
  unfold wpOp
  simp only [hi, hw, if_true]
  refine .inl ?_
  unfold Oper.wp
  rw [hr]
  exact Calls.mono hc fun e w'' he => by
    obtain ⟨v, rfl, hk⟩ := h e w'' he
    exact hk
theorem exec_buildS {o : Oper} {a : Act} {w w' : World} (T : TypeId) (n : Nat) (ps : Array (Nat × Operand)) (hop : o.op = Op.buildSlice T n ps) (vs : Array (Nat × Value)) (hv' : ps.toList.map (fun ix => (ix.1, a.eval ix.2)) = vs.toList) (v : Value)
    (hr : (Instr.buildSlice T n vs).run P w = .ok v w') : (execOp a.eval o).run P w = .ok (.value v) w' := by
  have hv : ps.map (fun ix => (ix.1, a.eval ix.2)) = vs := by apply Array.ext'; rw [Array.toList_map]; exact hv'
  unfold execOp
  simp only [hop, hv, Sem.run_bind, Sem.run_pure, hr, Result.andThen_ok]
theorem exec_loadT {o : Oper} {a : Act} {w : World} (T : TypeId) (p : Operand) (hop : o.op = Op.load T p) (q : Addr) (hp : a.eval p = .pointer (some q)) (v : Value) (hl : (loadVar T q).run P w = .ok v w) : (execOp a.eval o).run P w = .ok (.value v) w := by
  simp [execOp, hop, hp, Instr.loadAt, Instr.sureAddr, hl, Result.andThen]
end Go.RegT
namespace Go.Proofs.Ytnknefdpglnbnaa
open Go Go.RowKit
theorem cf34 : ∀ args w, (callFunc 34 args).run Try.prog w = .ok (.enter 34 args) w := fun args w => by go_simp
attribute [local irreducible] RegT.wpAnyT wpList wpOp
set_option maxRecDepth 100000 in
set_option maxHeartbeats 4000000 in
theorem reg17_A {K : Act → World → Prop} {Q' : Exit → Act → World → Prop} (lp m : Nat) (A : Option Addr) (n c i p5 p8 p10 : Nat) (d : Int) (w : World) (h5 : w.cell? ⟨p5, 0, Option.none⟩ = some (.slice A n c)) (h8 : w.cell? ⟨p8, 0, Option.none⟩ = some (.int .i64 (i : Nat))) (h5l : p5 < w.heap.size) (h8l : p8 < w.heap.size) (_hn : n ≤ 140737488351232) (_hi512 : i ≤ 140737488351232) (hin : n ≤ i) (x0 x1 x2 x3 x4 x6 x7 x11 x12 x13 x14 x15 x16 x17 x18 x19 x20 x21 x22 x23 x24 x25 x26 x27 x28 x29 x30 x31 x32 x33 x34 x35 x36 x37 x38 x39 x40 x41 x42 x43 x44 x45 x46 x47 x48 x49 x50 x51 x52 x53 x54 x55 x56 x57 x58 x59 x60 x61 x62 x63 x64 x65 x66 x67 x68 x69 x70 x71 x72 x73 x74 x75 x76 x77 x78 x79 x80 x81 : Value)
    (hK : ∀ (w' : World), Below w.heap.size w w' → K (⟨#[x0, x1, x2, x3, x4, .pointer (some ⟨p5, 0, Option.none⟩), x6, x7, .pointer (some ⟨p8, 0, Option.none⟩), .int .i64 d, .pointer (some ⟨p10, 0, Option.none⟩), x11, x12, x13, x14, x15, x16, x17, x18, x19, x20, x21, x22, x23, x24, x25, x26, x27, x28, x29, .int .i64 (i : Nat), .slice A n c, .int .i64 (n : Nat), .bool true, .bool true, undef, undef, undef, undef, undef, undef, undef, .bool true, .bool true, undef, undef, undef, undef, undef, undef, undef, undef, undef, undef, .bool true, x55, x56, x57, x58, x59, x60, x61, x62, x63, x64, x65, x66, x67, x68, x69, x70, x71, x72, x73, x74, x75, x76, x77, x78, x79, x80, x81], []⟩) w') :
    (Code.region 17 (RegP.opsOf Try.f11 17) true).wpIn (Fence.wide.inRound lp) m Try.prog (Exit.then K Q') (⟨#[x0, x1, x2, x3, x4, .pointer (some ⟨p5, 0, Option.none⟩), x6, x7, .pointer (some ⟨p8, 0, Option.none⟩), .int .i64 d, .pointer (some ⟨p10, 0, Option.none⟩), x11, x12, x13, x14, x15, x16, x17, x18, x19, x20, x21, x22, x23, x24, x25, x26, x27, x28, x29, x30, x31, x32, x33, x34, x35, x36, x37, x38, x39, x40, x41, x42, x43, x44, x45, x46, x47, x48, x49, x50, x51, x52, x53, x54, x55, x56, x57, x58, x59, x60, x61, x62, x63, x64, x65, x66, x67, x68, x69, x70, x71, x72, x73, x74, x75, x76, x77, x78, x79, x80, x81], []⟩) w := by
  have HK := Lib.hid hK
  have hbu := Lib.hid (fun (w' : World) (h : Below w.heap.size w w') => (⟨(World.cell?_of_block (h.block p5 h5l)).trans h5, (World.cell?_of_block (h.block p8 h8l)).trans h8⟩ : w'.cell? ⟨p5, 0, Option.none⟩ = some (.slice A n c) ∧ w'.cell? ⟨p8, 0, Option.none⟩ = some (.int .i64 (i : Nat))))
  have hdec : decide ((n : Int) ≤ (i : Int)) = true := by simp; omega
  clear hK h5 h8
  simp only [Try.f11, RegP.opsOf, RegP.reg?]
  simp only [Nat.reduceEqDiff, if_true, if_false, Option.getD_some]
  refine RegT.region_round 25 (fun _ => true) (fun W => Below w.heap.size w W) rfl (by kernel_rfl) (by kernel_rfl) ?_
  obtain ⟨u0, hu⟩ : ∃ u', u' = w.drew := ⟨_, rfl⟩
  rw [← hu]
  have D0 : Below w.heap.size w u0 := by rw [hu]; exact (Below.refl _ _).drew
  clear hu
  refine RegT.take_step (i := 0) rfl (by kernel_rfl) (by decide +kernel) (fun _ _ _ h => h) (by kernel_rfl) D0 (v := .int .i64 (i : Nat)) (fun w' hS => ?_) ?_
  · obtain ⟨c5, c8⟩ := hbu.out w' hS
    go_simp
  refine RegT.take_step (i := 1) rfl (by kernel_rfl) (by decide +kernel) (fun _ _ _ h => h) (by kernel_rfl) D0 (v := .slice A n c) (fun w' hS => ?_) ?_
  · obtain ⟨c5, c8⟩ := hbu.out w' hS
    go_simp
  refine RegT.take_step (i := 2) rfl (by kernel_rfl) (by decide +kernel) (fun _ _ _ h => h) (by kernel_rfl) D0 (v := .int .i64 (n : Nat)) (fun w' hS => ?_) ?_
  · obtain ⟨c5, c8⟩ := hbu.out w' hS
    go_simp
  refine RegT.take_step (i := 3) rfl (by kernel_rfl) (by decide +kernel) (fun _ _ _ h => h) (by kernel_rfl) D0 (v := .bool true) (fun w' hS => ?_) ?_
  · obtain ⟨c5, c8⟩ := hbu.out w' hS
    go_simp
  refine RegT.take_step (i := 4) rfl (by kernel_rfl) (by decide +kernel) (fun _ _ _ h => h) (by kernel_rfl) D0 (v := .bool true) (fun w' hS => ?_) ?_
  · obtain ⟨c5, c8⟩ := hbu.out w' hS
    go_simp
  refine RegT.take_skip (i := 5) rfl (by kernel_rfl) (by decide +kernel) (fun _ _ _ h => h) (by kernel_rfl) D0 ?_
  refine RegT.take_skip (i := 6) rfl (by kernel_rfl) (by decide +kernel) (fun _ _ _ h => h) (by kernel_rfl) D0 ?_
  refine RegT.take_skip (i := 7) rfl (by kernel_rfl) (by decide +kernel) (fun _ _ _ h => h) (by kernel_rfl) D0 ?_
  refine RegT.take_skip (i := 8) rfl (by kernel_rfl) (by decide +kernel) (fun _ _ _ h => h) (by kernel_rfl) D0 ?_
  refine RegT.take_skip (i := 9) rfl (by kernel_rfl) (by decide +kernel) (fun _ _ _ h => h) (by kernel_rfl) D0 ?_
  refine RegT.take_skip (i := 10) rfl (by kernel_rfl) (by decide +kernel) (fun _ _ _ h => h) (by kernel_rfl) D0 ?_
  refine RegT.take_skip (i := 11) rfl (by kernel_rfl) (by decide +kernel) (fun _ _ _ h => h) (by kernel_rfl) D0 ?_
  refine RegT.take_step (i := 12) rfl (by kernel_rfl) (by decide +kernel) (fun _ _ _ h => h) (by kernel_rfl) D0 (v := .bool true) (fun w' hS => ?_) ?_
  · obtain ⟨c5, c8⟩ := hbu.out w' hS
    go_simp
  refine RegT.take_step (i := 13) rfl (by kernel_rfl) (by decide +kernel) (fun _ _ _ h => h) (by kernel_rfl) D0 (v := .bool true) (fun w' hS => ?_) ?_
  · obtain ⟨c5, c8⟩ := hbu.out w' hS
    go_simp
  refine RegT.take_skip (i := 14) rfl (by kernel_rfl) (by decide +kernel) (fun _ _ _ h => h) (by kernel_rfl) D0 ?_
  refine RegT.take_skip (i := 15) rfl (by kernel_rfl) (by decide +kernel) (fun _ _ _ h => h) (by kernel_rfl) D0 ?_
  refine RegT.take_skip (i := 16) rfl (by kernel_rfl) (by decide +kernel) (fun _ _ _ h => h) (by kernel_rfl) D0 ?_
  refine RegT.take_skip (i := 17) rfl (by kernel_rfl) (by decide +kernel) (fun _ _ _ h => h) (by kernel_rfl) D0 ?_
  refine RegT.take_skip (i := 18) rfl (by kernel_rfl) (by decide +kernel) (fun _ _ _ h => h) (by kernel_rfl) D0 ?_
  refine RegT.take_skip (i := 19) rfl (by kernel_rfl) (by decide +kernel) (fun _ _ _ h => h) (by kernel_rfl) D0 ?_
  refine RegT.take_skip (i := 20) rfl (by kernel_rfl) (by decide +kernel) (fun _ _ _ h => h) (by kernel_rfl) D0 ?_
  refine RegT.take_skip (i := 21) rfl (by kernel_rfl) (by decide +kernel) (fun _ _ _ h => h) (by kernel_rfl) D0 ?_
  refine RegT.take_skip (i := 22) rfl (by kernel_rfl) (by decide +kernel) (fun _ _ _ h => h) (by kernel_rfl) D0 ?_
  refine RegT.take_skip (i := 23) rfl (by kernel_rfl) (by decide +kernel) (fun _ _ _ h => h) (by kernel_rfl) D0 ?_
  refine RegT.take_step (i := 24) rfl (by kernel_rfl) (by decide +kernel) (fun _ _ _ h => h) (by kernel_rfl) D0 (v := .bool true) (fun w' hS => ?_) ?_
  · obtain ⟨c5, c8⟩ := hbu.out w' hS
    go_simp
  refine RegT.any_done (by kernel_rfl) ?_
  simp only [RegT.NPO, Exit.then]
  have hf := HK.out u0 D0
  refine cast (congrArg (fun a => K a u0) ?_) hf
  kernel_rfl
set_option maxRecDepth 100000 in
set_option maxHeartbeats 4000000 in
theorem reg17_B {K : Act → World → Prop} {Q' : Exit → Act → World → Prop} (lp m : Nat) (A : Option Addr) (n c i p5 p8 p10 : Nat) (d : Int) (g : Nat) (d2 : Int) (w : World) (h5 : w.cell? ⟨p5, 0, Option.none⟩ = some (.slice A n c)) (h8 : w.cell? ⟨p8, 0, Option.none⟩ = some (.int .i64 (i : Nat))) (h5l : p5 < w.heap.size) (h8l : p8 < w.heap.size) (_hn : n ≤ 140737488351232) (_hi512 : i ≤ 140737488351232) (hin : i < n) (hA : A = some ⟨g, 0, Option.none⟩) (hg : g < w.heap.size) (hcg : w.cell? ⟨g, i * 19, Option.none⟩ = some (.int .i64 d2)) (hdd : (d != d2) = true) (x0 x1 x2 x3 x4 x6 x7 x11 x12 x13 x14 x15 x16 x17 x18 x19 x20 x21 x22 x23 x24 x25 x26 x27 x28 x29 x30 x31 x32 x33 x34 x35 x36 x37 x38 x39 x40 x41 x42 x43 x44 x45 x46 x47 x48 x49 x50 x51 x52 x53 x54 x55 x56 x57 x58 x59 x60 x61 x62 x63 x64 x65 x66 x67 x68 x69 x70 x71 x72 x73 x74 x75 x76 x77 x78 x79 x80 x81 : Value)
    (hK : ∀ (w' : World), Below w.heap.size w w' → K (⟨#[x0, x1, x2, x3, x4, .pointer (some ⟨p5, 0, Option.none⟩), x6, x7, .pointer (some ⟨p8, 0, Option.none⟩), .int .i64 d, .pointer (some ⟨p10, 0, Option.none⟩), x11, x12, x13, x14, x15, x16, x17, x18, x19, x20, x21, x22, x23, x24, x25, x26, x27, x28, x29, .int .i64 (i : Nat), .slice (some ⟨g, 0, Option.none⟩) n c, .int .i64 (n : Nat), .bool false, .bool false, .int .i64 d, .slice (some ⟨g, 0, Option.none⟩) n c, .int .i64 (i : Nat), .pointer (some ⟨g, i * 19, Option.none⟩), .pointer (some ⟨g, i * 19, Option.none⟩), .int .i64 d2, .bool true, .bool true, .bool true, undef, undef, undef, undef, undef, undef, undef, undef, undef, undef, .bool true, x55, x56, x57, x58, x59, x60, x61, x62, x63, x64, x65, x66, x67, x68, x69, x70, x71, x72, x73, x74, x75, x76, x77, x78, x79, x80, x81], []⟩) w') :
    (Code.region 17 (RegP.opsOf Try.f11 17) true).wpIn (Fence.wide.inRound lp) m Try.prog (Exit.then K Q') (⟨#[x0, x1, x2, x3, x4, .pointer (some ⟨p5, 0, Option.none⟩), x6, x7, .pointer (some ⟨p8, 0, Option.none⟩), .int .i64 d, .pointer (some ⟨p10, 0, Option.none⟩), x11, x12, x13, x14, x15, x16, x17, x18, x19, x20, x21, x22, x23, x24, x25, x26, x27, x28, x29, x30, x31, x32, x33, x34, x35, x36, x37, x38, x39, x40, x41, x42, x43, x44, x45, x46, x47, x48, x49, x50, x51, x52, x53, x54, x55, x56, x57, x58, x59, x60, x61, x62, x63, x64, x65, x66, x67, x68, x69, x70, x71, x72, x73, x74, x75, x76, x77, x78, x79, x80, x81], []⟩) w := by
  have HK := Lib.hid hK
  have hbu := Lib.hid (fun (w' : World) (h : Below w.heap.size w w') => (⟨(World.cell?_of_block (h.block p5 h5l)).trans h5, (World.cell?_of_block (h.block p8 h8l)).trans h8, (World.cell?_of_block (h.block g hg)).trans hcg⟩ : w'.cell? ⟨p5, 0, Option.none⟩ = some (.slice A n c) ∧ w'.cell? ⟨p8, 0, Option.none⟩ = some (.int .i64 (i : Nat)) ∧ w'.cell? ⟨g, i * 19, Option.none⟩ = some (.int .i64 d2)))
  have hdec : decide ((n : Int) ≤ (i : Int)) = false := by simp; omega
  subst hA
  clear hK h5 h8 hcg
  simp only [Try.f11, RegP.opsOf, RegP.reg?]
  simp only [Nat.reduceEqDiff, if_true, if_false, Option.getD_some]
  refine RegT.region_round 25 (fun _ => true) (fun W => Below w.heap.size w W) rfl (by kernel_rfl) (by kernel_rfl) ?_
  obtain ⟨u0, hu⟩ : ∃ u', u' = w.drew := ⟨_, rfl⟩
  rw [← hu]
  have D0 : Below w.heap.size w u0 := by rw [hu]; exact (Below.refl _ _).drew
  clear hu
  refine RegT.take_step (i := 0) rfl (by kernel_rfl) (by decide +kernel) (fun _ _ _ h => h) (by kernel_rfl) D0 (v := .int .i64 (i : Nat)) (fun w' hS => ?_) ?_
  · obtain ⟨c5, c8, cg⟩ := hbu.out w' hS
    go_simp
  refine RegT.take_step (i := 1) rfl (by kernel_rfl) (by decide +kernel) (fun _ _ _ h => h) (by kernel_rfl) D0 (v := .slice (some ⟨g, 0, Option.none⟩) n c) (fun w' hS => ?_) ?_
  · obtain ⟨c5, c8, cg⟩ := hbu.out w' hS
    go_simp
  refine RegT.take_step (i := 2) rfl (by kernel_rfl) (by decide +kernel) (fun _ _ _ h => h) (by kernel_rfl) D0 (v := .int .i64 (n : Nat)) (fun w' hS => ?_) ?_
  · obtain ⟨c5, c8, cg⟩ := hbu.out w' hS
    go_simp
  refine RegT.take_step (i := 3) rfl (by kernel_rfl) (by decide +kernel) (fun _ _ _ h => h) (by kernel_rfl) D0 (v := .bool false) (fun w' hS => ?_) ?_
  · obtain ⟨c5, c8, cg⟩ := hbu.out w' hS
    go_simp
  refine RegT.take_step (i := 4) rfl (by kernel_rfl) (by decide +kernel) (fun _ _ _ h => h) (by kernel_rfl) D0 (v := .bool false) (fun w' hS => ?_) ?_
  · obtain ⟨c5, c8, cg⟩ := hbu.out w' hS
    go_simp
  refine RegT.take_step (i := 5) rfl (by kernel_rfl) (by decide +kernel) (fun _ _ _ h => h) (by kernel_rfl) D0 (v := .int .i64 d) (fun w' hS => ?_) ?_
  · obtain ⟨c5, c8, cg⟩ := hbu.out w' hS
    go_simp
  refine RegT.take_step (i := 6) rfl (by kernel_rfl) (by decide +kernel) (fun _ _ _ h => h) (by kernel_rfl) D0 (v := .slice (some ⟨g, 0, Option.none⟩) n c) (fun w' hS => ?_) ?_
  · obtain ⟨c5, c8, cg⟩ := hbu.out w' hS
    go_simp
  refine RegT.take_step (i := 7) rfl (by kernel_rfl) (by decide +kernel) (fun _ _ _ h => h) (by kernel_rfl) D0 (v := .int .i64 (i : Nat)) (fun w' hS => ?_) ?_
  · obtain ⟨c5, c8, cg⟩ := hbu.out w' hS
    go_simp
  refine RegT.take_step (i := 8) rfl (by kernel_rfl) (by decide +kernel) (fun _ _ _ h => h) (by kernel_rfl) D0 (v := .pointer (some ⟨g, i * 19, Option.none⟩)) (fun w' hS => ?_) ?_
  · obtain ⟨c5, c8, cg⟩ := hbu.out w' hS
    go_simp
  refine RegT.take_step (i := 9) rfl (by kernel_rfl) (by decide +kernel) (fun _ _ _ h => h) (by kernel_rfl) D0 (v := .pointer (some ⟨g, i * 19, Option.none⟩)) (fun w' hS => ?_) ?_
  · obtain ⟨c5, c8, cg⟩ := hbu.out w' hS
    go_simp
  refine RegT.take_step (i := 10) rfl (by kernel_rfl) (by decide +kernel) (fun _ _ _ h => h) (by kernel_rfl) D0 (v := .int .i64 d2) (fun w' hS => ?_) ?_
  · obtain ⟨c5, c8, cg⟩ := hbu.out w' hS
    go_simp
  refine RegT.take_step (i := 11) rfl (by kernel_rfl) (by decide +kernel) (fun _ _ _ h => h) (by kernel_rfl) D0 (v := .bool true) (fun w' hS => ?_) ?_
  · obtain ⟨c5, c8, cg⟩ := hbu.out w' hS
    go_simp
  refine RegT.take_step (i := 12) rfl (by kernel_rfl) (by decide +kernel) (fun _ _ _ h => h) (by kernel_rfl) D0 (v := .bool true) (fun w' hS => ?_) ?_
  · obtain ⟨c5, c8, cg⟩ := hbu.out w' hS
    go_simp
  refine RegT.take_step (i := 13) rfl (by kernel_rfl) (by decide +kernel) (fun _ _ _ h => h) (by kernel_rfl) D0 (v := .bool true) (fun w' hS => ?_) ?_
  · obtain ⟨c5, c8, cg⟩ := hbu.out w' hS
    go_simp
  refine RegT.take_skip (i := 14) rfl (by kernel_rfl) (by decide +kernel) (fun _ _ _ h => h) (by kernel_rfl) D0 ?_
  refine RegT.take_skip (i := 15) rfl (by kernel_rfl) (by decide +kernel) (fun _ _ _ h => h) (by kernel_rfl) D0 ?_
  refine RegT.take_skip (i := 16) rfl (by kernel_rfl) (by decide +kernel) (fun _ _ _ h => h) (by kernel_rfl) D0 ?_
  refine RegT.take_skip (i := 17) rfl (by kernel_rfl) (by decide +kernel) (fun _ _ _ h => h) (by kernel_rfl) D0 ?_
  refine RegT.take_skip (i := 18) rfl (by kernel_rfl) (by decide +kernel) (fun _ _ _ h => h) (by kernel_rfl) D0 ?_
  refine RegT.take_skip (i := 19) rfl (by kernel_rfl) (by decide +kernel) (fun _ _ _ h => h) (by kernel_rfl) D0 ?_
  refine RegT.take_skip (i := 20) rfl (by kernel_rfl) (by decide +kernel) (fun _ _ _ h => h) (by kernel_rfl) D0 ?_
  refine RegT.take_skip (i := 21) rfl (by kernel_rfl) (by decide +kernel) (fun _ _ _ h => h) (by kernel_rfl) D0 ?_
  refine RegT.take_skip (i := 22) rfl (by kernel_rfl) (by decide +kernel) (fun _ _ _ h => h) (by kernel_rfl) D0 ?_
  refine RegT.take_skip (i := 23) rfl (by kernel_rfl) (by decide +kernel) (fun _ _ _ h => h) (by kernel_rfl) D0 ?_
  refine RegT.take_step (i := 24) rfl (by kernel_rfl) (by decide +kernel) (fun _ _ _ h => h) (by kernel_rfl) D0 (v := .bool true) (fun w' hS => ?_) ?_
  · obtain ⟨c5, c8, cg⟩ := hbu.out w' hS
    go_simp
  refine RegT.any_done (by kernel_rfl) ?_
  simp only [RegT.NPO, Exit.then]
  have hf := HK.out u0 D0
  refine cast (congrArg (fun a => K a u0) ?_) hf
  kernel_rfl
set_option maxRecDepth 100000 in
set_option maxHeartbeats 4000000 in
theorem reg17_C {K : Act → World → Prop} {Q' : Exit → Act → World → Prop} (lp m : Nat) (A : Option Addr) (n c i p5 p8 p10 : Nat) (d : Int) (g : Nat) (d2 : Int) (w : World) (h5 : w.cell? ⟨p5, 0, Option.none⟩ = some (.slice A n c)) (h8 : w.cell? ⟨p8, 0, Option.none⟩ = some (.int .i64 (i : Nat))) (h5l : p5 < w.heap.size) (h8l : p8 < w.heap.size) (_hn : n ≤ 140737488351232) (_hi512 : i ≤ 140737488351232) (hin : i < n) (hA : A = some ⟨g, 0, Option.none⟩) (hg : g < w.heap.size) (hcg : w.cell? ⟨g, i * 19, Option.none⟩ = some (.int .i64 d2)) (hdd : (d != d2) = false) (s z : SV) (r : Bool) (hB : BlkN w p10 58 s.arr) (hZ : At w g (i * 19 + 2) z.arr.toList)
    (hsame : ∀ (u : World) (p q : Nat), Below w.heap.size w u → BlkN u p 58 s.arr → BlkN u q 58 z.arr → Calls Try.prog 34 #[.slice (some ⟨p, 0, Option.none⟩) 1 1, .slice (some ⟨q, 0, Option.none⟩) 1 1] u fun e w' => e = .returned (.bool r) ∧ Below u.heap.size u w') (x0 x1 x2 x3 x4 x6 x7 x11 x12 x13 x14 x15 x16 x17 x18 x19 x20 x21 x22 x23 x24 x25 x26 x27 x28 x29 x30 x31 x32 x33 x34 x35 x36 x37 x38 x39 x40 x41 x42 x43 x44 x45 x46 x47 x48 x49 x50 x51 x52 x53 x54 x55 x56 x57 x58 x59 x60 x61 x62 x63 x64 x65 x66 x67 x68 x69 x70 x71 x72 x73 x74 x75 x76 x77 x78 x79 x80 x81 : Value)
    (hK : ∀ (w' : World) (p q : Nat), Below w.heap.size w w' → K (⟨#[x0, x1, x2, x3, x4, .pointer (some ⟨p5, 0, Option.none⟩), x6, x7, .pointer (some ⟨p8, 0, Option.none⟩), .int .i64 d, .pointer (some ⟨p10, 0, Option.none⟩), x11, x12, x13, x14, x15, x16, x17, x18, x19, x20, x21, x22, x23, x24, x25, x26, x27, x28, x29, .int .i64 (i : Nat), .slice (some ⟨g, 0, Option.none⟩) n c, .int .i64 (n : Nat), .bool false, .bool false, .int .i64 d, .slice (some ⟨g, 0, Option.none⟩) n c, .int .i64 (i : Nat), .pointer (some ⟨g, i * 19, Option.none⟩), .pointer (some ⟨g, i * 19, Option.none⟩), .int .i64 d2, .bool false, .bool false, .bool false, .agg s.arr, .slice (some ⟨p, 0, Option.none⟩) 1 1, .slice (some ⟨g, 0, Option.none⟩) n c, .int .i64 (i : Nat), .pointer (some ⟨g, i * 19, Option.none⟩), .pointer (some ⟨g, i * 19 + 2, Option.none⟩), .agg z.arr, .slice (some ⟨q, 0, Option.none⟩) 1 1, .bool r, .bool (!r), .bool (!r), x55, x56, x57, x58, x59, x60, x61, x62, x63, x64, x65, x66, x67, x68, x69, x70, x71, x72, x73, x74, x75, x76, x77, x78, x79, x80, x81], []⟩) w') :
    (Code.region 17 (RegP.opsOf Try.f11 17) true).wpIn (Fence.wide.inRound lp) m Try.prog (Exit.then K Q') (⟨#[x0, x1, x2, x3, x4, .pointer (some ⟨p5, 0, Option.none⟩), x6, x7, .pointer (some ⟨p8, 0, Option.none⟩), .int .i64 d, .pointer (some ⟨p10, 0, Option.none⟩), x11, x12, x13, x14, x15, x16, x17, x18, x19, x20, x21, x22, x23, x24, x25, x26, x27, x28, x29, x30, x31, x32, x33, x34, x35, x36, x37, x38, x39, x40, x41, x42, x43, x44, x45, x46, x47, x48, x49, x50, x51, x52, x53, x54, x55, x56, x57, x58, x59, x60, x61, x62, x63, x64, x65, x66, x67, x68, x69, x70, x71, x72, x73, x74, x75, x76, x77, x78, x79, x80, x81], []⟩) w := by
  have HK := Lib.hid hK
  have hbu := Lib.hid (fun (w' : World) (h : Below w.heap.size w w') => (⟨(World.cell?_of_block (h.block p5 h5l)).trans h5, (World.cell?_of_block (h.block p8 h8l)).trans h8, (World.cell?_of_block (h.block g hg)).trans hcg, (h.block p10 hB.lt).trans hB, At.keep hZ hg (fun b hb => h.block b hb)⟩ : w'.cell? ⟨p5, 0, Option.none⟩ = some (.slice A n c) ∧ w'.cell? ⟨p8, 0, Option.none⟩ = some (.int .i64 (i : Nat)) ∧ w'.cell? ⟨g, i * 19, Option.none⟩ = some (.int .i64 d2) ∧ BlkN w' p10 58 s.arr ∧ At w' g (i * 19 + 2) z.arr.toList))
  have hdec : decide ((n : Int) ≤ (i : Int)) = false := by simp; omega
  obtain ⟨i0, hi, hz0, hz1, hz2⟩ := info_parts info58
  have HI := Lib.hid hi
  have HS := Lib.hid hsame
  subst hA
  clear hK h5 h8 hcg hB hZ hi hsame
  simp only [Try.f11, RegP.opsOf, RegP.reg?]
  simp only [Nat.reduceEqDiff, if_true, if_false, Option.getD_some]
  refine RegT.region_round 25 (fun _ => true) (fun W => Below w.heap.size w W) rfl (by kernel_rfl) (by kernel_rfl) ?_
  obtain ⟨u0, hu⟩ : ∃ u', u' = w.drew := ⟨_, rfl⟩
  rw [← hu]
  have D0 : Below w.heap.size w u0 := by rw [hu]; exact (Below.refl _ _).drew
  clear hu
  refine RegT.take_step (i := 0) rfl (by kernel_rfl) (by decide +kernel) (fun _ _ _ h => h) (by kernel_rfl) D0 (v := .int .i64 (i : Nat)) (fun w' hS => ?_) ?_
  · obtain ⟨c5, c8, cg, cB, cZ⟩ := hbu.out w' hS
    go_simp
  refine RegT.take_step (i := 1) rfl (by kernel_rfl) (by decide +kernel) (fun _ _ _ h => h) (by kernel_rfl) D0 (v := .slice (some ⟨g, 0, Option.none⟩) n c) (fun w' hS => ?_) ?_
  · obtain ⟨c5, c8, cg, cB, cZ⟩ := hbu.out w' hS
    go_simp
  refine RegT.take_step (i := 2) rfl (by kernel_rfl) (by decide +kernel) (fun _ _ _ h => h) (by kernel_rfl) D0 (v := .int .i64 (n : Nat)) (fun w' hS => ?_) ?_
  · obtain ⟨c5, c8, cg, cB, cZ⟩ := hbu.out w' hS
    go_simp
  refine RegT.take_step (i := 3) rfl (by kernel_rfl) (by decide +kernel) (fun _ _ _ h => h) (by kernel_rfl) D0 (v := .bool false) (fun w' hS => ?_) ?_
  · obtain ⟨c5, c8, cg, cB, cZ⟩ := hbu.out w' hS
    go_simp
  refine RegT.take_step (i := 4) rfl (by kernel_rfl) (by decide +kernel) (fun _ _ _ h => h) (by kernel_rfl) D0 (v := .bool false) (fun w' hS => ?_) ?_
  · obtain ⟨c5, c8, cg, cB, cZ⟩ := hbu.out w' hS
    go_simp
  refine RegT.take_step (i := 5) rfl (by kernel_rfl) (by decide +kernel) (fun _ _ _ h => h) (by kernel_rfl) D0 (v := .int .i64 d) (fun w' hS => ?_) ?_
  · obtain ⟨c5, c8, cg, cB, cZ⟩ := hbu.out w' hS
    go_simp
  refine RegT.take_step (i := 6) rfl (by kernel_rfl) (by decide +kernel) (fun _ _ _ h => h) (by kernel_rfl) D0 (v := .slice (some ⟨g, 0, Option.none⟩) n c) (fun w' hS => ?_) ?_
  · obtain ⟨c5, c8, cg, cB, cZ⟩ := hbu.out w' hS
    go_simp
  refine RegT.take_step (i := 7) rfl (by kernel_rfl) (by decide +kernel) (fun _ _ _ h => h) (by kernel_rfl) D0 (v := .int .i64 (i : Nat)) (fun w' hS => ?_) ?_
  · obtain ⟨c5, c8, cg, cB, cZ⟩ := hbu.out w' hS
    go_simp
  refine RegT.take_step (i := 8) rfl (by kernel_rfl) (by decide +kernel) (fun _ _ _ h => h) (by kernel_rfl) D0 (v := .pointer (some ⟨g, i * 19, Option.none⟩)) (fun w' hS => ?_) ?_
  · obtain ⟨c5, c8, cg, cB, cZ⟩ := hbu.out w' hS
    go_simp
  refine RegT.take_step (i := 9) rfl (by kernel_rfl) (by decide +kernel) (fun _ _ _ h => h) (by kernel_rfl) D0 (v := .pointer (some ⟨g, i * 19, Option.none⟩)) (fun w' hS => ?_) ?_
  · obtain ⟨c5, c8, cg, cB, cZ⟩ := hbu.out w' hS
    go_simp
  refine RegT.take_step (i := 10) rfl (by kernel_rfl) (by decide +kernel) (fun _ _ _ h => h) (by kernel_rfl) D0 (v := .int .i64 d2) (fun w' hS => ?_) ?_
  · obtain ⟨c5, c8, cg, cB, cZ⟩ := hbu.out w' hS
    go_simp
  refine RegT.take_step (i := 11) rfl (by kernel_rfl) (by decide +kernel) (fun _ _ _ h => h) (by kernel_rfl) D0 (v := .bool false) (fun w' hS => ?_) ?_
  · obtain ⟨c5, c8, cg, cB, cZ⟩ := hbu.out w' hS
    go_simp
  refine RegT.take_step (i := 12) rfl (by kernel_rfl) (by decide +kernel) (fun _ _ _ h => h) (by kernel_rfl) D0 (v := .bool false) (fun w' hS => ?_) ?_
  · obtain ⟨c5, c8, cg, cB, cZ⟩ := hbu.out w' hS
    go_simp
  refine RegT.take_step (i := 13) rfl (by kernel_rfl) (by decide +kernel) (fun _ _ _ h => h) (by kernel_rfl) D0 (v := .bool false) (fun w' hS => ?_) ?_
  · obtain ⟨c5, c8, cg, cB, cZ⟩ := hbu.out w' hS
    go_simp
  refine RegT.take_step (i := 14) rfl (by kernel_rfl) (by decide +kernel) (fun _ _ _ h => h) (by kernel_rfl) D0 (v := .agg s.arr) (fun w' hS => ?_) ?_
  · obtain ⟨c5, c8, cg, cB, cZ⟩ := hbu.out w' hS
    exact RegT.exec_loadT 58 (.tmp 10) rfl ⟨p10, 0, Option.none⟩ (by kernel_rfl) _ (run_loadVar_blk Try.underlying58 HI.out (show BlkN w' p10 58 s.arr from cB) (by rw [hz1]; rfl))
  refine RegT.take_step (i := 16) rfl (by kernel_rfl) (by decide +kernel) (fun _ _ _ h => h) (by kernel_rfl) D0 (v := .slice (some ⟨g, 0, Option.none⟩) n c) (fun w' hS => ?_) ?_
  · obtain ⟨c5, c8, cg, cB, cZ⟩ := hbu.out w' hS
    go_simp
  refine RegT.take_step (i := 17) rfl (by kernel_rfl) (by decide +kernel) (fun _ _ _ h => h) (by kernel_rfl) D0 (v := .int .i64 (i : Nat)) (fun w' hS => ?_) ?_
  · obtain ⟨c5, c8, cg, cB, cZ⟩ := hbu.out w' hS
    go_simp
  refine RegT.take_step (i := 18) rfl (by kernel_rfl) (by decide +kernel) (fun _ _ _ h => h) (by kernel_rfl) D0 (v := .pointer (some ⟨g, i * 19, Option.none⟩)) (fun w' hS => ?_) ?_
  · obtain ⟨c5, c8, cg, cB, cZ⟩ := hbu.out w' hS
    go_simp
  refine RegT.take_step (i := 19) rfl (by kernel_rfl) (by decide +kernel) (fun _ _ _ h => h) (by kernel_rfl) D0 (v := .pointer (some ⟨g, i * 19 + 2, Option.none⟩)) (fun w' hS => ?_) ?_
  · obtain ⟨c5, c8, cg, cB, cZ⟩ := hbu.out w' hS
    go_simp
  refine RegT.take_step (i := 20) rfl (by kernel_rfl) (by decide +kernel) (fun _ _ _ h => h) (by kernel_rfl) D0 (v := .agg z.arr) (fun w' hS => ?_) ?_
  · obtain ⟨c5, c8, cg, cB, cZ⟩ := hbu.out w' hS
    exact RegT.exec_loadT 58 (.tmp 49) rfl ⟨g, i * 19 + 2, Option.none⟩ (by kernel_rfl) _ (run_loadVar_at Try.underlying58 HI.out (show At w' g (i * 19 + 2) z.arr.toList from cZ) (by rw [hz1]; rfl))
  refine RegT.any_each [15, 21] (by kernel_rfl) rfl ?_
  intro i hi
  simp only [List.mem_cons, List.not_mem_nil, or_false] at hi
  rcases hi with rfl | rfl
  · refine RegT.wpOp_value (v := .slice (some ⟨u0.heap.size, 0, Option.none⟩) 1 1) (w' := u0.alloc (.cells s.arr 58)) rfl (by kernel_rfl) ?_ ?_
    · exact RegT.exec_buildS 42 1 #[(0, .tmp 44)] rfl #[(0, .agg s.arr)] (by kernel_rfl) _ (buildS42 s u0)
    obtain ⟨u1, hu1⟩ : ∃ u', u' = u0.alloc (.cells s.arr 58) := ⟨_, rfl⟩
    have dd1 : Below u0.heap.size u0 u1 := by rw [hu1]; exact (Below.refl _ _).alloc (Nat.le_refl _) _
    obtain ⟨k1, hk1⟩ : ∃ g, g = u0.heap.size := ⟨_, rfl⟩
    have B1 : BlkN u1 k1 58 s.arr := by rw [hu1, hk1]; exact BlkN.at_ rfl _ _
    rw [← hu1, ← hk1]
    have D1 := D0.trans (dd1.mono D0.size)
    clear hu1
    refine ⟨D1, ?_⟩
    refine RegT.any_each [21] (by kernel_rfl) rfl ?_
    intro i hi
    simp only [List.mem_cons, List.not_mem_nil, or_false] at hi
    subst hi
    refine RegT.wpOp_value (v := .slice (some ⟨u1.heap.size, 0, Option.none⟩) 1 1) (w' := u1.alloc (.cells z.arr 58)) rfl (by kernel_rfl) ?_ ?_
    · exact RegT.exec_buildS 42 1 #[(0, .tmp 50)] rfl #[(0, .agg z.arr)] (by kernel_rfl) _ (buildS42 z u1)
    obtain ⟨u2, hu2⟩ : ∃ u', u' = u1.alloc (.cells z.arr 58) := ⟨_, rfl⟩
    have dd2 : Below u1.heap.size u1 u2 := by rw [hu2]; exact (Below.refl _ _).alloc (Nat.le_refl _) _
    obtain ⟨k2, hk2⟩ : ∃ g, g = u1.heap.size := ⟨_, rfl⟩
    have B2 : BlkN u2 k2 58 z.arr := by rw [hu2, hk2]; exact BlkN.at_ rfl _ _
    rw [← hu2, ← hk2]
    have D2 := D1.trans (dd2.mono D1.size)
    have B1' := B1.below dd2
    clear hu2
    refine ⟨D2, ?_⟩
    refine RegT.any_each [22] (by kernel_rfl) rfl ?_
    intro i hi
    simp only [List.mem_cons, List.not_mem_nil, or_false] at hi
    subst hi
    refine RegT.wpOp_call (c := { callee := Callee.value (Operand.func 34), args := #[Operand.tmp 45, Operand.tmp 51], argTypes := #[42, 42] }) (f := 34) rfl (by kernel_rfl) (by kernel_rfl) rfl cf34 (args := #[.slice (some ⟨k1, 0, Option.none⟩) 1 1, .slice (some ⟨k2, 0, Option.none⟩) 1 1]) (by kernel_rfl) (HS.out u2 k1 k2 D2 B1' B2) ?_
    rintro _ u3 ⟨rfl, dd3⟩
    have D3 := D2.trans (dd3.mono D2.size)
    refine ⟨_, rfl, D3, ?_⟩
    refine RegT.take_step (i := 23) rfl (by kernel_rfl) (by decide +kernel) (fun _ _ _ h => h) (by kernel_rfl) D3 (v := .bool (!r)) (fun w' hS => ?_) ?_
    · go_simp
    refine RegT.take_step (i := 24) rfl (by kernel_rfl) (by decide +kernel) (fun _ _ _ h => h) (by kernel_rfl) D3 (v := .bool (!r)) (fun w' hS => ?_) ?_
    · go_simp
    refine RegT.any_done (by kernel_rfl) ?_
    simp only [RegT.NPO, Exit.then]
    have hf := HK.out u3 k1 k2 D3
    refine cast (congrArg (fun a => K a u3) ?_) hf
    kernel_rfl
  · refine RegT.wpOp_value (v := .slice (some ⟨u0.heap.size, 0, Option.none⟩) 1 1) (w' := u0.alloc (.cells z.arr 58)) rfl (by kernel_rfl) ?_ ?_
    · exact RegT.exec_buildS 42 1 #[(0, .tmp 50)] rfl #[(0, .agg z.arr)] (by kernel_rfl) _ (buildS42 z u0)
    obtain ⟨u1, hu1⟩ : ∃ u', u' = u0.alloc (.cells z.arr 58) := ⟨_, rfl⟩
    have dd1 : Below u0.heap.size u0 u1 := by rw [hu1]; exact (Below.refl _ _).alloc (Nat.le_refl _) _
    obtain ⟨k1, hk1⟩ : ∃ g, g = u0.heap.size := ⟨_, rfl⟩
    have B1 : BlkN u1 k1 58 z.arr := by rw [hu1, hk1]; exact BlkN.at_ rfl _ _
    rw [← hu1, ← hk1]
    have D1 := D0.trans (dd1.mono D0.size)
    clear hu1
    refine ⟨D1, ?_⟩
    refine RegT.any_each [15] (by kernel_rfl) rfl ?_
    intro i hi
    simp only [List.mem_cons, List.not_mem_nil, or_false] at hi
    subst hi
    refine RegT.wpOp_value (v := .slice (some ⟨u1.heap.size, 0, Option.none⟩) 1 1) (w' := u1.alloc (.cells s.arr 58)) rfl (by kernel_rfl) ?_ ?_
    · exact RegT.exec_buildS 42 1 #[(0, .tmp 44)] rfl #[(0, .agg s.arr)] (by kernel_rfl) _ (buildS42 s u1)
    obtain ⟨u2, hu2⟩ : ∃ u', u' = u1.alloc (.cells s.arr 58) := ⟨_, rfl⟩
    have dd2 : Below u1.heap.size u1 u2 := by rw [hu2]; exact (Below.refl _ _).alloc (Nat.le_refl _) _
    obtain ⟨k2, hk2⟩ : ∃ g, g = u1.heap.size := ⟨_, rfl⟩
    have B2 : BlkN u2 k2 58 s.arr := by rw [hu2, hk2]; exact BlkN.at_ rfl _ _
    rw [← hu2, ← hk2]
    have D2 := D1.trans (dd2.mono D1.size)
    have B1' := B1.below dd2
    clear hu2
    refine ⟨D2, ?_⟩
    refine RegT.any_each [22] (by kernel_rfl) rfl ?_
    intro i hi
    simp only [List.mem_cons, List.not_mem_nil, or_false] at hi
    subst hi
    refine RegT.wpOp_call (c := { callee := Callee.value (Operand.func 34), args := #[Operand.tmp 45, Operand.tmp 51], argTypes := #[42, 42] }) (f := 34) rfl (by kernel_rfl) (by kernel_rfl) rfl cf34 (args := #[.slice (some ⟨k2, 0, Option.none⟩) 1 1, .slice (some ⟨k1, 0, Option.none⟩) 1 1]) (by kernel_rfl) (HS.out u2 k2 k1 D2 B2 B1') ?_
    rintro _ u3 ⟨rfl, dd3⟩
    have D3 := D2.trans (dd3.mono D2.size)
    refine ⟨_, rfl, D3, ?_⟩
    refine RegT.take_step (i := 23) rfl (by kernel_rfl) (by decide +kernel) (fun _ _ _ h => h) (by kernel_rfl) D3 (v := .bool (!r)) (fun w' hS => ?_) ?_
    · go_simp
    refine RegT.take_step (i := 24) rfl (by kernel_rfl) (by decide +kernel) (fun _ _ _ h => h) (by kernel_rfl) D3 (v := .bool (!r)) (fun w' hS => ?_) ?_
    · go_simp
    refine RegT.any_done (by kernel_rfl) ?_
    simp only [RegT.NPO, Exit.then]
    have hf := HK.out u3 k2 k1 D3
    refine cast (congrArg (fun a => K a u3) ?_) hf
    kernel_rfl
end Go.Proofs.Ytnknefdpglnbnaa
