/- New. -/
import Derived.Test.YthafojadcodkoaaUg
namespace Go.RegT
open Go Go.RowKit
variable {P : Program} {ops : Array Oper} {md : Region.Mode} {Q : Exit → Act → World → Prop} {T : Nat → Bool} {S : World → Prop}
/-- Makers of memory that may come in whatever order. -/
def okMk (md : Region.Mode) (ops : Array Oper) (L1 : Array Bool) : Nat → List Nat → Array Bool → Bool
  | _, [], listed => listed == L1
  | 0, _ :: _, _ => false
  | n + 1, todo, listed => (Region.ready md ops listed == todo) && todo.all fun i => okMk md ops L1 n (todo.erase i) (listed.setIfInBounds i true)
theorem wpOp_of_list {i : Nat} {o : Oper} {a : Act} {w : World} {K : Act → World → Prop} (hi : ops[i]? = some o) (h : wpList P ops (Exit.then K Q) [o] a w) : wpOp P ops Q i K a w := by
  unfold wpOp
  simp only [hi]
  unfold wpList at h
  split
  · rename_i hw
    rw [if_pos hw] at h
    rcases h with h | h
    · refine .inl ?_
      unfold Oper.wp at *
      generalize (execOp a.eval o).run P w = r at *
      cases r with
      | ok x w' => cases x <;> simp only [Oper.upon, wpList, Exit.then] at h ⊢ <;> first
        | exact h
        | (refine Calls.mono h fun e w'' he => ?_
           cases e with
           | returned u => exact he
           | panicked c => exact he
           | outgrown => exact he)
        | exact Rows.mono h fun u w'' he => he
      | halt x w' => cases x <;> simp only [Oper.upon, Exit.then] at h ⊢ <;> exact h
    · exact .inr h
  · rename_i hw
    rw [if_neg hw] at h
    exact h
theorem of_makers {I : List Nat → Act → World → Prop} {L1 : Array Bool} {m : Nat} (hT : ∀ i, T i = true → ∀ w, S w)
    (hstep : ∀ (todo : List Nat) (a : Act) (w : World) (i : Nat), i ∈ todo → I todo a w → wpOp P ops Q i (fun a' w' => I (todo.erase i) a' w') a w)
    (hlast : ∀ (a : Act) (w : World) (fuel : Nat), m ≤ fuel → I [] a w → wpAnyT P md ops Q T S fuel L1 a w) :
    ∀ (n : Nat) (todo : List Nat) (fuel : Nat) (listed : Array Bool) (a : Act) (w : World), okMk md ops L1 n todo listed = true → todo.length + m ≤ fuel → I todo a w → wpAnyT P md ops Q T S fuel listed a w
  | _, [], fuel, listed, a, w, hk, hf, hI => by
    simp only [okMk, beq_iff_eq] at hk
    subst hk
    exact hlast a w fuel (by simpa using hf) hI
  | 0, _ :: _, _, _, _, _, hk, _, _ => by simp [okMk] at hk
  | n + 1, x :: xs, 0, _, _, _, _, hf, _ => by simp at hf
  | n + 1, x :: xs, fuel + 1, listed, a, w, hk, hf, hI => by
    simp only [okMk, Bool.and_eq_true, beq_iff_eq, List.all_eq_true] at hk
    refine ⟨fun h0 => (by rw [hk.1] at h0; cases h0), fun j hj => ?_⟩
    rw [hk.1] at hj
    refine wpOp_mono (fun a' w' h' => ⟨fun ht => hT j ht w', ?_⟩) (hstep (x :: xs) a w j hj hI)
    exact of_makers hT hstep hlast n ((x :: xs).erase j) fuel _ a' w' (hk.2 j hj) (by rw [List.length_erase_of_mem hj]; simp only [List.length_cons] at hf ⊢; omega) h'
end Go.RegT
namespace Go.RegP
open Go
/-- The operations of one region of a function, by its number. -/
def reg? (n : Nat) : Code → Option (Array Oper)
  | .region m ops _ => if m = n then some ops else Option.none
  | .seq a b => match reg? n a with | some o => some o | Option.none => reg? n b
  | .cond _ a b => match reg? n a with | some o => some o | Option.none => reg? n b
  | .block _ b => reg? n b
  | .loop b => reg? n b
  | .rangeFunc _ _ a b => match reg? n a with | some o => some o | Option.none => reg? n b
  | .scope b => reg? n b
  | _ => Option.none
def opsOf (f : Func) (n : Nat) : Array Oper := match f.body with | some c => (reg? n c).getD #[] | Option.none => #[]
end Go.RegP
namespace Go.Proofs.Ythafojadcodkoaa
open Go.RowKit Go.ChangeMaps

theorem info4b : (Try.prog.info? 4).map (fun i => (i.zero, i.size, i.bytes)) = some (some (.bool false), 1, 1) := by kernel_rfl
def madeB (n : Nat) : Array Value := madeCells #[Value.bool false] (n * 1)
theorem make60 (n : Nat) (hn : n ≤ 1000) (w : World) :
    (Instr.makeSlice 60 (.int .i64 (n : Int)) (.int .i64 (n : Int))).run Try.prog w = .ok (.slice (some ⟨w.heap.size, 0, Option.none⟩) n n) (w.alloc (.cells (madeB n) 4)) := by
  obtain ⟨i0, hi, hz0, hz1, hz2⟩ := info_parts info4b
  have h := run_make_rowN (P := Try.prog) 60 4 i0 _ Try.underlying60 hi hz0 .i64 .i64 n n (Nat.le_refl _) (by rw [hz2]; omega) (by omega) w
  rw [hz1] at h
  exact h
theorem madeB_size (n : Nat) : (madeB n).size = n := by unfold madeB; rw [size_madeCells, Nat.mul_one]

/-- What holds of New's makers, whatever order they come in; todo: those to come. -/
def NewI (W0 : World) (A : Option Addr) (n m cap : Nat) (f1 f2 f3 f4 f5 f7 f8 f9 f10 f11 f12 f13 f14 f15 f16 f17 f18 f19 f20 f21 f22 f23 f24 f25 f26 f27 f36 f37 : Value) (todo : List Nat) (a : Act) (w : World) : Prop :=
  (∀ i ∈ todo, i ∈ [1, 3, 5, 6, 7]) ∧ Below W0.heap.size W0 w ∧ ∃ x29 x31 x33 x34 x35 : Value, a = ⟨#[.slice A n cap, f1, f2, f3, f4, f5, .int .i64 (m : Int), f7, f8, f9, f10, f11, f12, f13, f14, f15, f16, f17, f18, f19, f20, f21, f22, f23, f24, f25, f26, f27, .slice A n cap, x29, .int .i64 (m : Int), x31, .int .i64 (m : Int), x33, x34, x35, f36, f37], []⟩ ∧
    (1 ∉ todo → ∃ A' cap', x29 = .slice A' n cap') ∧
    (3 ∉ todo → ∃ b, x31 = .slice (some ⟨b, 0, Option.none⟩) m m ∧ BlkN w b 4 (madeB m) ∧ W0.heap.size ≤ b) ∧
    (5 ∉ todo → ∃ b, x33 = .slice (some ⟨b, 0, Option.none⟩) m m ∧ BlkN w b 3 (madeI m) ∧ W0.heap.size ≤ b) ∧
    (6 ∉ todo → ∃ b, x34 = .map (some b) ∧ MapG kI w b [] ∧ W0.heap.size ≤ b) ∧
    (7 ∉ todo → ∃ b, x35 = .map (some b) ∧ MapG kF w b [] ∧ W0.heap.size ≤ b) ∧
    (6 ∉ todo → 7 ∉ todo → ∀ b c, x34 = .map (some b) → x35 = .map (some c) → b ≠ c)
attribute [local irreducible] RegT.wpAnyT wpList
theorem not_erase {todo : List Nat} {i j : Nat} (h : j ∉ todo.erase i) (hn : j ≠ i) : j ∉ todo := fun hj => h ((List.mem_erase_of_ne hn).2 hj)
set_option maxRecDepth 100000 in
set_option maxHeartbeats 8000000 in
theorem reg11_10 {K : Act → World → Prop} {Q' : Exit → Act → World → Prop} (w : World) (A : Option Addr) (n m cap : Nat) (cs : List Value) (h : RowA w (.slice A n cap) cs) (hn : m ≤ 16) (hcn : cs.length = n) (f1 f2 f3 f4 f5 f7 f8 f9 f10 f11 f12 f13 f14 f15 f16 f17 f18 f19 f20 f21 f22 f23 f24 f25 f26 f27 f28 f29 f30 f31 f32 f33 f34 f35 f36 f37 : Value)
    (hK : ∀ (w' : World) (p tm fm cb mb : Nat) (ps x36 : Value), Below w.heap.size w w' →
      Wd w' w'.heap.size p tm fm ps (.slice (some ⟨cb, 0, Option.none⟩) m m) (.slice (some ⟨mb, 0, Option.none⟩) m m) [] [] 0 →
      (w.heap.size ≤ p ∧ w.heap.size ≤ tm ∧ w.heap.size ≤ fm ∧ w.heap.size ≤ cb) → w.heap.size ≤ mb → BlkN w' cb 4 (madeB m) → BlkN w' mb 3 (madeI m) → K ⟨#[.slice A n cap, f1, .pointer (some ⟨p, 0, Option.none⟩), .int .i64 0, f4, f5, .int .i64 (m : Int), f7, f8, f9, f10, f11, f12, f13, f14, f15, f16, f17, f18, f19, f20, f21, f22, f23, f24, f25, f26, f27, .slice A n cap, ps, .int .i64 (m : Int), .slice (some ⟨cb, 0, Option.none⟩) m m, .int .i64 (m : Int), .slice (some ⟨mb, 0, Option.none⟩) m m, .map (some tm), .map (some fm), x36, .pointer (some ⟨p, 0, Option.none⟩)], []⟩ w') :
    (Code.region 10 (RegP.opsOf Try.f11 10) true).wp Try.prog (Exit.then K Q') ⟨#[.slice A n cap, f1, f2, f3, f4, f5, .int .i64 (m : Int), f7, f8, f9, f10, f11, f12, f13, f14, f15, f16, f17, f18, f19, f20, f21, f22, f23, f24, f25, f26, f27, f28, f29, f30, f31, f32, f33, f34, f35, f36, f37], []⟩ w := by
  have HK := Lib.hid hK
  have HR := Lib.hid h
  clear hK h
  simp only [Try.f11, RegP.opsOf, RegP.reg?]
  simp only [Nat.reduceEqDiff, if_true, if_false, Option.getD_some]
  refine RegT.region_np (fun i => Nat.ble i 7) (fun _ => True) rfl ?_
  obtain ⟨u0, hu⟩ : ∃ u', u' = w.drew := ⟨_, rfl⟩
  rw [← hu]
  have D0 : Below w.heap.size w u0 := by rw [hu]; exact (Below.refl _ _).drew
  have du : u0.heap.size = w.heap.size := by rw [hu]; rfl
  have HR0 : Hid (RowA u0 (.slice A n cap) cs) := Lib.hid (by rw [hu]; exact HR.out)
  clear hu
  refine RegT.take (i := 0) (v := .slice A n cap) rfl (by kernel_rfl) (by decide +kernel) (fun _ _ _ h => h) (.inl ⟨by kernel_rfl, fun w' _ => ?_⟩) trivial ?_
  · go_simp
  refine RegT.take (i := 2) (v := .int .i64 (m : Int)) rfl (by kernel_rfl) (by decide +kernel) (fun _ _ _ h => h) (.inl ⟨by kernel_rfl, fun w' _ => ?_⟩) trivial ?_
  · go_simp
  refine RegT.take (i := 4) (v := .int .i64 (m : Int)) rfl (by kernel_rfl) (by decide +kernel) (fun _ _ _ h => h) (.inl ⟨by kernel_rfl, fun w' _ => ?_⟩) trivial ?_
  · go_simp
  refine RegT.of_makers (m := 4) (I := NewI u0 A n m cap f1 f2 f3 f4 f5 f7 f8 f9 f10 f11 f12 f13 f14 f15 f16 f17 f18 f19 f20 f21 f22 f23 f24 f25 f26 f27 f36 f37) (L1 := #[true, true, true, true, true, true, true, true, false, false, false, false]) (fun _ _ _ => trivial) ?_ ?_ 5 [1, 3, 5, 6, 7] _ _ _ _ (by decide +kernel) (by decide) ?_
  · intro todo a w2 i hi h
    obtain ⟨hm, hb, x29, x31, x33, x34, x35, rfl, k1, k3, k5, k6, k7, k67⟩ := h
    have hmem := hm i hi
    have her : ∀ j ∈ todo.erase i, j ∈ [1, 3, 5, 6, 7] := fun j hj => hm j (List.mem_of_mem_erase hj)
    have HB := Lib.hid hb
    have hms := make23 m (by omega)
    have hmb := make60 m (by omega)
    have hmm := @run_makeMap Try.prog
    simp only [List.mem_cons, List.not_mem_nil, or_false] at hmem
    rcases hmem with rfl | rfl | rfl | rfl | rfl
    · refine RegT.wpOp_of_list rfl ?_
      simp only [List.getElem_toArray, List.getElem_cons_zero, List.getElem_cons_succ]
      have C26 := Lib.hid (clone26_any w2 _ cs (HR0.out.below hb))
      clear hms hmb hmm hb
      go_wp2_with (go_at_call 26; refine C26.out.mono ?_; rintro e w3 ⟨hbN, A', cap', rfl⟩)
      exact ⟨her, bnext HB.out hbN, _, _, _, _, _, rfl, fun _ => ⟨A', cap', rfl⟩, fun hj => let ⟨b, h1, h2, h3⟩ := k3 (not_erase hj (by decide)); ⟨b, h1, h2.below hbN, h3⟩, fun hj => let ⟨b, h1, h2, h3⟩ := k5 (not_erase hj (by decide)); ⟨b, h1, h2.below hbN, h3⟩, fun hj => let ⟨b, h1, h2, h3⟩ := k6 (not_erase hj (by decide)); ⟨b, h1, h2.keep (hbN.block _ h2.lt), h3⟩, fun hj => let ⟨b, h1, h2, h3⟩ := k7 (not_erase hj (by decide)); ⟨b, h1, h2.keep (hbN.block _ h2.lt), h3⟩, fun hj hk => k67 (not_erase hj (by decide)) (not_erase hk (by decide))⟩
    · refine RegT.wpOp_of_list rfl ?_
      simp only [List.getElem_toArray, List.getElem_cons_zero, List.getElem_cons_succ]
      have hbN : Below w2.heap.size w2 (w2.alloc (.cells (madeB m) 4)) := (Below.refl _ _).alloc (Nat.le_refl _) _
      have HBN := Lib.hid hbN
      clear hbN hb
      go_wp2_with fail
      have hbN := HBN.out
      exact ⟨her, bnext HB.out hbN, _, _, _, _, _, rfl, fun hj => k1 (not_erase hj (by decide)), fun _ => ⟨_, rfl, BlkN.at_ rfl _ _, HB.out.size⟩, fun hj => let ⟨b, h1, h2, h3⟩ := k5 (not_erase hj (by decide)); ⟨b, h1, h2.below hbN, h3⟩, fun hj => let ⟨b, h1, h2, h3⟩ := k6 (not_erase hj (by decide)); ⟨b, h1, h2.keep (hbN.block _ h2.lt), h3⟩, fun hj => let ⟨b, h1, h2, h3⟩ := k7 (not_erase hj (by decide)); ⟨b, h1, h2.keep (hbN.block _ h2.lt), h3⟩, fun hj hk => k67 (not_erase hj (by decide)) (not_erase hk (by decide))⟩
    · refine RegT.wpOp_of_list rfl ?_
      simp only [List.getElem_toArray, List.getElem_cons_zero, List.getElem_cons_succ]
      have hbN : Below w2.heap.size w2 (w2.alloc (.cells (madeI m) 3)) := (Below.refl _ _).alloc (Nat.le_refl _) _
      have HBN := Lib.hid hbN
      clear hbN hb
      go_wp2_with fail
      have hbN := HBN.out
      exact ⟨her, bnext HB.out hbN, _, _, _, _, _, rfl, fun hj => k1 (not_erase hj (by decide)), fun hj => let ⟨b, h1, h2, h3⟩ := k3 (not_erase hj (by decide)); ⟨b, h1, h2.below hbN, h3⟩, fun _ => ⟨_, rfl, BlkN.at_ rfl _ _, HB.out.size⟩, fun hj => let ⟨b, h1, h2, h3⟩ := k6 (not_erase hj (by decide)); ⟨b, h1, h2.keep (hbN.block _ h2.lt), h3⟩, fun hj => let ⟨b, h1, h2, h3⟩ := k7 (not_erase hj (by decide)); ⟨b, h1, h2.keep (hbN.block _ h2.lt), h3⟩, fun hj hk => k67 (not_erase hj (by decide)) (not_erase hk (by decide))⟩
    · refine RegT.wpOp_of_list rfl ?_
      simp only [List.getElem_toArray, List.getElem_cons_zero, List.getElem_cons_succ]
      have hbN : Below w2.heap.size w2 (w2.alloc (.map #[] 0)) := (Below.refl _ _).alloc (Nat.le_refl _) _
      have HBN := Lib.hid hbN
      clear hbN hb
      go_wp2_with fail
      have hbN := HBN.out
      exact ⟨her, bnext HB.out hbN, _, _, _, _, _, rfl, fun hj => k1 (not_erase hj (by decide)), fun hj => let ⟨b, h1, h2, h3⟩ := k3 (not_erase hj (by decide)); ⟨b, h1, h2.below hbN, h3⟩, fun hj => let ⟨b, h1, h2, h3⟩ := k5 (not_erase hj (by decide)); ⟨b, h1, h2.below hbN, h3⟩, fun _ => ⟨_, rfl, MapG.new _ _, HB.out.size⟩, fun hj => let ⟨b, h1, h2, h3⟩ := k7 (not_erase hj (by decide)); ⟨b, h1, h2.keep (hbN.block _ h2.lt), h3⟩, fun _ hj b c e1 e2 he => (let ⟨d, h1, h2, h3⟩ := k7 (not_erase hj (by decide)); by have := h2.lt; rw [h1] at e2; simp at e1 e2; omega)⟩
    · refine RegT.wpOp_of_list rfl ?_
      simp only [List.getElem_toArray, List.getElem_cons_zero, List.getElem_cons_succ]
      have hbN : Below w2.heap.size w2 (w2.alloc (.map #[] 0)) := (Below.refl _ _).alloc (Nat.le_refl _) _
      have HBN := Lib.hid hbN
      clear hbN hb
      go_wp2_with fail
      have hbN := HBN.out
      exact ⟨her, bnext HB.out hbN, _, _, _, _, _, rfl, fun hj => k1 (not_erase hj (by decide)), fun hj => let ⟨b, h1, h2, h3⟩ := k3 (not_erase hj (by decide)); ⟨b, h1, h2.below hbN, h3⟩, fun hj => let ⟨b, h1, h2, h3⟩ := k5 (not_erase hj (by decide)); ⟨b, h1, h2.below hbN, h3⟩, fun hj => let ⟨b, h1, h2, h3⟩ := k6 (not_erase hj (by decide)); ⟨b, h1, h2.keep (hbN.block _ h2.lt), h3⟩, fun _ => ⟨_, rfl, MapG.new _ _, HB.out.size⟩, fun hj _ b c e1 e2 he => (let ⟨d, h1, h2, h3⟩ := k6 (not_erase hj (by decide)); by have := h2.lt; rw [h1] at e1; simp at e1 e2; omega)⟩
  · intro a w2 fuel hf h
    obtain ⟨hm, hb, x29, x31, x33, x34, x35, rfl, k1, k3, k5, k6, k7, k67⟩ := h
    obtain ⟨A', cap', rfl⟩ := k1 (by simp)
    obtain ⟨cb, rfl, hcb, hcl⟩ := k3 (by simp)
    obtain ⟨mb, rfl, hmb, hml⟩ := k5 (by simp)
    obtain ⟨tm, rfl, htm, htl⟩ := k6 (by simp)
    obtain ⟨fm, rfl, hfm, hfl⟩ := k7 (by simp)
    have hne := k67 (by simp) (by simp) tm fm rfl rfl
    have HCB := Lib.hid hcb
    have HMB := Lib.hid hmb
    have HTM := Lib.hid htm
    have HFM := Lib.hid hfm
    have HB := Lib.hid (bnext D0 hb)
    have HL : Hid (w.heap.size ≤ w2.heap.size ∧ w.heap.size ≤ tm ∧ w.heap.size ≤ fm ∧ w.heap.size ≤ cb) := Lib.hid ⟨(bnext D0 hb).size, by omega, by omega, by omega⟩
    have HLM : Hid (w.heap.size ≤ mb) := Lib.hid (by omega)
    have HNE := Lib.hid hne
    clear k1 k3 k5 k6 k7 k67 hcb hmb htm hfm hb hcl hml htl hfl hne hm
    refine RegT.of_lin [8, 9, 10, 11] fuel _ _ _ (by decide +kernel) hf ?_
    refine RegT.seqT_tail [8, 9, 10, 11] [_, _, _, _] rfl rfl _ _ ?_
    simp only [List.getElem_toArray, List.getElem_cons_zero, List.getElem_cons_succ]
    go_wp2_with fail
    simp only [RegT.NP, Exit.then]
    have ha : Below w2.heap.size w2 (w2.alloc (.cells #[.slice A' n cap', .slice (some ⟨cb, 0, Option.none⟩) m m, .map (some tm), .map (some fm), .int .i64 0, .slice (some ⟨mb, 0, Option.none⟩) m m] 64)) := (Below.refl _ _).alloc (Nat.le_refl _) _
    have hp := BlkN.at_ (w := w2) rfl 64 #[.slice A' n cap', .slice (some ⟨cb, 0, Option.none⟩) m m, .map (some tm), .map (some fm), .int .i64 0, .slice (some ⟨mb, 0, Option.none⟩) m m]
    have hs := hp.lt
    have h3 := HTM.out.lt
    have h4 := HFM.out.lt
    refine HK.out _ w2.heap.size tm fm cb mb _ _ (bnext HB.out ha) ⟨hp, HTM.out.keep (ha.block _ h3), HFM.out.keep (ha.block _ h4), fun e he => (by cases he), ⟨hs, Nat.lt_trans h3 hs, Nat.lt_trans h4 hs, HNE.out, Nat.le_refl _⟩⟩ HL.out HLM.out (HCB.out.below ha) (HMB.out.below ha)
  · exact ⟨fun i hi => hi, Below.refl _ _, f29, f31, f33, f34, f35, rfl, fun h => absurd (by decide) h, fun h => absurd (by decide) h, fun h => absurd (by decide) h, fun h => absurd (by decide) h, fun h => absurd (by decide) h, fun h => absurd (by decide) h⟩
theorem RowA.ints {w : World} {v : Value} {cs : List Value} (h : RowA w v cs) (hi : ∀ u ∈ cs, ∃ n : Int, u = .int .i64 n) (j : Nat) (hj : j < cs.length) : ∃ (b o cap : Nat) (x : Int), v = .slice (some ⟨b, o, Option.none⟩) cs.length cap ∧ cs.length ≤ cap ∧ w.cell? ⟨b, o + j, Option.none⟩ = some (.int .i64 x) := by
  obtain ⟨A, cap, rfl, hc, hn, hl, h1, hr⟩ := h
  cases A with
  | none =>
    rw [(hn rfl).1] at hj
    simp at hj
  | some ad =>
    obtain ⟨b, o, rfl, hb, hcl⟩ := hr ad rfl j _ (List.getElem?_eq_getElem hj)
    obtain ⟨x, hx⟩ := hi cs[j] (List.getElem_mem hj)
    exact ⟨b, o, cap, x, rfl, hc, by rw [hcl, hx]⟩
/-- What New answers. -/
def NewP (w : World) (cs : List Value) (e : Ending) (w' : World) : Prop := Below w.heap.size w w' ∧
    ((0 < cs.length ∧ ∃ c : Int, c ≠ 0 ∧ e = .returned (.tuple #[.pointer Option.none, .int .i64 c])) ∨
     ∃ (p tm fm cb mb : Nat) (ps : Value), e = .returned (.tuple #[.pointer (some ⟨p, 0, Option.none⟩), .int .i64 0]) ∧ cs.length ≤ 15 ∧
       Wd w' w'.heap.size p tm fm ps (.slice (some ⟨cb, 0, Option.none⟩) (cs.length + 1) (cs.length + 1)) (.slice (some ⟨mb, 0, Option.none⟩) (cs.length + 1) (cs.length + 1)) [] [] 0 ∧
       (w.heap.size ≤ p ∧ w.heap.size ≤ tm ∧ w.heap.size ≤ fm ∧ w.heap.size ≤ cb) ∧ BlkN w' cb 4 (madeB (cs.length + 1)) ∧ BlkN w' mb 3 (madeI (cs.length + 1)) ∧ w.heap.size ≤ mb)
set_option maxRecDepth 100000 in
set_option maxHeartbeats 8000000 in
/-- New, with all that is known of what it lays. -/
theorem new_full (w : World) (v : Value) (cs : List Value) (h : RowA w v cs) (hi : ∀ u ∈ cs, ∃ n : Int, u = .int .i64 n) : Calls Try.prog 11 #[v] w fun e w' => NewP w cs e w' := by
  have HR := Lib.hid h
  have HI := Lib.hid hi
  have hl : cs.length ≤ 140737488351232 := by obtain ⟨A, cap, rfl, hc, hn, hl, h1, hr⟩ := h; omega
  obtain ⟨A, cap, rfl⟩ : ∃ A cap, v = .slice A cs.length cap := by obtain ⟨A, cap, rfl, hc, hn, hl, h1, hr⟩ := h; exact ⟨A, cap, rfl⟩
  obtain ⟨P, hP1, hP2⟩ : ∃ P : Ending → World → Prop, (∀ (w' : World) (e : Ending), NewP w cs e w' → P e w') ∧ (∀ e w', P e w' → NewP w cs e w') := ⟨fun e w' => NewP w cs e w', fun w' e h => h, fun e w' h => h⟩
  refine Calls.mono (R := P) ?_ hP2
  have HBAD : Hid (∀ w', w = w' → 0 < cs.length → P (.returned (.tuple #[.pointer Option.none, .int .i64 71])) w') := Lib.hid fun w' hw h0 => hP1 _ _ ⟨by rw [hw]; exact Below.refl _ _, .inl ⟨h0, 71, by decide, rfl⟩⟩
  have HP := Lib.hid hP1
  clear hP1 hP2 h hi
  by_cases h16 : 16 ≤ cs.length
  · have h16i : (16 : Int) ≤ (cs.length : Int) := by omega
    go_enter Try.func11, Try.ntmps11
    go_wp2_with fail
    exact HBAD.out _ rfl (by omega)
  have h16i : ¬ (16 : Int) ≤ (cs.length : Int) := by omega
  go_enter Try.func11, Try.ntmps11
  go_upto_region 4 with fail
  go_loopw [2, 3, 12] (fun r2 r3 i wr => r2 = .pointer Option.none ∧ r3 = .int .i64 0 ∧ ∃ k : Nat, k ≤ cs.length ∧ i = .int .i64 k ∧ w = wr) (fun _ _ i _ => cs.length - (intOf i).toNat)
  case atStart => exact ⟨rfl, rfl, 0, Nat.zero_le _, rfl, by trivial⟩
  case round =>
    obtain ⟨rfl, rfl, k, hk, rfl, rfl⟩ := hrel
    by_cases hlt : k < cs.length
    · obtain ⟨b, o, cp, x, hA, hcp, e0⟩ := HR.out.ints HI.out k hlt
      simp only [Value.slice.injEq] at hA
      obtain ⟨rfl, -, rfl⟩ := hA
      by_cases h0 : x < 0
      · go_wp2_with fail
        exact HBAD.out _ rfl (by omega)
      by_cases h1 : (k : Int) < x
      · go_wp2_with fail
        exact HBAD.out _ rfl (by omega)
      go_wp2_with fail
      go_roundw
      case rel => exact ⟨rfl, rfl, k + 1, by omega, by go_num, by trivial⟩
      case measure => simp [intOf]; omega
    · obtain rfl : k = cs.length := by omega
      obtain ⟨m, hm⟩ : ∃ m, m = cs.length + 1 := ⟨_, rfl⟩
      have hM : ((cs.length : Int) + 1) = (m : Int) := by omega
      have HM := Lib.hid hm
      clear hm
      go_upto_region 10 with fail
      clear hM hlt hk
      refine reg11_10 w A cs.length m cap cs HR.out (by have := HM.out; omega) rfl _ _ _ _ _ _ _ _ _ _ _ _ _ _ _ _ _ _ _ _ _ _ _ _ _ _ _ _ _ _ _ _ _ _ _ _ ?_
      intro w' p tm fm cb mb ps x36 hb hwd hlo hlm hcb hmb
      have hpost := HP.out w' (.returned (.tuple #[.pointer (some ⟨p, 0, Option.none⟩), .int .i64 0])) ⟨hb, .inr ⟨p, tm, fm, cb, mb, ps, rfl, by omega, by rw [← HM.out]; exact hwd, hlo, by rw [← HM.out]; exact hcb, by rw [← HM.out]; exact hmb, hlm⟩⟩
      have HPOST := Lib.hid hpost
      clear hpost hb hwd hlo hcb hmb
      go_wp2_with fail
      all_goals first | exact HPOST.out | (go_ret; exact HPOST.out)
theorem new_any : NewC := fun w v cs h hi => (new_full w v cs h hi).mono fun e w' ⟨hb, h1⟩ => ⟨hb, h1.imp (fun h => h.2) fun ⟨p, tm, fm, cb, mb, ps, he, hl, hwd, hlo, hcb, hmb, hlm⟩ => ⟨p, tm, fm, cb, mb, ps, _, he, hl, hwd, hlo, (by
    unfold BlkN at hcb
    refine ⟨fun e => ?_, fun e => ?_, fun e => ?_⟩
    · have h1 := hwd.blk
      unfold BlkN at h1
      rw [e, h1] at hcb
      simp at hcb
    · obtain ⟨es, cl, h1, -⟩ := hwd.things
      rw [e, h1] at hcb
      cases hcb
    · obtain ⟨es, cl, h1, -⟩ := hwd.facets
      rw [e, h1] at hcb
      cases hcb), hcb, madeB_size _⟩⟩
end Go.Proofs.Ythafojadcodkoaa
