/- Rows of the call's own whose parts lie in new memory that may be written; the document's copy of an expression. Laws for the copies of codes: a part of a block stored; texts appended, none too; rows of statements. The document's copy of a code, walked. -/
import Derived.Test.YtnknefdpglnbnaaLl
import Derived.Test.YtnknefdpglnbnaaCh
import Derived.Test.YtnknefdpglnbnaaH
import Derived.Test.YtnknefdpglnbnaaZa
namespace Go.Proofs.Ytnknefdpglnbnaa
open Go.RowKit

/-- New memory that may be written. -/
def OwnU (lo : Nat) (w : World) (b _o : Nat) : Prop := lo ≤ b ∧ ∃ (cur : Array Value) (T : TypeId), w.heap[b]? = some (.cells cur T (0, 0))
theorem OwnU.lt {lo : Nat} {w : World} {b o : Nat} (h : OwnU lo w b o) : b < w.heap.size := by obtain ⟨_, cur, T, h⟩ := h; exact lt_of_block h
theorem OwnU.below {lo : Nat} {w w' : World} {b o : Nat} (h : OwnU lo w b o) (hb : Below w.heap.size w w') : OwnU lo w' b o := by
  have hl := h.lt
  obtain ⟨h1, cur, T, h2⟩ := h
  exact ⟨h1, cur, T, (hb.block b hl).trans h2⟩
theorem OwnU.low {lo lo' : Nat} {w : World} {b o : Nat} (h : OwnU lo w b o) (hl : lo' ≤ lo) : OwnU lo' w b o := ⟨Nat.le_trans hl h.1, h.2⟩
theorem OwnU.of {lo : Nat} {w w' : World} {b o : Nat} (h : OwnU lo w b o) (hb : w'.heap[b]? = w.heap[b]?) : OwnU lo w' b o := by
  obtain ⟨h1, cur, T, h2⟩ := h
  exact ⟨h1, cur, T, hb.trans h2⟩
/-- v is a row of the call's own, of these cells, that reads as these; what its elements hold lies elsewhere in new memory. -/
def GRowU {α : Type} (D : Rd α) (E : TypeId) (sz : Nat) (w : World) (lo : Nat) (v : Value) (vs : List α) (xs : List Value) : Prop :=
  w.ownsRow lo E sz v vs.length xs ∧ ∀ (i : Nat) (hi : i < vs.length), ∃ cs : List Value, cs.length = sz ∧ (∀ j u, cs[j]? = some u → xs[i * sz + j]? = some u) ∧ D.P w (fun b o => OwnU lo w b o ∧ v.ownBlock ≠ some b) cs vs[i]
section
variable {α : Type} {D : Rd α} {E : TypeId} {sz : Nat} {w w' : World} {lo : Nat} {v : Value} {vs : List α} {xs : List Value}
theorem GRowU.nil (D : Rd α) (E : TypeId) (sz : Nat) (w : World) (lo : Nat) : GRowU D E sz w lo (.slice Option.none 0 0) [] [] := ⟨World.ownsRow_nil _ _ _ _, fun i hi => absurd hi (by simp)⟩
theorem GRowU.below (h : GRowU D E sz w lo v vs xs) (hb : Below w.heap.size w w') : GRowU D E sz w' lo v vs xs := by
  obtain ⟨h1, h2⟩ := h
  refine ⟨own_below h1 hb, fun i hi => ?_⟩
  obtain ⟨cs, h3, h4, h5⟩ := h2 i hi
  exact ⟨cs, h3, h4, D.mono (fun b o hr => ⟨hr.1.below hb, hr.2⟩) (D.keep (fun b o hr => hb.block b hr.1.lt) h5)⟩
theorem GRowU.blk (h : GRowU D E sz w lo v vs xs) {g : Nat} (hg : v.ownBlock = some g) : lo ≤ g ∧ g < w.heap.size := by
  rcases h.1.2 with ⟨rfl, _⟩ | ⟨g', cap, cur, rfl, h1, h2, _⟩
  · cases hg
  · simp only [Value.ownBlock, Option.some.injEq] at hg
    subst hg
    exact ⟨h1, lt_of_block h2⟩
theorem GRowU.push {lo2 : Nat} {v' : Value} {cs : List Value} {x : α} (h : GRowU D E sz w lo v vs xs) (hcs : cs.length = sz) (hx : D.P w (OwnU lo2 w) cs x) (hlo : lo ≤ lo2) (hlt : ∀ g, v.ownBlock = some g → g < lo2)
    (hown : w'.ownsRow lo E sz v' (vs.length + 1) (xs ++ cs)) (hg : w.grownBy w' v.ownBlock) (hor : v'.ownBlock = v.ownBlock ∨ ∃ g, v'.ownBlock = some g ∧ w.heap.size ≤ g) : GRowU D E sz w' lo v' (vs ++ [x]) (xs ++ cs) := by
  obtain ⟨h1, h2⟩ := h
  have hxl : xs.length = vs.length * sz := h1.1
  have hk : ∀ b o, OwnU lo w b o ∧ v.ownBlock ≠ some b → w'.heap[b]? = w.heap[b]? ∧ (OwnU lo w' b o ∧ v'.ownBlock ≠ some b) := fun b o hr => by
    have e := hg.block b hr.1.lt (fun e => hr.2 e.symm)
    refine ⟨e, hr.1.of e, ?_⟩
    rcases hor with ho | ⟨g, ho, hgs⟩
    · rw [ho]; exact hr.2
    · rw [ho]; intro e2; injection e2 with e3; have := hr.1.lt; omega
  refine ⟨by rw [List.length_append]; exact hown, fun i hi => ?_⟩
  by_cases hi' : i < vs.length
  · obtain ⟨ds, h0, h3, h4⟩ := h2 i hi'
    refine ⟨ds, h0, fun j u hu => ?_, ?_⟩
    · have h5 := h3 j u hu
      have hl := (List.getElem?_eq_some_iff.1 h5).1
      rw [List.getElem?_append_left hl]; exact h5
    · rw [List.getElem_append_left hi']
      exact D.mono (fun b o hr => (hk b o hr).2) (D.keep (fun b o hr => (hk b o hr).1) h4)
  · have hil : i = vs.length := by simp at hi; omega
    subst hil
    refine ⟨cs, hcs, fun j u hu => ?_, ?_⟩
    · rw [← hxl, List.getElem?_append_right (by omega)]
      rw [show xs.length + j - xs.length = j by omega]; exact hu
    · have hx' := D.mono (R' := fun b o => OwnU lo w b o ∧ v.ownBlock ≠ some b) (fun b o hr => ⟨hr.low hlo, fun e => by have h3 := hlt b e; have := hr.1; omega⟩) hx
      rw [List.getElem_append_right (by omega)]
      simp only [Nat.sub_self, List.getElem_singleton]
      exact D.mono (fun b o hr => (hk b o hr).2) (D.keep (fun b o hr => (hk b o hr).1) hx')
theorem GRowU.upd {p : Nat} (h : GRowU D E sz w lo v vs xs) (hu : Upd p w w') (hp : p < lo) : GRowU D E sz w' lo v vs xs := by
  obtain ⟨h1, h2⟩ := h
  refine ⟨own_upd h1 hu hp, fun i hi => ?_⟩
  obtain ⟨cs, h3, h4, h5⟩ := h2 i hi
  have hk : ∀ b o, OwnU lo w b o → w'.heap[b]? = w.heap[b]? := fun b o hr => hu.block b hr.lt (by have := hr.1; omega)
  exact ⟨cs, h3, h4, D.mono (fun b o hr => ⟨hr.1.of (hk b o hr.1), hr.2⟩) (D.keep (fun b o hr => hk b o hr.1) h5)⟩
/-- What the row reads as. -/
theorem GRowU.list (h : GRowU D E sz w lo v vs xs) :
    ∃ A cap, v = .slice A vs.length cap ∧ vs.length ≤ cap ∧ (vs ≠ [] → ∃ b, OwnU lo w b 0 ∧ A = some ⟨b, 0, Option.none⟩ ∧ ∀ (i : Nat) (hi : i < vs.length), ∃ cs : List Value, cs.length = sz ∧ At w b (0 + i * sz) cs ∧ D.P w (OwnU lo w) cs vs[i]) := by
  obtain ⟨h1, h2⟩ := h
  rcases h1.2 with ⟨rfl, h0⟩ | ⟨g, cap, cur, rfl, hb, hg, hc, _, hcs, htake⟩
  · exact ⟨Option.none, 0, by rw [h0], by omega, fun hne => absurd (List.length_eq_zero_iff.1 h0) hne⟩
  · refine ⟨_, cap, rfl, hc, fun _ => ⟨g, ⟨hb, cur, E, hg⟩, rfl, fun i hi => ?_⟩⟩
    obtain ⟨cs, h0, h3, h4⟩ := h2 i hi
    refine ⟨cs, h0, fun j u hu => ?_, D.mono (fun b o hr => hr.1) h4⟩
    have hx := h3 j u hu
    have hc := h1.cells (g := g) rfl (i * sz + j) u hx
    rw [add_lit] at hc
    rw [Nat.zero_add]
    exact hc
end
theorem IsExR.shape {w : World} {R : Nat → Nat → Prop} {v : Value} {x : Ex} (h : IsExR w R v x) : ∃ k n s A len cap, v = .agg #[.int .u8 k, .int .i64 n, .string s, .slice A len cap] := by
  obtain ⟨k, n, s, l⟩ := x
  obtain ⟨_, _, _, _, A, cap, _, h6, _⟩ := h.form
  exact ⟨k, n, s, A, _, cap, h6⟩
theorem info26 : (Try.prog.info? 26).map (fun i => (i.zero, i.size, i.bytes)) = some (some (.agg #[.int .u8 0, .int .i64 0, .string ⟨#[]⟩, .slice Option.none 0 0]), 4, 56) := by kernel_rfl
def ExprOC (x : Ex) : Prop := ∀ (w : World) (B : Nat) (v : Value), IsEx w B v x → B ≤ w.heap.size →
  Calls Try.prog 133 #[v] w fun e w' => ∃ v', e = .returned v' ∧ IsExR w' (OwnU w.heap.size w') v' x ∧ Below w.heap.size w w'
set_option maxRecDepth 100000 in
set_option maxHeartbeats 1000000 in
theorem expr133_any (x : Ex) : ExprOC x := by
  induction x using Ex.ind with
  | h k n s l IH =>
  intro w B v h hB
  have hlen := h.len
  obtain ⟨h1, h2, h3, h4, A, cap, h5, rfl, h7⟩ := h.form
  have H7 := Lib.hid h7
  have HI := Lib.hid IH
  obtain ⟨i0, hi, hz0, hz1, hz2⟩ := info_parts info26
  have HIN := Lib.hid hi
  have HB0 := Lib.hid (((Below.refl w.heap.size w).alloc (Nat.le_refl _) (.cells #[.int .u8 k, .int .i64 n, .string s, .slice A l.length cap] 26)).alloc (by simp) (.cells #[.int .u8 0, .int .i64 0, .string ⟨#[]⟩, .slice Option.none 0 0] 26))
  have HQ : Hid (BlkN ((w.alloc (.cells #[.int .u8 k, .int .i64 n, .string s, .slice A l.length cap] 26)).alloc (.cells #[.int .u8 0, .int .i64 0, .string ⟨#[]⟩, .slice Option.none 0 0] 26)) w.heap.size 26 #[.int .u8 k, .int .i64 n, .string s, .slice A l.length cap]) := Lib.hid ((BlkN.at_ rfl _ _).alloc _)
  have HR : Hid (BlkN ((w.alloc (.cells #[.int .u8 k, .int .i64 n, .string s, .slice A l.length cap] 26)).alloc (.cells #[.int .u8 0, .int .i64 0, .string ⟨#[]⟩, .slice Option.none 0 0] 26)) (w.heap.size + 1) 26 #[.int .u8 0, .int .i64 0, .string ⟨#[]⟩, .slice Option.none 0 0]) := Lib.hid (BlkN.at_ (by simp) _ _)
  clear h h7 IH hi
  go_enter Try.func133, Try.ntmps133
  go_wp2_with fail
  go_loopw [3, 4] (fun sl i wr => ∃ j : Nat, j ≤ l.length ∧ i = .int .i64 j ∧ ∃ (xs : List Value), GRowU RdE 26 4 wr (w.heap.size + 1 + 1) sl (l.take j) xs ∧ Below w.heap.size w wr ∧ BlkN wr w.heap.size 26 #[.int .u8 k, .int .i64 n, .string s, .slice A l.length cap] ∧ BlkN wr (w.heap.size + 1) 26 #[.int .u8 0, .int .i64 0, .string ⟨#[]⟩, .slice Option.none 0 0]) (fun _ i _ => l.length - (intOf i).toNat)
  case atStart => exact ⟨0, by omega, rfl, [], GRowU.nil _ _ _ _ _, HB0.out, HQ.out, HR.out⟩
  case round =>
    obtain ⟨j, hj, rfl, xs, hv, hu, hb0, hb1⟩ := hrel
    have hvl : (l.take j).length = j := by simp; omega
    obtain ⟨A0, cap0, hsl, hcap0⟩ : ∃ A0 cap0, u3 = .slice A0 j cap0 ∧ j ≤ cap0 := by
      obtain ⟨A0, cap0, h1, h2, _⟩ := hv.list
      exact ⟨A0, cap0, by rw [h1, hvl], by omega⟩
    subst hsl
    have HV := Lib.hid hv
    have HU := Lib.hid hu
    have HC := Lib.hid hb0
    have HR1 := Lib.hid hb1
    have HVL := Lib.hid hvl
    have hsz := hb1.lt
    have y3 := hb0.cell 3 rfl
    clear hv hu hb0 hb1 hvl
    by_cases hlt : j < l.length
    · obtain ⟨b, o, hbB, hA, hx⟩ := H7.out (by rintro rfl; simp at hlt)
      subst hA
      obtain ⟨k', n', s', A', len', cap', hat, hx1⟩ := hx.at2 j hlt
      have hat' := hat.keep hbB (fun b hb => HU.out.block b (by omega))
      obtain ⟨e0, e1, e2, e3⟩ := hat'.four
      have hcall := HI.out l[j] (List.getElem_mem hlt) wr B _ (IsEx.keep (fun b hb => HU.out.block b (by omega)) hx1) (Nat.le_trans hB HU.out.size)
      have HCALL := Lib.hid hcall
      clear hat hat' hx hx1 hcall
      go_wp2_with (first | (go_at_call 133; refine HCALL.out.mono ?_; rintro e w1 ⟨v', rfl, hv', hb1⟩; obtain ⟨k2, n2, s2, A2, len2, cap2, rfl⟩ := hv'.shape; have hVR := HV.out.below hb1; have hAl : Below w1.heap.size w1 (w1.alloc (.cells #[.int .u8 k2, .int .i64 n2, .string s2, .slice A2 len2 cap2] 26)) := (Below.refl _ _).alloc (Nat.le_refl _) _) | (refine wpList_append_row _ rfl (.tmp 12) (.tmp 19) 24 rfl (w.heap.size + 1 + 1) 26 i0 (.agg #[.int .u8 0, .int .i64 0, .string ⟨#[]⟩, .slice Option.none 0 0]) 4 56 Try.underlying24 HIN.out hz0 hz1 hz2 rfl (by decide) (.slice A0 j cap0) j xs rfl ?hy1 ⟨w1.heap.size, 0, Option.none⟩ 1 1 [.int .u8 k2, .int .i64 n2, .string s2, .slice A2 len2 cap2] rfl rfl ?hy2 ?hy3 ?hy4 ?hy5 ?hy6 ?_))
      case hy1 => have := (hVR.below hAl).1; rw [HVL.out] at this; exact this
      case hy2 => exact row_new _ _ _
      case hy3 => intro u hu; simp only [List.mem_cons, List.not_mem_nil, or_false] at hu; rcases hu with rfl | rfl | rfl | rfl <;> rfl
      case hy4 => unfold maxLen; omega
      case hy5 => omega
      case hy6 => have := hb1.size; simp; omega
      intro sl' w3 hown' hgrow hor
      have hob : ∀ g, (Value.slice A0 j cap0).ownBlock = some g → w.heap.size + 1 + 1 ≤ g ∧ g < wr.heap.size := fun g hg => HV.out.blk hg
      have hs1 := hb1.size
      have hU1 := bnext HU.out hb1
      have HV3 : Hid (GRowU RdE 26 4 w3 (w.heap.size + 1 + 1) sl' (l.take j ++ [l[j]]) (xs ++ [.int .u8 k2, .int .i64 n2, .string s2, .slice A2 len2 cap2])) := Lib.hid (
        GRowU.push (lo2 := wr.heap.size) (hVR.below hAl) rfl ⟨_, _, _, _, rfl, IsExR.mono (fun b o hr => hr.below hAl) (IsExR.keep (fun b o hr => hAl.block b hr.lt) hv')⟩ (by omega) (fun g hg => (hob g hg).2) (by rw [HVL.out]; exact hown') hgrow (by simpa using hor))
      have hk3 : ∀ b, b < w1.heap.size → b < w.heap.size + 1 + 1 → w3.heap[b]? = w1.heap[b]? := fun b hb hb2 =>
        (hgrow.block b (by simp; omega) (fun e => by have := (hob b e.symm).1; omega)).trans (hAl.block b hb)
      have HU3 : Hid (Below w.heap.size w w3) := Lib.hid ((hU1.alloc hU1.size _).grown hgrow (by have := hU1.size; simp; omega) (fun g hg => by have := (hob g hg).1; omega))
      have H03 : Hid (BlkN w3 w.heap.size 26 #[.int .u8 k, .int .i64 n, .string s, .slice (some ⟨b, o, Option.none⟩) l.length cap]) := Lib.hid ((hk3 _ (by omega) (by omega)).trans (HC.out.below hb1))
      have H13 : Hid (BlkN w3 (w.heap.size + 1) 26 #[.int .u8 0, .int .i64 0, .string ⟨#[]⟩, .slice Option.none 0 0]) := Lib.hid ((hk3 _ (by omega) (by omega)).trans (HR1.out.below hb1))
      clear hown' hgrow hor hk3 hob hU1 hVR hAl hv' hb1 e0 e1 e2 e3
      go_wp2_with fail
      go_roundw
      case rel => exact ⟨j + 1, by omega, by go_num, _, by rw [take_snoc_get l j hlt]; exact HV3.out, HU3.out, H03.out, H13.out⟩
      case measure => simp [intOf]; omega
    · obtain rfl : j = l.length := by omega
      have z3 := HC.out.free 3
      obtain ⟨W5, hW5⟩ : ∃ W5, W5 = wr.setCell ⟨w.heap.size, 3, Option.none⟩ (.slice A0 l.length cap0) := ⟨_, rfl⟩
      have hA5 : BlkN W5 w.heap.size 26 #[.int .u8 k, .int .i64 n, .string s, .slice A0 l.length cap0] := by rw [hW5]; exact HC.out.set 3 _
      have hZ5 : BlkN W5 (w.heap.size + 1) 26 #[.int .u8 0, .int .i64 0, .string ⟨#[]⟩, .slice Option.none 0 0] := by rw [hW5]; exact HR1.out.setOther (by simp) _
      have hvf := HV.out.upd (p := w.heap.size) ((Upd.refl _ _).set 3 (.slice A0 l.length cap0)) (by omega)
      have hB5 := HU.out.setCell (p := ⟨w.heap.size, 3, Option.none⟩) (Nat.le_refl _) (.slice A0 l.length cap0)
      rw [← hW5] at hvf hB5
      go_upto_region 7 with (fail)
      rw [← hW5]
      refine wp_region_lit ?_
      refine wpList_load_blk rfl 26 (.tmp 1) rfl ⟨w.heap.size, 0, Option.none⟩ rfl (.agg #[.int .u8 k, .int .i64 n, .string s, .slice A0 l.length cap0]) (run_loadVar_blk Try.underlying26 HIN.out hA5 (by rw [hz1]; rfl)) ?_
      refine wpList_store_blk rfl 26 (.tmp 2) (.tmp 23) rfl i0 HIN.out (w.heap.size + 1) #[.int .u8 k, .int .i64 n, .string s, .slice A0 l.length cap0] rfl rfl 26 _ hZ5 (by rw [hz1]; rfl) rfl (by intro u hu; simp only [List.mem_cons, List.not_mem_nil, or_false] at hu; rcases hu with rfl | rfl | rfl | rfl <;> rfl) ?_
      intro W6 hB6 hbut
      go_wp2_with fail
      refine bodyPost_ret (results_cell1 (s := 2) (b := w.heap.size + 1) rfl Try.underlying26 HIN.out rfl hB6 (by rw [hz1]; rfl)) rfl ⟨_, rfl, ?_, hbut.below (by omega) hB5⟩
      rw [List.take_length] at hvf
      have hvf2 := hvf.upd hbut.toUpd (by omega)
      obtain ⟨A1, cap1, h1', h2', h3'⟩ := hvf2.list
      unfold IsExR
      refine ⟨h1, h2, h3, hlen, A1, cap1, h2', by rw [h1'], fun hne => ?_⟩
      obtain ⟨b', h4, h5, h6⟩ := h3' hne
      exact ⟨b', 0, h4.low (by omega), h5, (RdE.list h6).mono (fun b o hr => hr.low (by omega))⟩
end Go.Proofs.Ytnknefdpglnbnaa
namespace Go.Proofs.Ytnknefdpglnbnaa
open Go.RowKit

theorem run_append_owned_zero {P : Program} {w : World} (base : Nat) (t ty e : TypeId) (i : TypeInfo) (size : Nat) (ht : P.underlying t = some (.slice e)) (hi : P.info? e = some i)
    (v : Value) (n : Nat) (xs : List Value) (hown : w.ownsRow base e size v n xs) (A : Option Addr) (cap : Nat) :
    (Builtin.append_ #[t, t] ty #[v, .slice A 0 cap]).run P w = .ok v w := by
  have hl : ∀ a, (loadCells a 0).run P w = .ok #[] w := fun a => run_loadCells_list (P := P) w a [] (fun j v hv => by simp at hv)
  rcases hown.2 with ⟨rfl, rfl⟩ | ⟨g, c, cur, rfl, _, _, hnc, _⟩ <;> cases A
  · simp [Builtin.append_, run_underlying ht, sizeOf, typeInfo, hi, Builtin.lenOf, Builtin.firstCells]
  · simp [Builtin.append_, run_underlying ht, sizeOf, typeInfo, hi, Builtin.lenOf, Builtin.firstCells, hl]
  · simp [Builtin.append_, run_underlying ht, sizeOf, typeInfo, hi, Builtin.lenOf, Builtin.firstCells, hnc, storeCells]
  · simp [Builtin.append_, run_underlying ht, sizeOf, typeInfo, hi, Builtin.lenOf, Builtin.firstCells, hnc, storeCells, hl]
theorem wpList_append_zero {P : Program} {w : World} {ops : Array Oper} {rest : List Oper} {o : Oper} {a : Act} {Q : Exit → Act → World → Prop} (hgd : o.guard = Option.none) (s x : Operand) (t : TypeId)
    (ho : o.op = .call { callee := .builtin .append, args := #[s, x], argTypes := #[t, t] })
    (base : Nat) (e : TypeId) (i : TypeInfo) (size : Nat) (ht : P.underlying t = some (.slice e)) (hi : P.info? e = some i)
    (v : Value) (n : Nat) (xs : List Value) (hs : a.eval s = v) (hown : w.ownsRow base e size v n xs) (A : Option Addr) (cap : Nat) (hx : a.eval x = .slice A 0 cap)
    (h : wpList P ops Q rest (a.put o.dst v) w) : wpList P ops Q (o :: rest) a w := by
  refine wpList_plain hgd fun K hK => ?_
  have hrun := run_append_owned_zero (P := P) (w := w) base t o.type e i size ht hi v n xs hown A cap
  unfold Oper.wp
  simp [execOp, ho, resolve, invoke, builtin, hs, hx, hrun, Result.andThen]
  exact hK _ _ h
/-- Texts appended, whatever the slice of none. -/
theorem wpList_append_ss2 {w : World} {ops : Array Oper} {rest : List Oper} {o : Oper} {a : Act} {Q : Exit → Act → World → Prop} (hgd : o.guard = Option.none) (s x : Operand)
    (ho : o.op = .call { callee := .builtin .append, args := #[s, x], argTypes := #[56, 56] }) (base B : Nat) (v : Value) (n : Nat) (xs : List Value) (hs : a.eval s = v) (hown : w.ownsRow base 9 1 v n xs)
    (A : Option Addr) (len cap : Nat) (l : List ByteArray) (hx : a.eval x = .slice A len cap) (hl : IsSs w B (.slice A len cap) l) (h63 : n + len ≤ maxLen) (hby : (n + len) * 16 ≤ 140737488355328) (hbase : base ≤ w.heap.size)
    (h : ∀ v' w', w'.ownsRow base 9 1 v' (n + l.length) (xs ++ l.map Value.string) → w.grownBy w' v.ownBlock →
      (v'.ownBlock = v.ownBlock ∨ ∃ g, v'.ownBlock = some g ∧ w.heap.size ≤ g) → wpList Try.prog ops Q rest (a.put o.dst v') w') : wpList Try.prog ops Q (o :: rest) a w := by
  by_cases hl0 : l = []
  · subst hl0
    obtain ⟨i0, hi, hz0, hz1, hz2⟩ := info_parts info9
    obtain ⟨_, _, A', cap', _, he, _⟩ := hl
    simp only [Value.slice.injEq, List.length_nil] at he
    obtain ⟨rfl, rfl, rfl⟩ := he
    refine wpList_append_zero hgd s x 56 ho base 9 i0 1 Try.underlying56 hi v n xs hs hown A cap hx (h v w (by simpa using hown) ⟨rfl, rfl, rfl, Nat.le_refl _, fun _ _ _ => rfl⟩ (.inl rfl))
  · obtain ⟨i0, hi, hz0, hz1, hz2⟩ := info_parts info9
    obtain ⟨hl16, hsz, A', cap', hcap, he, hA⟩ := hl
    simp only [Value.slice.injEq] at he
    obtain ⟨rfl, rfl, rfl⟩ := he
    obtain ⟨b, o', hb, hAe, hp⟩ := hA hl0
    subst hAe
    refine wpList_append_row w hgd s x 56 ho base 9 i0 (.string ⟨#[]⟩) 1 16 Try.underlying56 hi hz0 hz1 hz2 rfl (by decide) v n xs hs hown ⟨b, o', Option.none⟩ l.length cap (l.map Value.string) hx (by simp) (fun j u hj => ?_) (fun u hu => ?_) h63 hby hbase ?_
    · have hj' : j < l.length := by have := (List.getElem?_eq_some_iff.1 hj).1; simpa using this
      rw [show (⟨b, o', Option.none⟩ : Addr).add j = ⟨b, o' + j, Option.none⟩ from by unfold Addr.add; split <;> simp_all]
      rw [hp j hj']
      simp [List.getElem?_eq_getElem hj'] at hj
      rw [hj]
    · obtain ⟨t, _, rfl⟩ := List.mem_map.1 hu
      rfl
    · intro v' w' h1 h2 h3
      exact h v' w' h1 h2 h3
theorem IsSsR_of_own {w : World} {base : Nat} {v : Value} {n : Nat} {ss : List ByteArray} (h : w.ownsRow base 9 1 v n (ss.map Value.string)) (hl : ss.length * 16 ≤ 140737488351232) (hs : ∀ s ∈ ss, s.size ≤ 140737488351232) : IsSsR w (OwnU base w) v ss := by
  have hn : ss.length = n := by have := h.1; simpa using this
  refine ⟨hl, hs, ?_⟩
  rcases h.2 with ⟨rfl, h0⟩ | ⟨g, cap, cur, rfl, hb, hg, hc, _, hcs, htake⟩
  · refine ⟨Option.none, 0, by omega, by rw [hn, h0], fun hne => absurd (List.length_eq_zero_iff.1 (by omega)) hne⟩
  · refine ⟨some ⟨g, 0, Option.none⟩, cap, by omega, by rw [hn], fun _ => ⟨g, 0, ⟨hb, cur, 9, hg⟩, rfl, fun i hi => ?_⟩⟩
    have := h.cellAt i (by omega)
    simp only [Nat.zero_add]
    rw [this, List.getElem?_map, List.getElem?_eq_getElem hi]
    rfl
/-- A part of a block that is known whole, stored. -/
theorem wpList_store_part {P : Program} {w : World} {ops : Array Oper} {rest : List Oper} {o : Oper} {a : Act} {Q : Exit → Act → World → Prop} (hg : o.guard = Option.none) (T : TypeId) (p v : Operand) (hop : o.op = Op.store T p v)
    (i : TypeInfo) (hi : P.info? T = some i) (b off : Nat) (x : Value) (cs : List Value) (hp : a.eval p = .pointer (some ⟨b, off, Option.none⟩)) (hv : a.eval v = x) (hx : x.cells.toList = cs) (Tb : TypeId) (cur nw : Array Value) (hB : BlkN w b Tb cur) (hn : cs.length = i.size) (hc : off + cs.length ≤ cur.size) (h1 : ∀ u ∈ cs, u.oneCell' = true)
    (hnw : cur.toList.take off ++ cs ++ cur.toList.drop (off + cs.length) = nw.toList)
    (h : ∀ w', BlkN w' b Tb nw → But b w w' → wpList P ops Q rest (a.put o.dst undef) w') : wpList P ops Q (o :: rest) a w := by
  refine wpList_plain hg fun K hK => ?_
  have hst := run_storeCells_at (P := P) b off Tb cs 0 cur w hB (by omega) h1
  rw [Nat.add_zero, hnw, Array.toArray_toList] at hst
  have hr : (storeVar T ⟨b, off, Option.none⟩ x).run P w = .ok () (w.setRow b nw) := by
    have hsz : x.cells.size = i.size := by rw [← Array.length_toList, hx, hn]
    simp [storeVar, sizeOf, typeInfo, hi, hsz, hx, hst]
  unfold Oper.wp
  simp [execOp, hop, hp, hv, Instr.storeAt, Instr.sureAddr, hr, Result.andThen]
  exact hK _ _ (h _ (setRow_heap w b cur nw Tb (0, 0) hB) ⟨rfl, rfl, rfl, by simp [World.setRow], fun k hk => setRow_other w b k nw hk⟩)
/-- Statements. -/
def RdS : Rd St where
  P := fun w R cs x => ∃ s : SV, cs = s.arr.toList ∧ IsStR w R s x
  keep := fun hk ⟨s, h1, h2⟩ => ⟨s, h1, h2.keep hk⟩
  mono := fun hk ⟨s, h1, h2⟩ => ⟨s, h1, h2.mono hk⟩
theorem RdS.list {w : World} {R : Nat → Nat → Prop} {b : Nat} : ∀ {o : Nat} {l : List St}, (∀ (i : Nat) (hi : i < l.length), ∃ cs : List Value, cs.length = 17 ∧ At w b (o + i * 17) cs ∧ RdS.P w R cs l[i]) → IsStsR w R b o l
  | _, [], _ => by unfold IsStsR; trivial
  | o, x :: l, h => by
    unfold IsStsR
    refine ⟨?_, RdS.list fun i hi => ?_⟩
    · obtain ⟨cs, _, h2, s, rfl, h3⟩ := h 0 (by simp)
      exact ⟨s, by simpa using h2, h3⟩
    · have := h (i + 1) (by simpa using hi)
      rw [show o + (i + 1) * 17 = o + 17 + i * 17 by omega] at this
      exact this
end Go.Proofs.Ytnknefdpglnbnaa
namespace Go.RegT
open Go Go.RowKit
variable {P : Program} {ops : Array Oper} {md : Region.Mode} {Q : Exit → Act → World → Prop} {T : Nat → Bool} {S : World → Prop}
theorem seqM_free {i : Nat} {o : Oper} {rest : List (Bool × Nat)} {a : Act} {w : World} (hi : ops[i]? = some o) (hT : T i = false)
    (h : wpList P ops (Exit.then (fun a w => seqM P ops Q T S rest a w) Q) [o] a w) : seqM P ops Q T S ((false, i) :: rest) a w := by
  show wpOp P ops Q i _ a w
  unfold wpOp
  simp only [hi]
  unfold wpList at h
  split
  · rename_i hw
    rw [if_pos hw] at h
    rcases h with h | h
    · refine .inl ?_
      unfold Oper.wp at *
      generalize (execOp a.eval o).run P w = r at *
      cases r with
      | ok x w' => cases x <;> simp only [Oper.upon, wpList, Exit.then] at h ⊢ <;> first
        | exact ⟨fun ht => (by rw [hT] at ht; cases ht), h⟩
        | (refine Calls.mono h fun e w'' he => ?_
           cases e with
           | returned u => exact ⟨fun ht => (by rw [hT] at ht; cases ht), he⟩
           | panicked c => exact he
           | outgrown => exact he)
        | exact Rows.mono h fun u w'' he => ⟨fun ht => (by rw [hT] at ht; cases ht), he⟩
        | exact h
      | halt x w' => cases x <;> simp only [Oper.upon, Exit.then] at h ⊢ <;> exact h
    · exact .inr h
  · rename_i hw
    rw [if_neg hw] at h
    exact ⟨fun ht => (by rw [hT] at ht; cases ht), h⟩
theorem wpList_end {a : Act} {w : World} (h : Q .normal a w) : wpList P ops Q [] a w := by unfold wpList; exact h
end Go.RegT
namespace Go.Proofs.Ytnknefdpglnbnaa
open Go.RowKit

theorem exU {lo p : Nat} {w w' : World} {v : Value} {x : Ex} (h : IsExR w (OwnU lo w) v x) (hu : Upd p w w') (hp : p < lo) : IsExR w' (OwnU lo w') v x :=
  IsExR.mono (fun b o hr => hr.of (hu.block b hr.lt (by have := hr.1; omega))) (IsExR.keep (fun b o hr => hu.block b hr.lt (by have := hr.1; omega)) h)
theorem lrU {lo p len cap : Nat} {w w' : World} {A : Option Addr} {l : List St} (h : LR (OwnU lo w) 256 A len cap l (fun b o => IsStsR w (OwnU lo w) b o l)) (hu : Upd p w w') (hp : p < lo) : LR (OwnU lo w') 256 A len cap l (fun b o => IsStsR w' (OwnU lo w') b o l) :=
  h.imp fun b o hr hq => ⟨hr.of (hu.block b hr.lt (by have := hr.1; omega)), IsStsR.mono (fun b o hr => hr.of (hu.block b hr.lt (by have := hr.1; omega))) (IsStsR.keep (fun b o hr => hu.block b hr.lt (by have := hr.1; omega)) (hu.block b hr.lt (by have := hr.1; omega)) hq)⟩
theorem ssU {lo p : Nat} {w w' : World} {v : Value} {l : List ByteArray} (h : IsSsR w (OwnU lo w) v l) (hu : Upd p w w') (hp : p < lo) : IsSsR w' (OwnU lo w') v l :=
  IsSsR.mono (fun b o hr => hr.of (hu.block b hr.lt (by have := hr.1; omega))) (IsSsR.keep (fun b o hr => hu.block b hr.lt (by have := hr.1; omega)) h)
theorem exU.low {lo lo' : Nat} {w : World} {v : Value} {x : Ex} (h : IsExR w (OwnU lo w) v x) (hl : lo' ≤ lo) : IsExR w (OwnU lo' w) v x := IsExR.mono (fun _b _o hr => hr.low hl) h
theorem lrU.low {lo lo' len cap : Nat} {w : World} {A : Option Addr} {l : List St} (h : LR (OwnU lo w) 256 A len cap l (fun b o => IsStsR w (OwnU lo w) b o l)) (hl : lo' ≤ lo) : LR (OwnU lo' w) 256 A len cap l (fun b o => IsStsR w (OwnU lo' w) b o l) :=
  h.imp fun _b _o hr hq => ⟨hr.low hl, IsStsR.mono (fun _b _o hr => hr.low hl) hq⟩
def CodeOC (l : List St) : Prop := ∀ (w : World) (B : Nat) (A : Option Addr) (len cap : Nat), LR (fun b _ => b < B) 256 A len cap l (fun b o => IsSts w B b o l) → B ≤ w.heap.size →
  Calls Try.prog 105 #[.slice A len cap] w fun e w' => ∃ A' cap', e = .returned (.slice A' l.length cap') ∧ LR (OwnU w.heap.size w') 256 A' l.length cap' l (fun b o => IsStsR w' (OwnU w.heap.size w') b o l) ∧ Below w.heap.size w w'
theorem info42 : (Try.prog.info? 42).map (fun i => (i.zero, i.size, i.bytes)) = some (some (.slice Option.none 0 0), 1, 24) := by kernel_rfl
theorem info56 : (Try.prog.info? 56).map (fun i => (i.zero, i.size, i.bytes)) = some (some (.slice Option.none 0 0), 1, 24) := by kernel_rfl
theorem buildS42 (s : SV) (w : World) : (Instr.buildSlice 42 1 #[(0, .agg s.arr)]).run Try.prog w = .ok (.slice (some ⟨w.heap.size, 0, Option.none⟩) 1 1) (w.alloc (.cells s.arr 58)) := by kernel_rfl
attribute [local go_sem] SV.g0 SV.g1 SV.g2 SV.g3 SV.g4 SV.g5 SV.g6 SV.g7 SV.g8 SV.g9 SV.g10 SV.g11 SV.g12 SV.g13 SV.g14 SV.g15 SV.g16
attribute [local irreducible] RegT.seqT RegT.seqM wpList
set_option maxRecDepth 100000 in
set_option maxHeartbeats 4000000 in
theorem code105_step (l : List St) (IH : ∀ x ∈ l, ∀ op nm sec ab wh a b t e c ws, x = .mk op nm sec ab wh a b t e c ws → CodeOC t ∧ CodeOC e ∧ CodeOC c) : CodeOC l := by
  intro w B A len cap hl hB
  obtain ⟨rfl, hcap, hsz, h7⟩ := hl
  have H7 := Lib.hid h7
  have HI := Lib.hid IH
  have hlen : l.length ≤ 140737488351232 := by omega
  have HSZ := Lib.hid hsz
  obtain ⟨i0, hi, hz0, hz1, hz2⟩ := info_parts info58
  obtain ⟨i26, hi26', _, hi26, _⟩ := info_parts info26
  obtain ⟨i42, hi42', _, hi42, _⟩ := info_parts info42
  obtain ⟨i56, hi56', _, hi56, _⟩ := info_parts info56
  have HIN := Lib.hid hi
  have HI26 := Lib.hid hi26'
  have HI42 := Lib.hid hi42'
  have HI56 := Lib.hid hi56'
  clear h7 IH hi hi26' hi42' hi56' hsz
  go_enter Try.func105, Try.ntmps105
  go_wp2_with fail
  go_loopw [3, 4] (fun sl i wr => ∃ j : Nat, j ≤ l.length ∧ i = .int .i64 j ∧ ∃ (xs : List Value), GRowU RdS 58 17 wr w.heap.size sl (l.take j) xs ∧ Below w.heap.size w wr) (fun _ i _ => l.length - (intOf i).toNat)
  case atStart => exact ⟨0, by omega, rfl, [], GRowU.nil _ _ _ _ _, Below.refl _ _⟩
  case round =>
    obtain ⟨j, hj, rfl, xs, hv, hu⟩ := hrel
    have hvl : (l.take j).length = j := by simp; omega
    obtain ⟨A0, cap0, hsl, hcap0⟩ : ∃ A0 cap0, u3 = .slice A0 j cap0 ∧ j ≤ cap0 := by
      obtain ⟨A0, cap0, h1, h2, _⟩ := hv.list
      exact ⟨A0, cap0, by rw [h1, hvl], by omega⟩
    subst hsl
    have HV := Lib.hid hv
    have HU := Lib.hid hu
    have HVL := Lib.hid hvl
    clear hv hu hvl
    by_cases hlt : j < l.length
    rotate_left
    · obtain rfl : j = l.length := by omega
      go_wp2_with fail
      go_ret
      have hvf := HV.out
      rw [List.take_length] at hvf
      obtain ⟨A1, cap1, h1', h2', h3'⟩ := hvf.list
      simp only [Value.slice.injEq] at h1'
      obtain ⟨rfl, _, rfl⟩ := h1'
      refine ⟨_, _, rfl, ⟨rfl, h2', HSZ.out, fun hne => ?_⟩, HU.out⟩
      obtain ⟨b', h4, h5, h6⟩ := h3' hne
      exact ⟨b', 0, h4, h5, RdS.list h6⟩
    obtain ⟨b, o, hbB, hA, hx⟩ := H7.out (by rintro rfl; simp at hlt)
    subst hA
    obtain ⟨s, hat, hs⟩ := hx.at j hlt
    have HAT := Lib.hid (At.keep hat hbB (fun b hb => HU.out.block b (by omega)))
    have hs' : IsSt wr B s l[j] := IsSt.keep (fun b hb => HU.out.block b (by omega)) hs
    have HI3 := HI.out _ (List.getElem_mem hlt)
    obtain ⟨x, hxe⟩ : ∃ x, x = l[j] := ⟨_, rfl⟩
    rw [← hxe] at HI3 hs'
    have HXE := Lib.hid hxe
    have HS := Lib.hid hs'
    obtain ⟨op, nm, sec, ab, wh, xa, xb, t, e, c, ws⟩ := x
    obtain ⟨it, ie, ic⟩ := HI3 _ _ _ _ _ _ _ _ _ _ _ rfl
    have HT := Lib.hid it
    have HE := Lib.hid ie
    have HC := Lib.hid ic
    clear hat hs hs' hx hxe HI3 it ie ic
    go_upto_region 6 with (first | (refine wpList_load_blk rfl 58 (.tmp 15) rfl ⟨b, o + j * 17, Option.none⟩ rfl (.agg s.arr) (run_loadVar_at Try.underlying58 HIN.out HAT.out (by rw [hz1]; rfl)) ?_) | (refine wpList_store_blk rfl 58 (.tmp 5) (.tmp 16) rfl i0 HIN.out wr.heap.size s.arr rfl rfl 58 SV.zero.arr (BlkN.at_ rfl 58 SV.zero.arr) (by rw [hz1]; rfl) rfl (SV.one _) ?_; intro w1 hB1 hbut))
    obtain ⟨p, hp⟩ : ∃ p, p = wr.heap.size := ⟨_, rfl⟩
    have hb1 : Below wr.heap.size wr w1 := hbut.below (Nat.le_refl _) ((Below.refl _ _).alloc (Nat.le_refl _) _)
    have hs1 : wr.heap.size ≤ w1.heap.size := hb1.size
    rw [← hp] at hB1 ⊢
    have hpw1 := hB1.lt
    have HP := Lib.hid hp
    have HB1 := Lib.hid hB1
    have HBR1 := Lib.hid hb1
    clear hB1 hbut hb1 hp HAT
    have ca : ∀ w', Below w1.heap.size w1 w' → Calls Try.prog 133 #[.agg #[.int .u8 s.a0, .int .i64 s.a1, .string s.a2, .slice s.aA s.al s.ac]] w' fun e w'' => ∃ v', e = .returned v' ∧ IsExR w'' (OwnU w'.heap.size w'') v' xa ∧ Below w'.heap.size w' w'' :=
      fun w' hb => expr133_any xa w' B _ (IsEx.keep (B := B) (fun b hb' => (bnext HBR1.out hb).block b (by have := HU.out.size; omega)) HS.out.form.2.2.1) (by have := HU.out.size; have := hb.size; omega)
    have cb : ∀ w', Below w1.heap.size w1 w' → Calls Try.prog 133 #[.agg #[.int .u8 s.b0, .int .i64 s.b1, .string s.b2, .slice s.bA s.bl s.bc]] w' fun e w'' => ∃ v', e = .returned v' ∧ IsExR w'' (OwnU w'.heap.size w'') v' xb ∧ Below w'.heap.size w' w'' :=
      fun w' hb => expr133_any xb w' B _ (IsEx.keep (B := B) (fun b hb' => (bnext HBR1.out hb).block b (by have := HU.out.size; omega)) HS.out.form.2.2.2.1) (by have := HU.out.size; have := hb.size; omega)
    have HCA := Lib.hid ca
    have HCB := Lib.hid cb
    clear ca cb
    refine RegT.region_mix (fun i => Nat.ble i 5) (fun W => BlkN W p 58 s.arr) [(true, 0), (true, 1), (true, 3), (true, 4), (false, 2), (true, 6), (false, 5), (false, 7), (false, 8), (false, 9)] rfl (by kernel_rfl) (by kernel_rfl) (by decide) ?_
    have hS0 : BlkN w1.drew p 58 s.arr := HB1.out
    refine RegT.seqM_quiet hS0 rfl (fun _ _ _ h => h) (by kernel_rfl) (v := .pointer (some ⟨p, 5, Option.none⟩)) (fun w' hS => ?_) ?_
    · go_simp
    refine RegT.seqM_quiet hS0 rfl (fun _ _ _ h => h) (by kernel_rfl) (v := .agg #[.int .u8 s.a0, .int .i64 s.a1, .string s.a2, .slice s.aA s.al s.ac]) (fun w' hS => ?_) ?_
    · have hS : BlkN w' p 58 s.arr := hS; have t5 := hS.cell 5 s.at5; have t6 := hS.cell 6 s.at6; have t7 := hS.cell 7 s.at7; have t8 := hS.cell 8 s.at8; go_simp
    refine RegT.seqM_quiet hS0 rfl (fun _ _ _ h => h) (by kernel_rfl) (v := .pointer (some ⟨p, 9, Option.none⟩)) (fun w' hS => ?_) ?_
    · go_simp
    refine RegT.seqM_quiet hS0 rfl (fun _ _ _ h => h) (by kernel_rfl) (v := .agg #[.int .u8 s.b0, .int .i64 s.b1, .string s.b2, .slice s.bA s.bl s.bc]) (fun w' hS => ?_) ?_
    · have hS : BlkN w' p 58 s.arr := hS; have t9 := hS.cell 9 s.at9; have t10 := hS.cell 10 s.at10; have t11 := hS.cell 11 s.at11; have t12 := hS.cell 12 s.at12; go_simp
    refine RegT.seqM_held rfl ?_
    have HD : Hid (Below w1.heap.size w1 w1.drew) := Lib.hid ((Below.refl _ _).drew)
    go_wp2_with (go_at_call 133; refine (HCA.out _ HD.out).mono ?_; rintro e2 w2 ⟨v2, rfl, hx2, hb2⟩; obtain ⟨k2, n2, z2, A2, len2, cap2, rfl⟩ := hx2.shape)
    have hb12 : Below w1.heap.size w1 w2 := bnext HD.out hb2
    have hS2 : BlkN w2 p 58 s.arr := HB1.out.below hb12
    have HX2 : Hid (IsExR w2 (OwnU w1.heap.size w2) (.agg #[.int .u8 k2, .int .i64 n2, .string z2, .slice A2 len2 cap2]) xa) := Lib.hid hx2
    have HB12 := Lib.hid hb12
    clear hb2 hx2 hb12
    refine ⟨hS2, ?_⟩
    refine RegT.seqM_quiet hS2 rfl (fun _ _ _ h => h) (by kernel_rfl) (v := .pointer (some ⟨p, 5, Option.none⟩)) (fun w' hS => ?_) ?_
    · go_simp
    refine RegT.seqM_held rfl ?_
    go_wp2_with (go_at_call 133; refine (HCB.out _ HB12.out).mono ?_; rintro e3 w3 ⟨v3, rfl, hx3, hb3⟩; obtain ⟨k3, n3, z3, A3, len3, cap3, rfl⟩ := hx3.shape)
    have hS3 : BlkN w3 p 58 s.arr := hS2.below hb3
    have hw12 : w1.heap.size ≤ w2.heap.size := HB12.out.size
    have hw23 : w2.heap.size ≤ w3.heap.size := hb3.size
    have HX3 : Hid (IsExR w3 (OwnU w1.heap.size w3) (.agg #[.int .u8 k3, .int .i64 n3, .string z3, .slice A3 len3 cap3]) xb) := Lib.hid (exU.low hx3 hw12)
    have HX2' : Hid (IsExR w3 (OwnU w1.heap.size w3) (.agg #[.int .u8 k2, .int .i64 n2, .string z2, .slice A2 len2 cap2]) xa) := Lib.hid (exU HX2.out (Upd.ofBelow hb3 p) hpw1)
    have HB13 := Lib.hid (bnext HB12.out hb3)
    clear hb3 hx3 HX2 HB12 hS0 hS2 HD HCA HCB
    refine ⟨hS3, RegT.seqM_free rfl rfl ?_⟩
    refine wpList_store_part rfl 26 (.tmp 23) (.tmp 19) rfl i26 HI26.out p 5 (.agg #[.int .u8 k2, .int .i64 n2, .string z2, .slice A2 len2 cap2]) [.int .u8 k2, .int .i64 n2, .string z2, .slice A2 len2 cap2] rfl rfl rfl 58 s.arr ({ s with a0 := k2, a1 := n2, a2 := z2, aA := A2, al := len2, ac := cap2 } : SV).arr hS3 (by rw [hi26]; rfl) (show _ ≤ 17 by simp) (by intro u hu; simp only [List.mem_cons, List.not_mem_nil, or_false] at hu; rcases hu with rfl | rfl | rfl | rfl <;> rfl) rfl ?_
    intro w4 hB4 hbut4
    refine RegT.wpList_end (RegT.seqM_free rfl rfl ?_)
    go_wp2_with fail
    refine RegT.seqM_free rfl rfl ?_
    refine wpList_store_part rfl 26 (.tmp 24) (.tmp 22) rfl i26 HI26.out p 9 (.agg #[.int .u8 k3, .int .i64 n3, .string z3, .slice A3 len3 cap3]) [.int .u8 k3, .int .i64 n3, .string z3, .slice A3 len3 cap3] rfl rfl rfl 58 _ ({ s with a0 := k2, a1 := n2, a2 := z2, aA := A2, al := len2, ac := cap2, b0 := k3, b1 := n3, b2 := z3, bA := A3, bl := len3, bc := cap3 } : SV).arr hB4 (by rw [hi26]; rfl) (show _ ≤ 17 by simp) (by intro u hu; simp only [List.mem_cons, List.not_mem_nil, or_false] at hu; rcases hu with rfl | rfl | rfl | rfl <;> rfl) rfl ?_
    intro w5 hB5 hbut5
    refine RegT.wpList_end (RegT.seqM_end ?_)
    simp only [RegT.NP, Exit.then]
    obtain ⟨s5, hs5⟩ : ∃ s5 : SV, s5 = { s with a0 := k2, a1 := n2, a2 := z2, aA := A2, al := len2, ac := cap2, b0 := k3, b1 := n3, b2 := z3, bA := A3, bl := len3, bc := cap3 } := ⟨_, rfl⟩
    rw [← hs5] at hB5
    have hS5 : s5.tA = s.tA ∧ s5.tl = s.tl ∧ s5.tc = s.tc ∧ s5.eA = s.eA ∧ s5.el = s.el ∧ s5.ec = s.ec ∧ s5.cA = s.cA ∧ s5.cl = s.cl ∧ s5.cc = s.cc ∧ s5.wA = s.wA ∧ s5.wl = s.wl ∧ s5.wc = s.wc := by rw [hs5]; exact ⟨rfl, rfl, rfl, rfl, rfl, rfl, rfl, rfl, rfl, rfl, rfl, rfl⟩
    have hF5 : (s5.op = s.op ∧ s5.nm = s.nm ∧ s5.sec = s.sec ∧ s5.ab = s.ab ∧ s5.wh = s.wh) ∧ s5.a = .agg #[.int .u8 k2, .int .i64 n2, .string z2, .slice A2 len2 cap2] ∧ s5.b = .agg #[.int .u8 k3, .int .i64 n3, .string z3, .slice A3 len3 cap3] := by rw [hs5]; exact ⟨⟨rfl, rfl, rfl, rfl, rfl⟩, rfl, rfl⟩
    have HS5 := Lib.hid hS5
    have HF5 := Lib.hid hF5
    have hu35 : Upd p w3 w5 := hbut4.toUpd.trans hbut5.toUpd
    have HXA : Hid (IsExR w5 (OwnU w1.heap.size w5) s5.a xa) := Lib.hid (by rw [hF5.2.1]; exact exU HX2'.out hu35 hpw1)
    have HXB : Hid (IsExR w5 (OwnU w1.heap.size w5) s5.b xb) := Lib.hid (by rw [hF5.2.2]; exact exU HX3.out hu35 hpw1)
    have hb15 : Below wr.heap.size wr w5 := hbut5.below (by rw [HP.out]; exact Nat.le_refl _) (hbut4.below (by rw [HP.out]; exact Nat.le_refl _) (bnext HBR1.out HB13.out))
    have HBR5 := Lib.hid hb15
    have hw15 : w1.heap.size ≤ w5.heap.size := Nat.le_trans HB13.out.size hu35.size
    have HB5 := Lib.hid hB5
    have hpw5 := hB5.lt
    clear hs5 hS5 hF5 hbut4 hbut5 hB4 hB5 hu35 hb15 HX2' HX3 hS3 HB13 hw12 hw23
    have hk5 : ∀ w', Below w5.heap.size w5 w' → ∀ b, b < B → w'.heap[b]? = wr.heap[b]? := fun w' hb b hb' => (bnext HBR5.out hb).block b (by have := HU.out.size; omega)
    have ct : ∀ w', Below w5.heap.size w5 w' → Calls Try.prog 105 #[.slice s5.tA s5.tl s5.tc] w' fun r w'' => ∃ A' cap', r = .returned (.slice A' t.length cap') ∧ LR (OwnU w'.heap.size w'') 256 A' t.length cap' t (fun b o => IsStsR w'' (OwnU w'.heap.size w'') b o t) ∧ Below w'.heap.size w' w'' := fun w' hb => by
      rw [HS5.out.1, HS5.out.2.1, HS5.out.2.2.1]
      exact HT.out w' B _ _ _ ((HS.out.form.2.2.2.2.1).imp fun b o hr hp => ⟨hr, IsSts.keep (hk5 w' hb) hr hp⟩) (by have := HU.out.size; have := HBR5.out.size; have := hb.size; omega)
    have HCT := Lib.hid ct
    have ce : ∀ w', Below w5.heap.size w5 w' → Calls Try.prog 105 #[.slice s5.eA s5.el s5.ec] w' fun r w'' => ∃ A' cap', r = .returned (.slice A' e.length cap') ∧ LR (OwnU w'.heap.size w'') 256 A' e.length cap' e (fun b o => IsStsR w'' (OwnU w'.heap.size w'') b o e) ∧ Below w'.heap.size w' w'' := fun w' hb => by
      rw [HS5.out.2.2.2.1, HS5.out.2.2.2.2.1, HS5.out.2.2.2.2.2.1]
      exact HE.out w' B _ _ _ ((HS.out.form.2.2.2.2.2.1).imp fun b o hr hp => ⟨hr, IsSts.keep (hk5 w' hb) hr hp⟩) (by have := HU.out.size; have := HBR5.out.size; have := hb.size; omega)
    have HCE := Lib.hid ce
    have cc : ∀ w', Below w5.heap.size w5 w' → Calls Try.prog 105 #[.slice s5.cA s5.cl s5.cc] w' fun r w'' => ∃ A' cap', r = .returned (.slice A' c.length cap') ∧ LR (OwnU w'.heap.size w'') 256 A' c.length cap' c (fun b o => IsStsR w'' (OwnU w'.heap.size w'') b o c) ∧ Below w'.heap.size w' w'' := fun w' hb => by
      rw [HS5.out.2.2.2.2.2.2.1, HS5.out.2.2.2.2.2.2.2.1, HS5.out.2.2.2.2.2.2.2.2.1]
      exact HC.out w' B _ _ _ ((HS.out.form.2.2.2.2.2.2.1).imp fun b o hr hp => ⟨hr, IsSts.keep (hk5 w' hb) hr hp⟩) (by have := HU.out.size; have := HBR5.out.size; have := hb.size; omega)
    have HCC := Lib.hid cc
    clear ct ce cc hk5 HT HE HC
    go_upto_region 7 with (fail)
    refine RegT.region_mix (fun i => Nat.ble i 8) (fun W => BlkN W p 58 s5.arr) [(true, 0), (true, 1), (true, 3), (true, 4), (true, 6), (true, 7), (false, 2), (true, 9), (false, 5), (false, 8), (false, 10), (false, 11), (false, 12), (false, 13), (false, 14)] rfl (by kernel_rfl) (by kernel_rfl) (by decide) ?_
    have hS0 : BlkN w5.drew p 58 s5.arr := HB5.out
    refine RegT.seqM_quiet hS0 rfl (fun _ _ _ h => h) (by kernel_rfl) (v := .pointer (some ⟨p, 13, Option.none⟩)) (fun w' hS => ?_) ?_
    · go_simp
    refine RegT.seqM_quiet hS0 rfl (fun _ _ _ h => h) (by kernel_rfl) (v := .slice s5.tA s5.tl s5.tc) (fun w' hS => ?_) ?_
    · have hS : BlkN w' p 58 s5.arr := hS; have t13 := hS.cell 13 s5.at13; go_simp
    refine RegT.seqM_quiet hS0 rfl (fun _ _ _ h => h) (by kernel_rfl) (v := .pointer (some ⟨p, 14, Option.none⟩)) (fun w' hS => ?_) ?_
    · go_simp
    refine RegT.seqM_quiet hS0 rfl (fun _ _ _ h => h) (by kernel_rfl) (v := .slice s5.eA s5.el s5.ec) (fun w' hS => ?_) ?_
    · have hS : BlkN w' p 58 s5.arr := hS; have t14 := hS.cell 14 s5.at14; go_simp
    refine RegT.seqM_quiet hS0 rfl (fun _ _ _ h => h) (by kernel_rfl) (v := .pointer (some ⟨p, 15, Option.none⟩)) (fun w' hS => ?_) ?_
    · go_simp
    refine RegT.seqM_quiet hS0 rfl (fun _ _ _ h => h) (by kernel_rfl) (v := .slice s5.cA s5.cl s5.cc) (fun w' hS => ?_) ?_
    · have hS : BlkN w' p 58 s5.arr := hS; have t15 := hS.cell 15 s5.at15; go_simp
    have HD : Hid (Below w5.heap.size w5 w5.drew) := Lib.hid ((Below.refl _ _).drew)
    refine RegT.seqM_held rfl ?_
    go_wp2_with (go_at_call 105; with_reducible refine (HCT.out _ HD.out).mono ?_; rintro r6 w6 ⟨A6, cap6, rfl, hx6, hb6⟩)
    have hb56 : Below w5.heap.size w5 w6 := bnext HD.out hb6
    have hS6 : BlkN w6 p 58 s5.arr := HB5.out.below hb56
    have HX6 : Hid (LR (OwnU w5.heap.size w6) 256 A6 t.length cap6 t (fun b o => IsStsR w6 (OwnU w5.heap.size w6) b o t)) := Lib.hid hx6
    have HB56 := Lib.hid hb56
    have h56 := hb56.size
    clear hx6 hb6 hb56 hS0
    refine ⟨hS6, ?_⟩
    refine RegT.seqM_quiet hS6 rfl (fun _ _ _ h => h) (by kernel_rfl) (v := .pointer (some ⟨p, 13, Option.none⟩)) (fun w' hS => ?_) ?_
    · go_simp
    refine RegT.seqM_held rfl ?_
    go_wp2_with (go_at_call 105; with_reducible refine (HCE.out _ HB56.out).mono ?_; rintro r7 w7 ⟨A7, cap7, rfl, hx7, hb7⟩)
    have hS7 : BlkN w7 p 58 s5.arr := hS6.below hb7
    have HX7 : Hid (LR (OwnU w5.heap.size w7) 256 A7 e.length cap7 e (fun b o => IsStsR w7 (OwnU w5.heap.size w7) b o e)) := Lib.hid (lrU.low hx7 h56)
    have HX6' : Hid (LR (OwnU w5.heap.size w7) 256 A6 t.length cap6 t (fun b o => IsStsR w7 (OwnU w5.heap.size w7) b o t)) := Lib.hid (lrU HX6.out (Upd.ofBelow hb7 p) hpw5)
    have HB57 := Lib.hid (bnext HB56.out hb7)
    have h57 := HB57.out.size
    clear hx7 hb7 HX6 HB56 hS6 HCT
    refine ⟨hS7, ?_⟩
    refine RegT.seqM_held rfl ?_
    go_wp2_with (go_at_call 105; with_reducible refine (HCC.out _ HB57.out).mono ?_; rintro r8 w8 ⟨A8, cap8, rfl, hx8, hb8⟩)
    have hS8 : BlkN w8 p 58 s5.arr := hS7.below hb8
    have HX8 : Hid (LR (OwnU w5.heap.size w8) 256 A8 c.length cap8 c (fun b o => IsStsR w8 (OwnU w5.heap.size w8) b o c)) := Lib.hid (lrU.low hx8 h57)
    have HX7' : Hid (LR (OwnU w5.heap.size w8) 256 A7 e.length cap7 e (fun b o => IsStsR w8 (OwnU w5.heap.size w8) b o e)) := Lib.hid (lrU HX7.out (Upd.ofBelow hb8 p) hpw5)
    have HX6 : Hid (LR (OwnU w5.heap.size w8) 256 A6 t.length cap6 t (fun b o => IsStsR w8 (OwnU w5.heap.size w8) b o t)) := Lib.hid (lrU HX6'.out (Upd.ofBelow hb8 p) hpw5)
    have HB58 := Lib.hid (bnext HB57.out hb8)
    clear hx8 hb8 HX6' HX7 HB57 hS7 HCE HCC HD
    refine ⟨hS8, ?_⟩
    refine RegT.seqM_free rfl rfl ?_
    refine wpList_store_part rfl 42 (.tmp 34) (.tmp 27) rfl i42 HI42.out p 13 (.slice A6 t.length cap6) [.slice A6 t.length cap6] rfl rfl rfl 58 s5.arr ({ s5 with tA := A6, tl := t.length, tc := cap6 } : SV).arr hS8 (by rw [hi42]; rfl) (show _ ≤ 17 by simp) (by intro u hu; simp only [List.mem_cons, List.not_mem_nil, or_false] at hu; rcases hu with rfl; rfl) rfl ?_
    intro w9 hB9 hbut9
    refine RegT.wpList_end (RegT.seqM_free rfl rfl ?_)
    go_wp2_with fail
    refine RegT.seqM_free rfl rfl ?_
    refine wpList_store_part rfl 42 (.tmp 35) (.tmp 30) rfl i42 HI42.out p 14 (.slice A7 e.length cap7) [.slice A7 e.length cap7] rfl rfl rfl 58 _ ({ s5 with tA := A6, tl := t.length, tc := cap6, eA := A7, el := e.length, ec := cap7 } : SV).arr hB9 (by rw [hi42]; rfl) (show _ ≤ 17 by simp) (by intro u hu; simp only [List.mem_cons, List.not_mem_nil, or_false] at hu; rcases hu with rfl; rfl) rfl ?_
    intro w10 hB10 hbut10
    refine RegT.wpList_end (RegT.seqM_free rfl rfl ?_)
    go_wp2_with fail
    refine RegT.seqM_free rfl rfl ?_
    refine wpList_store_part rfl 42 (.tmp 36) (.tmp 33) rfl i42 HI42.out p 15 (.slice A8 c.length cap8) [.slice A8 c.length cap8] rfl rfl rfl 58 _ ({ s5 with tA := A6, tl := t.length, tc := cap6, eA := A7, el := e.length, ec := cap7, cA := A8, cl := c.length, cc := cap8 } : SV).arr hB10 (by rw [hi42]; rfl) (show _ ≤ 17 by simp) (by intro u hu; simp only [List.mem_cons, List.not_mem_nil, or_false] at hu; rcases hu with rfl; rfl) rfl ?_
    intro w11 hB11 hbut11
    refine RegT.wpList_end (RegT.seqM_end ?_)
    simp only [RegT.NP, Exit.then]
    obtain ⟨s11, hs11⟩ : ∃ s11 : SV, s11 = { s5 with tA := A6, tl := t.length, tc := cap6, eA := A7, el := e.length, ec := cap7, cA := A8, cl := c.length, cc := cap8 } := ⟨_, rfl⟩
    rw [← hs11] at hB11
    have hF11 : (s11.op = s.op ∧ s11.nm = s.nm ∧ s11.sec = s.sec ∧ s11.ab = s.ab ∧ s11.wh = s.wh) ∧ s11.a = s5.a ∧ s11.b = s5.b ∧ (s11.tA = A6 ∧ s11.tl = t.length ∧ s11.tc = cap6) ∧ (s11.eA = A7 ∧ s11.el = e.length ∧ s11.ec = cap7) ∧ (s11.cA = A8 ∧ s11.cl = c.length ∧ s11.cc = cap8) ∧ (s11.wA = s.wA ∧ s11.wl = s.wl ∧ s11.wc = s.wc) := by
      rw [hs11]; exact ⟨HF5.out.1, rfl, rfl, ⟨rfl, rfl, rfl⟩, ⟨rfl, rfl, rfl⟩, ⟨rfl, rfl, rfl⟩, HS5.out.2.2.2.2.2.2.2.2.2⟩
    have HF11 := Lib.hid hF11
    have hu811 : Upd p w8 w11 := (hbut9.toUpd.trans hbut10.toUpd).trans hbut11.toUpd
    have hu511 : Upd p w5 w11 := (Upd.ofBelow HB58.out p).trans hu811
    have HXA' : Hid (IsExR w11 (OwnU w1.heap.size w11) s5.a xa) := Lib.hid (exU HXA.out hu511 hpw1)
    have HXB' : Hid (IsExR w11 (OwnU w1.heap.size w11) s5.b xb) := Lib.hid (exU HXB.out hu511 hpw1)
    have HXT : Hid (LR (OwnU w1.heap.size w11) 256 A6 t.length cap6 t (fun b o => IsStsR w11 (OwnU w1.heap.size w11) b o t)) := Lib.hid (lrU.low (lrU HX6.out hu811 hpw5) hw15)
    have HXE' : Hid (LR (OwnU w1.heap.size w11) 256 A7 e.length cap7 e (fun b o => IsStsR w11 (OwnU w1.heap.size w11) b o e)) := Lib.hid (lrU.low (lrU HX7'.out hu811 hpw5) hw15)
    have HXC : Hid (LR (OwnU w1.heap.size w11) 256 A8 c.length cap8 c (fun b o => IsStsR w11 (OwnU w1.heap.size w11) b o c)) := Lib.hid (lrU.low (lrU HX8.out hu811 hpw5) hw15)
    have hb11 : Below wr.heap.size wr w11 := hbut11.below (by rw [HP.out]; exact Nat.le_refl _) (hbut10.below (by rw [HP.out]; exact Nat.le_refl _) (hbut9.below (by rw [HP.out]; exact Nat.le_refl _) (bnext HBR5.out HB58.out)))
    have HBR11 := Lib.hid hb11
    have hw111 : w1.heap.size ≤ w11.heap.size := Nat.le_trans hw15 hu511.size
    have HB11 := Lib.hid hB11
    have hpw11 := hB11.lt
    have q16 := hB11.cell 16 s11.at16
    have HWS : Hid (IsSs w11 B (.slice s11.wA s11.wl s11.wc) ws) := Lib.hid (by
      rw [hF11.2.2.2.2.2.2.1, hF11.2.2.2.2.2.2.2.1, hF11.2.2.2.2.2.2.2.2]
      exact IsSsR.keep (fun b _ hl => hb11.block b (by have := HU.out.size; omega)) HS.out.form.2.2.2.2.2.2.2)
    have hwl : s11.wl ≤ 140737488351232 ∧ s11.wl * 16 ≤ 140737488351232 := by
      obtain ⟨h1, h2, A, cap, h3, h4, h5⟩ := HWS.out
      simp only [Value.slice.injEq] at h4
      omega
    clear hs11 hF11 hu811 hu511 hbut9 hbut10 hbut11 hB9 hB10 hB11 hb11 hS8 HX6 HX7' HX8 HB58 HXA HXB HB5 HS5 HF5 HBR5 hpw5 hw15 h56 h57
    go_upto_region 9 with (fail)
    refine wp_region_lit ?_
    refine wpList_move rfl _ rfl ?_
    have hwsz : ws.length * 16 ≤ 140737488351232 ∧ (∀ z ∈ ws, z.size ≤ 140737488351232) := ⟨HWS.out.1, HWS.out.2.1⟩
    have HWSZ := Lib.hid hwsz
    clear hwsz
    go_upto_region 10 with (first
      | (refine wpList_append_ss2 rfl (.tmp 37) (.tmp 39) rfl w11.heap.size B (.slice Option.none 0 0) 0 [] rfl (World.ownsRow_nil _ _ _ _) s11.wA s11.wl s11.wc ws rfl HWS.out (by unfold maxLen; omega) (by omega) (Nat.le_refl _) ?_; intro v12 w12 hown12 hgrow12 hor12; have hss12 : IsSsR w12 (OwnU w11.heap.size w12) v12 ws := IsSsR_of_own (by simpa using hown12) HWSZ.out.1 HWSZ.out.2; have hss12' := hss12; obtain ⟨_, _, A12, cap12, hcap12, rfl, _⟩ := hss12')
      | (refine wpList_store_part rfl 56 (.tmp 41) (.tmp 40) rfl i56 HI56.out p 16 (.slice A12 ws.length cap12) [.slice A12 ws.length cap12] rfl rfl rfl 58 s11.arr ({ s11 with wA := A12, wl := ws.length, wc := cap12 } : SV).arr ((hgrow12.block p hpw11 (by simp [Value.ownBlock])).trans HB11.out) (by rw [hi56]; rfl) (show _ ≤ 17 by simp) (by intro u hu; simp only [List.mem_cons, List.not_mem_nil, or_false] at hu; rcases hu with rfl; rfl) rfl ?_; intro w13 hB13 hbut13))
    obtain ⟨s13, hs13⟩ : ∃ s13 : SV, s13 = { s11 with wA := A12, wl := ws.length, wc := cap12 } := ⟨_, rfl⟩
    rw [← hs13] at hB13
    have hb1112 : Below w11.heap.size w11 w12 := ⟨hgrow12.os, hgrow12.tape, hgrow12.output, hgrow12.size, fun k hk => hgrow12.block k hk (by simp [Value.ownBlock])⟩
    have hu13 : Upd p w11 w13 := (Upd.ofBelow hb1112 p).trans hbut13.toUpd
    have hb13 : Below wr.heap.size wr w13 := hbut13.below (by rw [HP.out]; exact Nat.le_refl _) (bnext HBR11.out hb1112)
    have hst : IsStR w13 (OwnU w1.heap.size w13) s13 (.mk op nm sec ab wh xa xb t e c ws) := by
      have hf := HS.out.form
      have hF := HF11.out
      have e1 : s13.op = s11.op ∧ s13.nm = s11.nm ∧ s13.sec = s11.sec ∧ s13.ab = s11.ab ∧ s13.wh = s11.wh ∧ s13.a = s11.a ∧ s13.b = s11.b ∧ s13.tA = s11.tA ∧ s13.tl = s11.tl ∧ s13.tc = s11.tc ∧ s13.eA = s11.eA ∧ s13.el = s11.el ∧ s13.ec = s11.ec ∧ s13.cA = s11.cA ∧ s13.cl = s11.cl ∧ s13.cc = s11.cc ∧ s13.wA = A12 ∧ s13.wl = ws.length ∧ s13.wc = cap12 := by
        rw [hs13]; exact ⟨rfl, rfl, rfl, rfl, rfl, rfl, rfl, rfl, rfl, rfl, rfl, rfl, rfl, rfl, rfl, rfl, rfl, rfl, rfl⟩
      obtain ⟨f1, f2, f3, f4, f5, f6, f7, f8, f9, f10, f11, f12, f13, f14, f15, f16, f17, f18, f19⟩ := e1
      unfold IsStR
      refine ⟨?_, hf.2.1, ?_, ?_, ?_, ?_, ?_, ?_⟩
      · rw [f1, f2, f3, f4, f5, hF.1.1, hF.1.2.1, hF.1.2.2.1, hF.1.2.2.2.1, hF.1.2.2.2.2]; exact hf.1
      · rw [f6, hF.2.1]; exact exU HXA'.out hu13 hpw1
      · rw [f7, hF.2.2.1]; exact exU HXB'.out hu13 hpw1
      · rw [f8, f9, f10, hF.2.2.2.1.1, hF.2.2.2.1.2.1, hF.2.2.2.1.2.2]; exact lrU HXT.out hu13 hpw1
      · rw [f11, f12, f13, hF.2.2.2.2.1.1, hF.2.2.2.2.1.2.1, hF.2.2.2.2.1.2.2]; exact lrU HXE'.out hu13 hpw1
      · rw [f14, f15, f16, hF.2.2.2.2.2.1.1, hF.2.2.2.2.2.1.2.1, hF.2.2.2.2.2.1.2.2]; exact lrU HXC.out hu13 hpw1
      · rw [f17, f18, f19]; exact IsSsR.mono (fun b o hr => hr.low hw111) (ssU hss12 hbut13.toUpd hpw11)
    have HST := Lib.hid hst
    have HB13 := Lib.hid hB13
    have HBR13 := Lib.hid hb13
    have hw113 : w1.heap.size ≤ w13.heap.size := Nat.le_trans hw111 hu13.size
    clear hs13 hb1112 hu13 hb13 hst hB13 hbut13 hss12 hown12 hgrow12 hor12 hcap12 HF11 HXA' HXB' HXT HXE' HXC HB11 HWS HWSZ HBR11 q16 hwl hpw11 hw111
    refine wp_region_lit ?_
    refine wpList_move rfl _ rfl ?_
    refine wpList_load_blk rfl 58 (.tmp 5) rfl ⟨p, 0, Option.none⟩ rfl (.agg s13.arr) (run_loadVar_blk Try.underlying58 HIN.out HB13.out (by rw [hz1]; rfl)) ?_
    refine wpList_buildS rfl 42 1 _ rfl #[(0, .agg s13.arr)] rfl _ (buildS42 s13 w13) ?_
    have hAl : Below w13.heap.size w13 (w13.alloc (.cells s13.arr 58)) := (Below.refl _ _).alloc (Nat.le_refl _) _
    have hvr : GRowU RdS 58 17 (w13.alloc (.cells s13.arr 58)) w.heap.size (.slice A0 j cap0) (l.take j) xs := (HV.out.below HBR13.out).below hAl
    have hsz := HSZ.out
    have hu1 := HU.out.size
    have hr13 := HBR13.out.size
    refine wpList_append_row _ rfl (.tmp 42) (.tmp 44) 42 rfl w.heap.size 58 i0 (.agg SV.zero.arr) 17 256 Try.underlying42 HIN.out hz0 hz1 hz2 rfl (by decide) (.slice A0 j cap0) j xs rfl (by have := hvr.1; rw [HVL.out] at this; exact this) ⟨w13.heap.size, 0, Option.none⟩ 1 1 s13.arr.toList rfl rfl (row_new _ _ _) (SV.one _) (by unfold maxLen; omega) (by omega) (by simp; omega) ?_
    intro sl' w14 hown14 hgrow14 hor14
    have hob : ∀ g, (Value.slice A0 j cap0).ownBlock = some g → w.heap.size ≤ g ∧ g < wr.heap.size := fun g hg => HV.out.blk hg
    have HV3 : Hid (GRowU RdS 58 17 w14 w.heap.size sl' (l.take j ++ [.mk op nm sec ab wh xa xb t e c ws]) (xs ++ s13.arr.toList)) := Lib.hid (
      GRowU.push (lo2 := w1.heap.size) hvr rfl ⟨s13, rfl, IsStR.mono (fun b o hr => hr.below hAl) (IsStR.keep (fun b o hr => hAl.block b hr.lt) HST.out)⟩ (by omega) (fun g hg => by have := hob g hg; omega) (by rw [HVL.out]; exact hown14) hgrow14 (by simpa using hor14))
    have HU3 : Hid (Below w.heap.size w w14) := Lib.hid (((HU.out.trans (HBR13.out.mono hu1)).alloc (by omega) _).grown hgrow14 (by simp; omega) (fun g hg => by have := (hob g hg).1; omega))
    clear hown14 hgrow14 hor14 hvr hAl hsz hu1 hr13 hob HST HB13 HBR13
    go_wp2_with fail
    go_roundw
    case rel => exact ⟨j + 1, by omega, by go_num, _, by rw [take_snoc_get l j hlt, ← HXE.out]; exact HV3.out, HU3.out⟩
    case measure => simp [intOf]; omega
theorem code105_any : ∀ l : List St, CodeOC l := by
  have h : ∀ x : St, ∀ op nm sec ab wh a b t e c ws, x = .mk op nm sec ab wh a b t e c ws → CodeOC t ∧ CodeOC e ∧ CodeOC c := fun x => by
    induction x using St.ind with
    | h op nm sec ab wh a b t e c ws IHt IHe IHc =>
      intro op' nm' sec' ab' wh' a' b' t' e' c' ws' heq
      obtain ⟨_, _, _, _, _, _, _, rfl, rfl, rfl, _⟩ := St.mk.inj heq
      exact ⟨code105_step _ fun x hx => IHt x hx, code105_step _ fun x hx => IHe x hx, code105_step _ fun x hx => IHc x hx⟩
  exact fun l => code105_step l fun x _ => h x
end Go.Proofs.Ytnknefdpglnbnaa
