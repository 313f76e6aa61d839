/- A row of references; Way, Base. -/
import Derived.Test.YthafojadcodkoaaTf
import Derived.Deep.Cut
namespace Go.Proofs.Ythafojadcodkoaa
open Go.RowKit

theorem info25 : (Try.prog.info? 25).map (fun i => (i.zero, i.size, i.bytes)) = some (some (.int .i64 0), 1, 8) := by kernel_rfl
/-- A row of the call's own that holds references. -/
def IRow (w : World) (lo : Nat) (v : Value) (xs : List Int) : Prop := w.ownsRow lo 25 1 v xs.length (xs.map (Value.int .i64))
theorem IRow.nil (w : World) (lo : Nat) : IRow w lo (.slice Option.none 0 0) [] := ⟨rfl, .inl ⟨rfl, rfl⟩⟩
theorem IRow.below {w w' : World} {lo : Nat} {v : Value} {xs : List Int} (h : IRow w lo v xs) (hb : Below w.heap.size w w') : IRow w' lo v xs := own_below h hb
theorem IRow.blk {w : World} {lo : Nat} {v : Value} {xs : List Int} (h : IRow w lo v xs) {g : Nat} (hg : v.ownBlock = some g) : lo ≤ g ∧ g < w.heap.size := World.ownsRow.lt h g hg
theorem IRow.slice {w : World} {lo : Nat} {v : Value} {xs : List Int} (h : IRow w lo v xs) : ∃ A cap, v = .slice A xs.length cap := by
  rcases h.2 with ⟨rfl, h0⟩ | ⟨g, cap, cur, rfl, _⟩
  · exact ⟨_, _, by rw [h0]⟩
  · exact ⟨_, _, rfl⟩
theorem IRow.get {w : World} {lo : Nat} {v : Value} {xs : List Int} (h : IRow w lo v xs) (j : Nat) (hj : j < xs.length) : ∃ g cap, v = .slice (some ⟨g, 0, Option.none⟩) xs.length cap ∧ w.cell? ⟨g, j, Option.none⟩ = some (.int .i64 xs[j]) := by
  rcases h.2 with ⟨rfl, h0⟩ | ⟨g, cap, cur, rfl, hb, hg, hc, h7, h8, h9⟩
  · omega
  · refine ⟨g, cap, rfl, ?_⟩
    have hB : BlkN w g 25 cur := hg
    refine hB.cell j ?_
    have h1 : (xs.map (Value.int .i64))[j]? = some (.int .i64 xs[j]) := by rw [List.getElem?_map, List.getElem?_eq_getElem hj]; rfl
    rw [← h9, List.getElem?_take_of_lt (by simpa using hj)] at h1
    simpa using h1
theorem wpList_append_ref (w : World) {ops : Array Oper} {rest : List Oper} {o : Oper} {a : Act} {Q : Exit → Act → World → Prop} (hgd : o.guard = Option.none) (s x : Operand)
    (ho : o.op = .call { callee := .builtin .append, args := #[s, x], argTypes := #[69, 69] })
    (lo : Nat) (v : Value) (xs : List Int) (hs : a.eval s = v) (hown : IRow w lo v xs) (g : Nat) (r : Int) (hx : a.eval x = .slice (some ⟨g, 0, Option.none⟩) 1 1)
    (hg : BlkN w g 25 #[.int .i64 r]) (hlen : xs.length ≤ 2000000) (hbase : lo ≤ w.heap.size)
    (h : ∀ v' w', IRow w' lo v' (xs ++ [r]) → w.grownBy w' v.ownBlock → wpList Try.prog ops Q rest (a.put o.dst v') w') : wpList Try.prog ops Q (o :: rest) a w := by
  obtain ⟨i0, hi, hz0, hz1, hz2⟩ := info_parts info25
  refine wpList_append_row w hgd s x 69 ho lo 25 i0 (.int .i64 0) 1 8 Try.underlying69 hi hz0 hz1 hz2 rfl (by decide) v xs.length (xs.map (Value.int .i64)) hs hown ⟨g, 0, Option.none⟩ 1 1 [.int .i64 r] hx rfl (fun j u hu => ?_) (fun u hu => ?_) (by unfold maxLen; omega) (by omega) hbase ?_
  · obtain ⟨rfl, rfl⟩ : j = 0 ∧ u = .int .i64 r := by
      cases j with
      | zero => exact ⟨rfl, by simpa using hu.symm⟩
      | succ j => simp at hu
    exact hg.cell 0 rfl
  · rw [List.mem_singleton.1 hu]; rfl
  · intro v' w' h1 h2 h3
    refine h v' w' ?_ h2
    unfold IRow
    rw [List.map_append, List.length_append]
    exact h1
section
variable {w : World} {hi p tm fm : Nat} {ps cs ms : Value} {L : List Ent} {FL : List ((Int × Nat) × Int)} {lt : Int}
attribute [local irreducible] wpList
set_option maxRecDepth 100000 in
set_option maxHeartbeats 2000000 in
theorem way_any (h : Wd w hi p tm fm ps cs ms L FL lt) (r : Int) (N : Nat) (hN : endsF (gr L) N r = true) (hN6 : N ≤ 1000000) : Calls Try.prog 25 #[.pointer (some ⟨p, 0, Option.none⟩), .int .i64 r] w fun e w' => Below w.heap.size w w' ∧ ∃ g cap len, e = .returned (.slice (some ⟨g, 0, Option.none⟩) ((len : Nat) + 1) cap) ∧ len ≤ 2000000 ∧ w'.cell? ⟨g, len, Option.none⟩ = some (.int .i64 (baseF (gr L) N r)) := by
  have HN := Lib.hid hN
  have HW := Lib.hid h
  obtain ⟨base, hbase⟩ : ∃ b, b = baseF (gr L) N r := ⟨_, rfl⟩
  rw [← hbase]
  have HBA := Lib.hid hbase.symm
  clear h hN hbase
  go_enter Try.func25, Try.ntmps25
  go_wp2_with fail
  go_loopw [1, 5, 6] (fun rv lv _ wr => ∃ (q : Int) (n : Nat) (xs : List Int), rv = .int .i64 q ∧ IRow wr w.heap.size lv xs ∧ xs.length + n ≤ N ∧ endsF (gr L) n q = true ∧ baseF (gr L) n q = base ∧ Below w.heap.size w wr) (fun rv _ _ _ => stepsF (gr L) N (intOf rv))
  case atStart => exact ⟨r, N, [], rfl, IRow.nil _ _, by simp, HN.out, HBA.out, Below.refl _ _⟩
  case round =>
    obtain ⟨q, n, xs, rfl, hv, hn, he, hba, hb⟩ := hrel
    obtain ⟨A, cap, rfl⟩ := hv.slice
    have HWr := Lib.hid (HW.out.below hb)
    have HB := Lib.hid hb
    have HE := Lib.hid he
    have HBB := Lib.hid hba
    have HV := Lib.hid hv
    have hlo := hb.size
    clear hb hba hv
    cases n with
    | zero => cases he
    | succ n =>
    rw [endsF] at he
    cases hg : gr L q with
    | none => rw [hg] at he; cases he
    | some t =>
    rw [hg] at he
    simp only at he
    have HG := Lib.hid hg
    obtain ⟨e, hE, rfl⟩ := gr_some hg
    simp only at he
    have C6 := is_any HWr.out q
    rw [hE] at C6
    have C6 := Lib.hid C6
    have hkb := (HWr.out.each e (entE_mem hE).1)
    have HEE := Lib.hid hE
    obtain ⟨er, b, s⟩ := e
    clear hg hE hkb
    have hxl : xs.length ≤ 2000000 := by omega
    go_upto_region 4 with (first
      | (go_at_call 6; refine C6.out.mono ?_; rintro e w' ⟨rfl, rfl⟩)
      | (refine wpList_append_ref _ rfl (.tmp 10) (.tmp 12) rfl w.heap.size (.slice A xs.length cap) xs rfl (HV.out.below ((Below.refl _ _).alloc (Nat.le_refl _) _)) _ q rfl (BlkN.at_ rfl 25 _) hxl (by simp; omega) ?_
         intro v2 w2 hv2 hg2
         have HV2 := Lib.hid hv2
         have HG2 := Lib.hid hg2
         clear hv2 hg2))
    have HB2 : Hid (Below w.heap.size w w2) := Lib.hid ((HB.out.alloc hlo _).grown HG2.out (by simp; omega) (fun g hg => (HV.out.blk hg).1))
    have HW2 := Lib.hid (HW.out.below HB2.out)
    have hl := HW2.out.look q
    rw [HEE.out] at hl
    obtain ⟨-, hblk, x, hwh⟩ := HW2.out.each _ (entE_mem HEE.out).1
    have k0 := hblk.cell 0 s.at0
    have k10 := hblk.cell 10 s.at10
    have c2 := HW2.out.blk.cell 2 rfl
    have C44 := Lib.hid (wraps_any s.k w2)
    try simp only at he HG
    clear hwh hblk C6 HG2
    cases hw : wrapK s.k with
    | true =>
      rw [hw] at C44 he
      rw [if_pos rfl] at he
      go_wp2_with (first | (go_at_call 44; refine C44.out.mono ?_; rintro e w' ⟨rfl, rfl⟩))
      go_roundw
      case rel =>
        refine ⟨s.of_, n, xs ++ [q], rfl, HV2.out, by simp; omega, he, ?_, HB2.out⟩
        rw [← HBB.out, baseF, HG.out]
        simp only [if_pos hw]
      case measure =>
        simp only [intOf]
        rw [steps_le HE.out (by omega), steps_le he (by omega), stepsF, HG.out]
        simp only [if_pos hw]
        omega
    | false =>
      rw [hw] at C44
      have hbq : base = q := by
        rw [← HBB.out, baseF, HG.out]
        simp only [hw, Bool.false_eq_true, if_false]
      obtain ⟨g, cp, hv2, hcell⟩ := HV2.out.get xs.length (by simp)
      have hl2 : (xs ++ [q]).length = xs.length + 1 := by simp
      have hc2 : (xs ++ [q])[xs.length]'(by simp) = q := by simp
      rw [hl2] at hv2
      rw [hc2] at hcell
      subst hv2
      go_wp2_with (first | (go_at_call 44; refine C44.out.mono ?_; rintro e w' ⟨rfl, rfl⟩))
      go_ret
      exact ⟨HB2.out, g, cp, xs.length, by push_cast; rfl, hxl, by rw [hbq]; exact hcell⟩
set_option maxRecDepth 100000 in
set_option maxHeartbeats 2000000 in
theorem base_any (h : Wd w hi p tm fm ps cs ms L FL lt) (r : Int) (N : Nat) (hN : endsF (gr L) N r = true) (hN6 : N ≤ 1000000) : Calls Try.prog 10 #[.pointer (some ⟨p, 0, Option.none⟩), .int .i64 r] w fun e w' => Below w.heap.size w w' ∧ e = .returned (.int .i64 (baseF (gr L) N r)) := by
  have C25 := Lib.hid (way_any h r N hN hN6)
  obtain ⟨base, hbase⟩ : ∃ b, b = baseF (gr L) N r := ⟨_, rfl⟩
  rw [← hbase] at C25 ⊢
  clear h hN hbase
  go_enter Try.func10, Try.ntmps10
  go_wp2_with (first | (go_at_call 25; refine C25.out.mono ?_; rintro e w' ⟨hb, g, cap, len, rfl, hlen, hcell⟩; have hl0 : ((((len : Nat) + 1 : Nat) : Int) == 0) = false := by rw [beq_eq_false_iff_ne]; omega))
  go_ret
  exact ⟨hb, rfl⟩
end
end Go.Proofs.Ythafojadcodkoaa
