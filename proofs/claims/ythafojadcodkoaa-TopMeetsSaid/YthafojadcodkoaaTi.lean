/- Sides, there, ask, Find. -/
import Derived.Test.YthafojadcodkoaaTg
namespace Go.Proofs.Ythafojadcodkoaa
open Go.RowKit

/-- The facets that are found. -/
def fc (FL : List ((Int × Nat) × Int)) : Fc := fun o s => (FL.find? (fun f => decide (f.1 = (o, s)))).map (·.2)
theorem look_fc (o : Int) (s : Nat) : ∀ (FL : List ((Int × Nat) × Int)), lookL (FL.map fun f => (f.1, Value.int .i64 f.2)) (o, s) = (fc FL o s).map (Value.int .i64)
  | [] => rfl
  | f :: FL => by
    rw [List.map_cons, lookL_cons]
    unfold fc
    rw [List.find?_cons]
    by_cases h : f.1 = (o, s)
    · rw [if_pos (show f.1 = (o, s) from h)]
      simp [h]
    · rw [if_neg (show ¬ f.1 = (o, s) from h)]
      simp only [decide_eq_false h]
      exact look_fc o s FL
section
variable {w : World} {hi p tm fm : Nat} {ps cs : Value} {mA : Option Addr} {ml mc : Nat} {L : List Ent} {FL : List ((Int × Nat) × Int)} {lt : Int}
set_option maxRecDepth 100000 in
theorem sides_any (h : Wd w hi p tm fm ps cs (.slice mA ml mc) L FL lt) : Calls Try.prog 13 #[.pointer (some ⟨p, 0, Option.none⟩)] w fun e w' => e = .returned (.int .i64 ml) ∧ w = w' := by
  have c5 := h.blk.cell 5 rfl
  have C20 := Lib.hid (none_any h)
  clear h
  go_enter Try.func13, Try.ntmps13
  go_wp2_with (first | (go_at_call 20; refine C20.out.mono ?_; rintro e w' ⟨rfl, rfl⟩))
  go_ret
  exact ⟨rfl, rfl⟩
set_option maxRecDepth 100000 in
theorem there0 (h : Wd w hi p tm fm ps cs (.slice mA ml mc) L FL lt) (hml : 0 < ml) : Calls Try.prog 48 #[.pointer (some ⟨p, 0, Option.none⟩), .slice Option.none 0 0] w fun e w' => e = .returned (.int .i64 0) ∧ w = w' := by
  have C13 := Lib.hid (sides_any h)
  have hm : ((ml : Int) == 0) = false := by rw [beq_eq_false_iff_ne]; omega
  clear h
  go_enter Try.func48, Try.ntmps48
  go_wp2_with (first | (go_at_call 13; refine C13.out.mono ?_; rintro e w' ⟨rfl, rfl⟩))
  go_loopw [6, 16] (fun _ i wr => i = .int .i64 0 ∧ wr = w) (fun _ _ _ => 0)
  case atStart => exact ⟨rfl, rfl⟩
  case round =>
    obtain ⟨rfl, rfl⟩ := hrel
    go_wp2_with fail
    go_ret
    exact ⟨rfl, rfl⟩
set_option maxRecDepth 100000 in
theorem there1 (h : Wd w hi p tm fm ps cs (.slice mA ml mc) L FL lt) (hml : 0 < ml) (g : Nat) (r : Int) (hg : BlkN w g 25 #[.int .i64 r]) (e : Ent) (hE : entE L r = some e) : Calls Try.prog 48 #[.pointer (some ⟨p, 0, Option.none⟩), .slice (some ⟨g, 0, Option.none⟩) 1 1] w fun e w' => e = .returned (.int .i64 0) ∧ w = w' := by
  have C13 := Lib.hid (sides_any h)
  have C6 := is_any h r
  rw [hE] at C6
  have C6 := Lib.hid C6
  have hm : ((ml : Int) == 0) = false := by rw [beq_eq_false_iff_ne]; omega
  have g0 := hg.cell 0 rfl
  clear h hE hg
  go_enter Try.func48, Try.ntmps48
  go_wp2_with (first | (go_at_call 13; refine C13.out.mono ?_; rintro e w' ⟨rfl, rfl⟩))
  go_loopw [6, 16] (fun _ i wr => (i = .int .i64 0 ∨ i = .int .i64 1) ∧ wr = w) (fun _ i _ => 1 - (intOf i).toNat)
  case atStart => exact ⟨.inl rfl, rfl⟩
  case round =>
    obtain ⟨hi2, rfl⟩ := hrel
    rcases hi2 with rfl | rfl
    · go_wp2_with (first | (go_at_call 6; refine C6.out.mono ?_; rintro e w' ⟨rfl, rfl⟩))
      go_roundw
      case rel => exact ⟨.inr rfl, trivial⟩
      case measure => decide
    · go_wp2_with fail
      go_ret
      exact ⟨rfl, rfl⟩
set_option maxRecDepth 100000 in
theorem ask_any (h : Wd w hi p tm fm ps cs (.slice mA ml mc) L FL lt) (hml : 0 < ml) (g g2 : Nat) (r : Int) (s : Nat) (hs : s < 64) (hg : BlkN w g 35 #[.int .u8 s]) (hg2 : BlkN w g2 25 #[.int .i64 r]) (e : Ent) (hE : entE L r = some e) : Calls Try.prog 23 #[.pointer (some ⟨p, 0, Option.none⟩), .slice (some ⟨g, 0, Option.none⟩) 1 1, .slice (some ⟨g2, 0, Option.none⟩) 1 1] w fun e w' => e = .returned (.int .i64 0) ∧ w = w' := by
  have C0 := Lib.hid (there0 h hml)
  have C1 := Lib.hid (there1 h hml g2 r hg2 e hE)
  have C39 := may_any s (by omega) w
  have hmb : mayB s = true := by unfold mayB; exact decide_eq_true hs
  rw [hmb] at C39
  have C39 := Lib.hid C39
  have g0 := hg.cell 0 rfl
  clear h hE hg hg2 hmb
  go_enter Try.func23, Try.ntmps23
  go_wp2_with (first | (go_at_call 48; refine C0.out.mono ?_; rintro e w' ⟨rfl, rfl⟩))
  go_loopw [9, 17] (fun _ i wr => (i = .int .i64 0 ∨ i = .int .i64 1) ∧ wr = w) (fun _ i _ => 1 - (intOf i).toNat)
  case atStart => exact ⟨.inl rfl, rfl⟩
  case round =>
    obtain ⟨hi2, rfl⟩ := hrel
    rcases hi2 with rfl | rfl
    · go_wp2_with (first | (go_at_call 39; refine C39.out.mono ?_; rintro e w' ⟨rfl, rfl⟩))
      go_roundw
      case rel => exact ⟨.inr rfl, trivial⟩
      case measure => decide
    · go_wp2_with (first | (go_at_call 48; refine C1.out.mono ?_; rintro e w' ⟨rfl, rfl⟩))
      go_ret
      exact ⟨rfl, rfl⟩
set_option maxRecDepth 100000 in
theorem find_any (h : Wd w hi p tm fm ps cs (.slice mA ml mc) L FL lt) (t : Int) (s : Nat) : Calls Try.prog 66 #[.pointer (some ⟨p, 0, Option.none⟩), .int .i64 t, .int .u8 s] w fun e w' => e = .returned (.tuple #[match fc FL t s with | some q => .int .i64 q | none => .int .i64 0, .bool (fc FL t s).isSome]) ∧ w = w' := by
  have C20 := Lib.hid (none_any h)
  have c3 := h.blk.cell 3 rfl
  have hl := h.facets.look facets62 (zero25 w) (t, s) true
  rw [look_fc] at hl
  clear h
  cases hE : fc FL t s with
  | none =>
    rw [hE] at hl
    have hl : (Instr.lookup 62 (.map (some fm)) (.agg #[.int .i64 t, .int .u8 s]) true).run Try.prog w = .ok (.tuple #[.int .i64 0, .bool false]) w := hl
    go_enter Try.func66, Try.ntmps66
    go_wp2_with (first | (go_at_call 20; refine C20.out.mono ?_; rintro e w' ⟨rfl, rfl⟩))
    go_ret2
    exact ⟨rfl, rfl⟩
  | some q =>
    rw [hE] at hl
    have hl : (Instr.lookup 62 (.map (some fm)) (.agg #[.int .i64 t, .int .u8 s]) true).run Try.prog w = .ok (.tuple #[.int .i64 q, .bool true]) w := hl
    go_enter Try.func66, Try.ntmps66
    go_wp2_with (first | (go_at_call 20; refine C20.out.mono ?_; rintro e w' ⟨rfl, rfl⟩))
    go_ret2
    exact ⟨rfl, rfl⟩
end
end Go.Proofs.Ythafojadcodkoaa
