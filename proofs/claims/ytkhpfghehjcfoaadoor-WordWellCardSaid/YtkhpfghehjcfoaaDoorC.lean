/- The reader of package word: next, wrong, hex. -/
import Derived.Test.YtkhpfghehjcfoaaDoorSa
namespace Go.Proofs.YtkhpfghehjcfoaaDoor
open Go.RowKit

/-- A reader stands here in a text, so many parts read. -/
def Rdr (w : World) (p : Nat) (s : ByteArray) (i k : Nat) : Prop := BlkN w p 77 #[.string s, .int .i64 i, .int .i64 k]
/-- It is stuck here. -/
abbrev stuckE (i : Nat) : Ending := .panicked [{ v := .iface 73 (.int .i64 i), recovered := false }]
abbrev rest (s : ByteArray) (i : Nat) : L8 := s.data.toList.drop i
theorem rest_cons {s : ByteArray} {i : Nat} (h : i < s.size) : rest s i = s[i] :: rest s (i + 1) := by
  have h' : i < s.data.toList.length := by simpa using h
  have e := List.drop_eq_getElem_cons h'
  rw [show rest s i = s.data.toList.drop i from rfl, e]
  rfl
theorem rest_end {s : ByteArray} {i : Nat} (h : s.size ≤ i) : rest s i = [] := List.drop_eq_nil_of_le (by simpa using h)
theorem belowN {B : Nat} {a w : World} (h : Below B a w) (n : Nat) : Below B a (w.drewN n) := ⟨h.os, h.tape, h.output, h.size, h.block⟩
set_option maxHeartbeats 400000 in
theorem next_any (s : ByteArray) (i k : Nat) (w : World) (p : Nat) (h : Rdr w p s i k) (hi : i ≤ s.size) :
    Calls Tryd.prog 64 #[.pointer (some ⟨p, 0, Option.none⟩)] w fun e w' => Below w.heap.size w w' ∧ ((s.size ≤ i ∧ e = stuckE s.size) ∨ (∃ hh : i < s.size, e = .returned (.int .u8 (s[i].toNat : Nat)))) := by
  have hp := h.lt
  have c0 := h.cell 0 rfl
  have c1 := h.cell 1 rfl
  clear h
  by_cases hh : i < s.size
  · go_enter Tryd.func64, Tryd.ntmps64
    go_wp2_with fail
    go_quiet (fail)
    go_wp2_with fail
    go_quiet (fail)
    go_wp2_with fail
    go_ret
    exact ⟨belowN (belowN (Below.refl _ _) _) _, .inr ⟨hh, rfl⟩⟩
  · go_enter Tryd.func64, Tryd.ntmps64
    go_wp2_with fail
    go_quiet (fail)
    go_wp2_with fail
    exact ⟨rfl, belowN (Below.refl _ _) _, .inl ⟨by omega, rfl⟩⟩
theorem wrong_any (s : ByteArray) (i k : Nat) (w : World) (p : Nat) (h : Rdr w p s i k) : Calls Tryd.prog 41 #[.pointer (some ⟨p, 0, Option.none⟩)] w fun e w' => Below w.heap.size w w' ∧ e = stuckE i := by
  have hp := h.lt
  have c1 := h.cell 1 rfl
  clear h
  go_enter Tryd.func41, Tryd.ntmps41
  go_wp2_with fail
  exact ⟨rfl, Below.refl _ _, rfl⟩
/-- What hex answers: a digit, or that it is stuck. -/
def HexP (s : ByteArray) (i : Nat) (e : Ending) : Prop := (s.size ≤ i ∧ e = stuckE s.size) ∨ ∃ hh : i < s.size, (hexD s[i] = Option.none ∧ e = stuckE i) ∨ ∃ a, hexD s[i] = some a ∧ a < 16 ∧ e = .returned (.int .i64 (a : Nat))
set_option maxHeartbeats 400000 in
theorem hex_any (s : ByteArray) (i k : Nat) (w : World) (p : Nat) (h : Rdr w p s i k) (hi : i ≤ s.size) :
    Calls Tryd.prog 88 #[.pointer (some ⟨p, 0, Option.none⟩)] w fun e w' => Below w.heap.size w w' ∧ HexP s i e := by
  have C64 := Lib.hid (next_any s i k w p h hi)
  have C41 := Lib.hid (fun w' (hb : Below w.heap.size w w') => wrong_any s i k w' p (h.below hb))
  clear h
  by_cases hh : i < s.size
  · obtain ⟨c, hc⟩ : ∃ c, c = s[i] := ⟨_, rfl⟩
    have C : Hid (Calls Tryd.prog 64 #[.pointer (some ⟨p, 0, Option.none⟩)] w fun e w' => e = .returned (.int .u8 (c.toNat : Nat)) ∧ Below w.heap.size w w') := Lib.hid (C64.out.mono fun e w' h => by
      obtain ⟨h1, ⟨h2, _⟩ | ⟨_, rfl⟩⟩ := h
      · omega
      · exact ⟨by rw [hc], h1⟩)
    have HH := Lib.hid hh
    have HC := Lib.hid hc
    clear C64 hc
    have hc0 : c.toNat < 256 := c.toNat_lt
    go_enter Tryd.func88, Tryd.ntmps88
    go_wp2_with (first | (go_at_call 64; refine C.out.mono ?_; rintro e w1 ⟨rfl, hb1⟩; have HB1 := Lib.hid hb1; clear hb1) | (go_at_call 41; refine (C41.out _ HB1.out).mono ?_; rintro e w2 ⟨hb2, rfl⟩))
    · go_ret
      exact ⟨HB1.out, .inr ⟨HH.out, .inr ⟨c.toNat - 48, by rw [← HC.out]; unfold hexD; rw [if_pos (by omega)], by omega, ret_int (by omega)⟩⟩⟩
    · go_ret
      exact ⟨HB1.out, .inr ⟨HH.out, .inr ⟨c.toNat - 87, by rw [← HC.out]; unfold hexD; rw [if_neg (by omega), if_pos (by omega)], by omega, ret_int (by omega)⟩⟩⟩
    all_goals exact ⟨rfl, bnext HB1.out hb2, .inr ⟨HH.out, .inl ⟨by rw [← HC.out]; unfold hexD; rw [if_neg (by omega), if_neg (by omega)], rfl⟩⟩⟩
  · have C : Hid (Calls Tryd.prog 64 #[.pointer (some ⟨p, 0, Option.none⟩)] w fun e w' => e = stuckE s.size ∧ Below w.heap.size w w') := Lib.hid (C64.out.mono fun e w' h => by
      obtain ⟨h1, ⟨_, rfl⟩ | ⟨h2, _⟩⟩ := h
      · exact ⟨rfl, h1⟩
      · omega)
    clear C64
    go_enter Tryd.func88, Tryd.ntmps88
    go_wp2_with (first | (go_at_call 64; refine C.out.mono ?_; rintro e w1 ⟨rfl, hb1⟩))
    exact ⟨rfl, hb1, .inl ⟨by omega, rfl⟩⟩
end Go.Proofs.YtkhpfghehjcfoaaDoor
