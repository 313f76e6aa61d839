/- The document's reader: next, on; low, plain. -/
import Derived.Test.YtjmelamllapmiaaGreatDoorN
import Derived.BigQuiet
import Derived.Deep.QuietTactic
namespace Go.Proofs.YtjmelamllapmiaaGreatDoor
open Go.RowKit

/-- A reader of the document's stands here in a text; st: stuck; so much room. -/
def RRd (w : World) (p : Nat) (s : ByteArray) (i : Nat) (st : Bool) (room : Int) : Prop := BlkN w p 218 #[.string s, .int .i64 i, .bool st, .int .i64 room]
/-- The byte that comes; 0: none does. -/
def nx : L8 → UInt8
  | [] => 0
  | c :: _ => c
def plainB (c : UInt8) : Bool := decide (32 ≤ c.toNat) && decide (c.toNat ≤ 126) && (c != 34) && (c != 92)
theorem RRd.adv {w : World} {p : Nat} {s : ByteArray} {i : Nat} {st : Bool} {room : Int} (h : RRd w p s i st room) : RRd (w.setCell ⟨p, 1, Option.none⟩ (.int .i64 ((i : Int) + 1))) p s (i + 1) st room := by
  have := BlkN.set h 1 (.int .i64 ((i : Int) + 1))
  unfold RRd
  simpa using this
theorem RRd.stop {w : World} {p : Nat} {s : ByteArray} {i : Nat} {st : Bool} {room : Int} (h : RRd w p s i st room) : RRd (w.setCell ⟨p, 2, Option.none⟩ (.bool true)) p s i true room := by
  have := BlkN.set h 2 (.bool true)
  unfold RRd
  simpa using this
theorem plain_any (c : UInt8) (w : World) : Calls Tryz.prog 217 #[.int .u8 (c.toNat : Nat)] w fun e w' => e = .returned (.bool (plainB c)) ∧ w' = w := by
  have h34 : (((c.toNat : Nat) : Int) != 34) = (c != 34) := by
    by_cases h : c = 34
    · subst h; rfl
    · rw [show (((c.toNat : Nat) : Int) != 34) = true from u8_bne (n := 34) (by decide) h]; simp [h]
  have h92 : (((c.toNat : Nat) : Int) != 92) = (c != 92) := by
    by_cases h : c = 92
    · subst h; rfl
    · rw [show (((c.toNat : Nat) : Int) != 92) = true from u8_bne (n := 92) (by decide) h]; simp [h]
  have HE : Hid (plainB c = (decide ((32 : Int) ≤ (c.toNat : Nat)) && decide (((c.toNat : Nat) : Int) ≤ 126) && (((c.toNat : Nat) : Int) != 34) && (((c.toNat : Nat) : Int) != 92))) := Lib.hid (by
    rw [h34, h92]
    unfold plainB
    have e1 : decide ((32 : Int) ≤ (c.toNat : Nat)) = decide (32 ≤ c.toNat) := by rw [Bool.eq_iff_iff]; simp; omega
    have e2 : decide (((c.toNat : Nat) : Int) ≤ 126) = decide (c.toNat ≤ 126) := by rw [Bool.eq_iff_iff]; simp; omega
    rw [e1, e2])
  clear h34 h92
  go_enter Tryz.func217, Tryz.ntmps217
  go_wp2_with fail
  all_goals
    go_ret
    refine ⟨ret_bool ?_, rfl⟩
    rw [HE.out]
    first
      | (simp_all; done)
      | (simp_all; omega)
      | (simp_all; intros; omega)
/-- .. of a reader. -/
def nxS : Bool → L8 → UInt8
  | true, _ => 0
  | false, l => nx l
/-- What on does. -/
def RonP (s : ByteArray) (i : Nat) (st ok : Bool) (room : Int) (p : Nat) (e : Ending) (w' : World) : Prop :=
  (st = false ∧ i < s.size ∧ ok = true ∧ e = .returned (.bool true) ∧ RRd w' p s (i + 1) false room) ∨ (¬ (st = false ∧ i < s.size ∧ ok = true) ∧ e = .returned (.bool false) ∧ RRd w' p s i true room)
theorem rnext_any (s : ByteArray) (i : Nat) (st : Bool) (room : Int) (w : World) (p : Nat) (h : RRd w p s i st room) :
    Calls Tryz.prog 219 #[.pointer (some ⟨p, 0, Option.none⟩)] w fun e w' => e = .returned (.int .u8 ((nxS st (rest s i)).toNat : Nat)) ∧ Below w.heap.size w w' := by
  have hp := h.lt
  have c0 := h.cell 0 rfl
  have c1 := h.cell 1 rfl
  have c2 := h.cell 2 rfl
  clear h
  cases st
  · by_cases hi : i < s.size
    · have hb : decide ((s.size : Int) ≤ i) = false := decide_eq_false (by omega)
      have HN : Hid (nxS false (rest s i) = s[i]) := Lib.hid (by rw [rest_cons hi]; rfl)
      go_enter Tryz.func219, Tryz.ntmps219
      go_wp2_with fail
      go_quiet (fail)
      go_wp2_with fail
      go_quiet (fail)
      go_wp2_with fail
      go_ret
      exact ⟨by rw [HN.out]; rfl, belowN (belowN (Below.refl _ _) _) _⟩
    · have hb : decide ((s.size : Int) ≤ i) = true := decide_eq_true (by omega)
      have HN : Hid (nxS false (rest s i) = 0) := Lib.hid (by rw [rest_end (by omega)]; rfl)
      go_enter Tryz.func219, Tryz.ntmps219
      go_wp2_with fail
      go_quiet (fail)
      go_wp2_with fail
      go_ret
      exact ⟨by rw [HN.out]; rfl, belowN (Below.refl _ _) _⟩
  · go_enter Tryz.func219, Tryz.ntmps219
    go_wp2_with fail
    go_quiet (fail)
    go_wp2_with fail
    go_ret
    exact ⟨rfl, belowN (Below.refl _ _) _⟩
set_option maxRecDepth 100000 in
set_option maxHeartbeats 2000000 in
/-- May the reader go on? -/
theorem ron_any (s : ByteArray) (i : Nat) (st ok : Bool) (room : Int) (w : World) (p : Nat) (h : RRd w p s i st room) (hi : i ≤ s.size) (hs : s.size ≤ 140737488351232) :
    Calls Tryz.prog 221 #[.pointer (some ⟨p, 0, Option.none⟩), .bool ok] w fun e w' => Upd p w w' ∧ RonP s i st ok room p e w' := by
  have HR := Lib.hid h
  have hp := h.lt
  have c0 := h.cell 0 rfl
  have c1 := h.cell 1 rfl
  have c2 := h.cell 2 rfl
  have f1 := h.free 1
  have f2 := h.free 2
  clear h
  by_cases hgo : st = false ∧ i < s.size ∧ ok = true
  · obtain ⟨rfl, hlt, rfl⟩ := hgo
    have hb : decide ((s.size : Int) ≤ i) = false := decide_eq_false (by omega)
    go_enter Tryz.func221, Tryz.ntmps221
    go_wp2_with fail
    go_quiet (fail)
    go_wp2_with fail
    go_ret
    exact ⟨(Upd.ofBelow (belowN (Below.refl _ _) _) p).set 1 _, .inl ⟨rfl, hlt, rfl, rfl, RRd.adv (HR.out.below (belowN (Below.refl _ _) _))⟩⟩
  · have HGO := Lib.hid hgo
    by_cases hst : st = true
    · subst hst
      clear hgo
      go_enter Tryz.func221, Tryz.ntmps221
      go_wp2_with fail
      go_quiet (fail)
      go_wp2_with fail
      go_ret
      exact ⟨(Upd.ofBelow (belowN (Below.refl _ _) _) p).set 2 _, .inr ⟨by first | (simp; done) | exact HGO.out, rfl, RRd.stop (HR.out.below (belowN (Below.refl _ _) _))⟩⟩
    · obtain rfl : st = false := by simpa using hst
      by_cases hlt : i < s.size
      · obtain rfl : ok = false := by simpa using fun h => hgo ⟨rfl, hlt, h⟩
        have hb : decide ((s.size : Int) ≤ i) = false := decide_eq_false (by omega)
        clear hgo
        go_enter Tryz.func221, Tryz.ntmps221
        go_wp2_with fail
        go_quiet (fail)
        go_wp2_with fail
        go_ret
        exact ⟨(Upd.ofBelow (belowN (Below.refl _ _) _) p).set 2 _, .inr ⟨by first | (simp; done) | exact HGO.out, rfl, RRd.stop (HR.out.below (belowN (Below.refl _ _) _))⟩⟩
      · have hb : decide ((s.size : Int) ≤ i) = true := decide_eq_true (by omega)
        clear hgo
        go_enter Tryz.func221, Tryz.ntmps221
        go_wp2_with fail
        go_quiet (fail)
        go_wp2_with fail
        go_ret
        exact ⟨(Upd.ofBelow (belowN (Below.refl _ _) _) p).set 2 _, .inr ⟨by have := HGO.out; simpa using this, rfl, RRd.stop (HR.out.below (belowN (Below.refl _ _) _))⟩⟩
def lowN (c : UInt8) : Nat := (hexD c).getD 16
def hexesL : L8 := [48, 49, 50, 51, 52, 53, 54, 55, 56, 57, 97, 98, 99, 100, 101, 102]
theorem low_at : ∀ (c : Fin 256) (j : Fin 16), hexesL[j.val]? = some (UInt8.ofNat c.val) → lowN (UInt8.ofNat c.val) = j.val := by decide +kernel
theorem low_none : ∀ (c : Fin 256), hexesL.contains (UInt8.ofNat c.val) = false → lowN (UInt8.ofNat c.val) = 16 := by decide +kernel
set_option maxRecDepth 100000 in
set_option maxHeartbeats 1000000 in
theorem low_any (c : UInt8) (w : World) : Calls Tryz.prog 222 #[.int .u8 (c.toNat : Nat)] w fun e w' => e = .returned (.int .i64 (lowN c : Nat)) ∧ w' = w := by
  have hcc : UInt8.ofNat (⟨c.toNat, c.toNat_lt⟩ : Fin 256).val = c := by simp
  have HAT : Hid (∀ (j : Nat) (hj : j < 16), hexesL[j]? = some c → lowN c = j) := Lib.hid (fun j hj h => by have := low_at ⟨c.toNat, c.toNat_lt⟩ ⟨j, hj⟩ (by rw [hcc]; exact h); rw [hcc] at this; exact this)
  have HNO : Hid (hexesL.contains c = false → lowN c = 16) := Lib.hid (fun h => by have := low_none ⟨c.toNat, c.toNat_lt⟩ (by rw [hcc]; exact h); rw [hcc] at this; exact this)
  clear hcc
  go_enter Tryz.func222, Tryz.ntmps222
  go_wp2_with fail
  go_loopw [3] (fun ix wr => ∃ j : Nat, ix = .int .i64 j ∧ j ≤ 16 ∧ (hexesL.take j).contains c = false ∧ wr = w) (fun ix _ => 16 - (intOf ix).toNat)
  case atStart => exact ⟨0, rfl, by omega, rfl, rfl⟩
  case round =>
    obtain ⟨j, rfl, hj, hn, rfl⟩ := hrel
    have HN := Lib.hid hn
    clear hn
    by_cases hlt : j < 16
    · have hlt' : (j : Int) < 16 := by omega
      have hl : j < hexesL.length := hlt
      have he : hexesL.take (j + 1) = hexesL.take j ++ [hexesL[j]] := by rw [List.take_add_one, List.getElem?_eq_getElem hl]; rfl
      have HE := Lib.hid he
      clear he
      go_upto_region 5 with fail
      · have hc : ((((⟨#[48, 49, 50, 51, 52, 53, 54, 55, 56, 57, 97, 98, 99, 100, 101, 102]⟩ : ByteArray)[j]'hlt).toNat : Int) == (c.toNat : Int)) = true := by assumption
        have hc2 : ((hexesL[j].toNat : Int) == (c.toNat : Int)) = true := hc
        have hc' : hexesL[j] = c := UInt8.toNat_inj.1 (by have := eq_of_beq hc2; omega)
        go_wp2_with fail
        go_ret
        refine ⟨ret_int ?_, rfl⟩
        rw [HAT.out j hlt (by rw [List.getElem?_eq_getElem hl, hc'])]
      · rename_i hc
        have hc' : hexesL[j] ≠ c := fun e => by
          have : ((hexesL[j].toNat : Int) == (c.toNat : Int)) = false := hc
          rw [e] at this; simp at this
        refine ⟨⟨j + 1, by go_num, by omega, ?_, trivial⟩, by simp only [intOf]; omega⟩
        rw [HE.out]
        have h1 := HN.out
        simp only [List.contains_eq_mem, decide_eq_false_iff_not, List.mem_append, List.mem_singleton] at h1 ⊢
        rintro (h | h)
        · exact h1 h
        · exact hc' h.symm
    · have hlt' : ¬ (j : Int) < 16 := by omega
      go_wp2_with fail
      go_ret
      refine ⟨ret_int ?_, rfl⟩
      have h1 := HN.out
      rw [List.take_of_length_le (by show 16 ≤ j; omega)] at h1
      rw [HNO.out h1]; rfl
end Go.Proofs.YtjmelamllapmiaaGreatDoor
