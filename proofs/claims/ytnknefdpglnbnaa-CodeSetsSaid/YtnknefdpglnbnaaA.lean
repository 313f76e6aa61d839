/- The first contracts of package code: MayName. -/
import Derived.Test.YtnknefdpglnbnaaD
import Derived.WalkKit
import Derived.Lib.Hide
import Derived.WalkSpells
import Derived.WalkLawsBesides
import Derived.Laws.IdiomStrings
import Derived.Laws.Strings
namespace Go.Proofs.Ytnknefdpglnbnaa
open Go.RowKit

def lowC (b : Nat) : Bool := decide (97 ≤ b) && decide (b ≤ 122)
def digC (b : Nat) : Bool := decide (48 ≤ b) && decide (b ≤ 57)
def lowDig (b : UInt8) : Bool := lowC b.toNat || digC b.toNat
def headOk (l : List UInt8) : Bool := match l with | [] => false | b :: _ => lowC b.toNat
def mayN (s : ByteArray) : Bool := decide (s.size ≤ 32) && headOk s.data.toList && s.data.toList.all lowDig
/-- What []byte(s) lays. -/
theorem bytes_new (w : World) (s : ByteArray) : ∃ cap W, (convert 9 77 (.string s)).run Try.prog w = .ok (.slice (some ⟨w.heap.size, 0, Option.none⟩) s.size cap) W ∧ Below w.heap.size w W ∧
    ∀ (j : Nat) (h : j < s.data.size), W.cell? ⟨w.heap.size, j, Option.none⟩ = some (.int .u8 ((s.data[j].toNat : Nat) : Int)) := by
  refine ⟨_, _, run_bytes_of_string w 9 77 5 s Try.underlying9 Try.underlying77 Try.underlying5, (Below.refl _ w).drew.alloc (by simp) _, fun j h => ?_⟩
  exact (World.cell?_alloc_mark w.drew _ _ _ _).trans (bytesRow_at s _ j h)
theorem all_take_succ (l : List UInt8) (k : Nat) (h : k < l.length) : (l.take (k + 1)).all lowDig = ((l.take k).all lowDig && lowDig l[k]) := by
  rw [List.take_succ_eq_append_getElem h, List.all_append]; simp
theorem all_take_false (l : List UInt8) (k : Nat) (h : k < l.length) (hf : lowDig l[k] = false) : l.all lowDig = false := by
  rw [List.all_eq_false]; exact ⟨l[k], List.getElem_mem h, by rw [hf]; exact Bool.false_ne_true⟩
theorem mayN_long (s : ByteArray) (h : 32 < s.size) : mayN s = false := by
  have : decide (s.size ≤ 32) = false := decide_eq_false (by omega)
  simp [mayN, this]
theorem mayN_head (s : ByteArray) (h : headOk s.data.toList = false) : mayN s = false := by simp [mayN, h]
theorem mayN_all (s : ByteArray) (h : s.data.toList.all lowDig = false) : mayN s = false := by unfold mayN; rw [h, Bool.and_false]
theorem headOk_at (s : ByteArray) (h : 0 < s.data.size) : headOk s.data.toList = lowC s.data[0].toNat := by
  obtain ⟨⟨l⟩⟩ := s
  cases l with
  | nil => simp at h
  | cons b t => rfl
set_option maxRecDepth 100000 in
set_option maxHeartbeats 400000 in
theorem mayName_any (s : ByteArray) (w : World) :
    Calls Try.prog 38 #[.string s] w fun e w' => e = .returned (.bool (mayN s)) ∧ Below w.heap.size w w' := by
  obtain ⟨cap, W, hconv, hB, hcells⟩ := bytes_new w s
  cases he : s.toList.isEmpty
  · have hpos : 0 < s.size := by
      rw [ByteArray.toList_eq] at he
      obtain ⟨⟨l⟩⟩ := s
      cases l with
      | nil => cases he
      | cons b t => show 0 < (b :: t).length; simp
    have HH := Lib.hid (headOk_at s hpos)
    by_cases hl : 32 < s.size
    · have HM := Lib.hid (mayN_long s hl)
      go_enter Try.func38, Try.ntmps38
      go_wp2
      go_ret
      exact ⟨by rw [HM.out]; rfl, Below.refl _ _⟩
    · obtain ⟨c, hc⟩ : ∃ c, c = s[0].toNat := ⟨_, rfl⟩
      have HC := Lib.hid hc
      by_cases h1 : c < 97
      · have HM : Hid (mayN s = false) := Lib.hid (mayN_head s (by rw [HH.out]; show lowC s[0].toNat = false; rw [← HC.out]; simp [lowC]; omega))
        rw [hc] at h1
        go_enter Try.func38, Try.ntmps38
        go_wp2
        go_ret
        exact ⟨by rw [HM.out]; rfl, Below.refl _ _⟩
      · by_cases h2 : 122 < c
        · have HM : Hid (mayN s = false) := Lib.hid (mayN_head s (by rw [HH.out]; show lowC s[0].toNat = false; rw [← HC.out]; simp [lowC]; omega))
          rw [hc] at h1 h2
          go_enter Try.func38, Try.ntmps38
          go_wp2
          go_ret
          exact ⟨by rw [HM.out]; rfl, Below.refl _ _⟩
        · have HM : Hid (headOk s.data.toList = true) := Lib.hid (by rw [HH.out]; show lowC s[0].toNat = true; rw [← HC.out]; simp [lowC]; omega)
          rw [hc] at h1 h2
          go_enter Try.func38, Try.ntmps38
          go_wp2
          clear h1 h2 hconv
          go_loop [25] (fun i => ∃ k : Nat, k ≤ s.size ∧ i = .int .i64 k ∧ (s.data.toList.take k).all lowDig = true) (fun i => s.size - (intOf i).toNat)
          case atStart => exact ⟨0, by omega, rfl, rfl⟩
          case round =>
            obtain ⟨k, hk, rfl, hall⟩ := hrel
            have HA := Lib.hid hall
            clear hall
            by_cases hlt : k < s.size
            · have hcell := hcells k hlt
              have HS := Lib.hid (all_take_succ s.data.toList k (by simpa using hlt))
              have HF := Lib.hid (all_take_false s.data.toList k (by simpa using hlt))
              have HCs := Lib.hid hcells
              clear hcells
              obtain ⟨b, hb⟩ : ∃ b, b = s.data[k] := ⟨_, rfl⟩
              have HB := Lib.hid hb
              rw [← hb] at hcell
              have hb' : (b.toNat : Int) < 256 := by have := b.toNat_lt; omega
              have hb0 : (0 : Int) ≤ b.toNat := by omega
              clear hb
              rcases (show (b.toNat : Int) < 48 ∨ (57 < (b.toNat : Int) ∧ (b.toNat : Int) < 97) ∨ 122 < (b.toNat : Int) ∨ (48 ≤ (b.toNat : Int) ∧ (b.toNat : Int) ≤ 57) ∨ (97 ≤ (b.toNat : Int) ∧ (b.toNat : Int) ≤ 122) from by omega) with h | ⟨h, h'⟩ | h | ⟨h, h'⟩ | ⟨h, h'⟩
              iterate 3
                · go_wp2
                  go_ret
                  exact ⟨by rw [mayN_all s (HF.out (by show lowDig s.data[k] = false; rw [← HB.out]; simp [lowDig, lowC, digC]; omega))]; rfl, hB⟩
              iterate 2
                · go_wp2
                  go_round
                  case rel => exact ⟨k + 1, by omega, by go_num, by rw [HS.out, HA.out, Bool.true_and]; show lowDig s.data[k] = true; rw [← HB.out]; simp [lowDig, lowC, digC]; omega⟩
                  case measure => simp [intOf]; omega
            · obtain rfl : k = s.size := by omega
              have HT : Hid (mayN s = true) := Lib.hid (by
                have h := HA.out
                rw [List.take_of_length_le (by simp)] at h
                simp only [mayN, HM.out, h, Bool.and_true, decide_eq_true_eq]; omega)
              go_wp2
              go_ret
              exact ⟨by rw [HT.out]; rfl, hB⟩
  · have HM : Hid (mayN s = false) := Lib.hid (mayN_head s (by
      rw [ByteArray.toList_eq] at he
      rw [List.isEmpty_iff.1 he]; rfl))
    go_enter Try.func38, Try.ntmps38
    go_wp2
    go_ret
    exact ⟨by rw [HM.out]; rfl, Below.refl _ _⟩
end Go.Proofs.Ytnknefdpglnbnaa
