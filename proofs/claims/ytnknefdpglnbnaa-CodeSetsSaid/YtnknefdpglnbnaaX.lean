/- slices.ContainsFunc and IndexFunc over names, at makes$1. -/
import Derived.Test.YtnknefdpglnbnaaU
namespace Go.Proofs.Ytnknefdpglnbnaa
open Go.RowKit

set_option maxRecDepth 100000 in
set_option maxHeartbeats 1000000 in
theorem indexF_any {B : Nat} {v : Value} {l : List ByteArray} (w : World) (h : IsSs w B v l) (hB : B ≤ w.heap.size) :
    Calls Try.prog 123 #[v, .func (.func 156) #[] #[]] w fun e w' => (∃ i : Int, e = .returned (.int .i64 i) ∧ decide (0 ≤ i) = !(l.all mayN)) ∧ Below w.heap.size w w' := by
  obtain ⟨hlen, hsz, A, cap, hcap, rfl, h7⟩ := h
  have H7 := Lib.hid h7
  have hl : l.length ≤ 140737488351232 := by omega
  clear h7 hsz
  go_enter Try.func123, Try.ntmps123
  go_wp2_with fail
  go_loopw [8] (fun i wr => ∃ k : Nat, k ≤ l.length ∧ i = .int .i64 k ∧ (l.take k).all mayN = true ∧ Below w.heap.size w wr)
    (fun i _ => l.length - (intOf i).toNat)
  case atStart => exact ⟨0, Nat.zero_le _, rfl, by simp, Below.refl _ _⟩
  case round =>
    obtain ⟨k, hk, rfl, hu, hnx⟩ := hrel
    have HU := Lib.hid hu
    have HN := Lib.hid hnx
    clear hu hnx
    by_cases hlt : k < l.length
    · obtain ⟨b, o, hbB, hA, hx⟩ := H7.out (by rintro rfl; simp at hlt)
      subst hA
      have hcell : wr.cell? ⟨b, o + k, Option.none⟩ = some (.string l[k]) := (HN.out.cell (by show b < _; omega)).trans (hx k hlt)
      obtain ⟨sk, hsk⟩ : ∃ sk, sk = l[k] := ⟨_, rfl⟩
      rw [← hsk] at hcell
      have HK := Lib.hid hsk
      clear hsk hx
      have q := fun w' => makes1_any sk w'
      cases hm : mayN sk
      · have HM := Lib.hid hm
        rw [hm] at q
        clear hm
        go_wp2_with (go_at_call 156; refine (q _).mono ?_; rintro e w1 ⟨rfl, hb1⟩)
        go_ret
        refine ⟨⟨_, rfl, ?_⟩, HN.out.trans (hb1.mono HN.out.size)⟩
        have hf : l.all mayN = false := by
          rw [Bool.eq_false_iff]; intro ha
          have := List.all_eq_true.1 ha l[k] (List.getElem_mem hlt)
          rw [← HK.out, HM.out] at this; cases this
        simp [hf]
      · have HM := Lib.hid hm
        rw [hm] at q
        clear hm
        go_wp2_with (go_at_call 156; refine (q _).mono ?_; rintro e w1 ⟨rfl, hb1⟩)
        go_round
        case rel => exact ⟨k + 1, by omega, by go_num, by rw [List.take_succ_eq_append_getElem hlt, List.all_append, HU.out, ← HK.out]; simp [HM.out], HN.out.trans (hb1.mono HN.out.size)⟩
        case measure => simp [intOf]; omega
    · obtain rfl : k = l.length := by omega
      go_wp2_with fail
      go_ret
      exact ⟨⟨_, rfl, by have := HU.out; rw [List.take_length] at this; simp [this]⟩, HN.out⟩
theorem containsF_any {B : Nat} {v : Value} {l : List ByteArray} (w : World) (h : IsSs w B v l) (hB : B ≤ w.heap.size) :
    Calls Try.prog 87 #[v, .func (.func 156) #[] #[]] w fun e w' => e = .returned (.bool (!(l.all mayN))) ∧ Below w.heap.size w w' := by
  have HH := Lib.hid h
  obtain ⟨hlen, hsz, A, cap, hcap, rfl, h7⟩ := h
  clear h7 hsz
  go_enter Try.func87, Try.ntmps87
  go_wp2_with (go_at_call 123; refine (indexF_any _ HH.out hB).mono ?_; rintro e w1 ⟨⟨i, rfl, hi⟩, hb1⟩; have HI := Lib.hid hi; clear hi)
  go_ret
  exact ⟨by rw [← HI.out]; rfl, hb1⟩
end Go.Proofs.Ytnknefdpglnbnaa
