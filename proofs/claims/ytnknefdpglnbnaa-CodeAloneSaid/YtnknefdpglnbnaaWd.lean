/- Each: what it hands back tells a loop the code's statements, each a copy of its own, in the order of the walk. -/
import Derived.Test.YtnknefdpglnbnaaWc
import Derived.Test.YtnknefdpglnbnaaZk
namespace Go.Proofs.Ytnknefdpglnbnaa
open Go Go.RowKit Go.Told

/-- All that Each tells of a code. -/
def toldL (l : List St) : List (Int × St) := if (chkL l).2 = 0 then flats l 0 else []
theorem toldL_len (l : List St) : (toldL l).length ≤ 512 := by
  unfold toldL
  split
  · rename_i h
    have := chk_zero _ 0 (by omega) h
    simpa using this
  · simp
/-- The whole of it has come. -/
def AllT (l : List St) (xs : List TX) : Prop := xs.map keyT = toldL l
/-- A part of it, and no more was asked for. -/
def PreT (l : List St) (xs : List TX) : Prop := ∃ m, m < (toldL l).length ∧ xs.map keyT = (toldL l).take (m + 1)
attribute [local irreducible] wpList
def IT (J : List TX → World → Prop) (n0 p : Nat) (w3 : World) (told : List (Int × St)) (w : World) : Prop :=
  ∃ xs, told = xs.map keyT ∧ J xs w ∧ w3.heap.size ≤ w.heap.size ∧ ∀ b, n0 ≤ b → b < w3.heap.size → b ≠ p → w.heap[b]? = w3.heap[b]?
def ST (Jx : List TX → World → Prop) (told : List (Int × St)) (w : World) : Prop := ∃ xs, told = xs.map keyT ∧ Jx xs w
theorem teller92 {n0 m lp p : Nat} {J Jx : List TX → World → Prop} {w3 : World} {R : Nat → Nat → Prop} (hJ : ∀ s A B, J s A → Below n0 A B → J s B)
    (hY : ∀ pre x W1, J pre W1 → n0 ≤ loT x → loT x ≤ W1.heap.size → DtT pre x W1 → YieldAt Fence.wide m Try.prog lp (encT x) W1 fun e W' => (e = .returned (.bool true) ∧ J (pre ++ [x]) W' ∧ KpX n0 (loT x) W1 W') ∨ (e = .returned (.bool false) ∧ Jx (pre ++ [x]) W'))
    (hp : n0 < p) (hp3 : p < w3.heap.size) (hq : Blk w3 n0 115 (.func (.yield lp) #[] #[])) (hR : ∀ b o, R b o → n0 ≤ b ∧ b < w3.heap.size ∧ b ≠ p) :
    TellerS 92 #[.pointer (some ⟨n0, 0, Option.none⟩)] (fun b => b < n0) (IT J n0 p w3) (ST Jx) R p w3 where
  cf := cf92
  own := fun b hb => by have := hq.lt; omega
  ownp := by omega
  size := fun told w h => h.choose_spec.2.2.1
  keep := by
    rintro told w ⟨xs, _, _, _, h⟩ b o hb
    obtain ⟨h1, h2, h3⟩ := hR b o hb
    exact h b h1 h2 h3
  mono := by
    rintro told w w' ⟨xs, h1, h2, h3, h4⟩ hu
    refine ⟨xs, h1, hJ _ _ _ h2 ⟨hu.os, hu.tape, hu.output, hu.size, fun b hb => hu.block b (by omega) (by omega)⟩, Nat.le_trans h3 hu.size, fun b hb1 hb2 hb3 => (hu.block b (by omega) hb3).trans (h4 b hb1 hb2 hb3)⟩
  call := by
    rintro told d x s w ⟨xs, h1, h2, h3, h4⟩ hs hl hd0 hd1
    have hq' : Blk w n0 115 (.func (.yield lp) #[] #[]) := (h4 n0 (Nat.le_refl _) hq.lt (by omega)).trans hq
    refine (tell92 hJ hY (told.length : Int) d x s xs w h2 hq' (by omega) w3.heap.size h3 (IsStR.mono (fun b o hb => (hR b o hb).2.1) hs) ⟨(by rw [h1] at hl; simpa using hl), hd0, hd1⟩).mono ?_
    rintro e w' ⟨ok, rfl, k1, k2⟩
    refine ⟨ok, rfl, fun hok => ?_, fun hok => ?_⟩
    · obtain ⟨t, ht, hj, hk⟩ := k1 hok
      refine ⟨⟨xs ++ [t], by rw [h1, List.map_append, List.map_singleton, ht], hj, Nat.le_trans h3 hk.size, fun b hb1 hb2 hb3 => (hk.block b hb1 (by omega)).trans (h4 b hb1 hb2 hb3)⟩, hk.block p (by omega) (by omega), ⟨hk.os, hk.tape, hk.output, hk.size, fun b hb ho _ => hk.block b (by omega) hb⟩⟩
    · obtain ⟨t, ht, hj⟩ := k2 hok
      exact ⟨xs ++ [t], by rw [h1, List.map_append, List.map_singleton, ht], hj⟩
set_option maxRecDepth 100000 in
set_option maxHeartbeats 1000000 in
theorem each91 (m : Nat) (l : List St) (A : Option Addr) (len cap b1 : Nat) (w0 : World) (B : Nat) (hB : B ≤ w0.heap.size) (hl : LR (fun b _ => b < B) 256 A len cap l (fun b o => IsSts w0 B b o l)) (hb1 : Blk w0 b1 42 (.slice A len cap)) :
    SeqTold m Try.prog 91 #[.pointer (some ⟨b1, 0, Option.none⟩)] encT loT DtT (AllT l) (PreT l) w0 := by
  intro lp J Jx W hBW hJ hJx hY hj0
  refine callsIn_wide.2 ?_
  have HL := Lib.hid hl
  have HY := Lib.hid hY
  have HJ := Lib.hid hJ
  have HJ0 := Lib.hid hj0
  obtain ⟨n0, hn0⟩ : ∃ n0, n0 = W.heap.size := ⟨_, rfl⟩
  have HW0 := Lib.hid hBW
  have hs0 := hBW.size
  have HB1 : Hid (Blk W b1 42 (.slice A len cap)) := Lib.hid (hb1.below hBW)
  clear hl hY hJ hj0 hJx hBW hb1
  have C54 := Lib.hid fun (w' : World) (hb : Below W.heap.size W w') => Own54_any l A len cap w' B (by have := hb.size; omega) (HL.out.imp fun b o hr hp => ⟨hr, IsSts.keep (fun b hb' => (hb.block b (by omega)).trans (HW0.out.block b (by omega))) hr hp⟩)
  show Calls Try.prog 91 #[.func (.yield lp) #[] #[], .pointer (some ⟨b1, 0, Option.none⟩)] W _
  have hbl := HB1.out.lt
  have hbc := (HB1.out.alloc (.cells #[.func (.yield lp) #[] #[]] 115)).cell
  have hA0 : Below W.heap.size W (W.alloc (.cells #[.func (.yield lp) #[] #[]] 115)) := (Below.refl _ W).alloc (Nat.le_refl _) _
  by_cases hz : (chkL l).2 = 0
  · have C := Lib.hid ((C54.out _ hA0).mono (fun e w' h => show Below (W.alloc (.cells #[.func (.yield lp) #[] #[]] 115)).heap.size (W.alloc (.cells #[.func (.yield lp) #[] #[]] 115)) w' ∧ ∃ A' cap', e = .returned (.tuple #[.slice A' l.length cap', .int .i64 0]) ∧ LR (OwnU (W.heap.size + 1) w') 256 A' l.length cap' l (fun b o => IsStsR w' (OwnU (W.heap.size + 1) w') b o l) from by
      obtain ⟨h1, (⟨h2, _⟩ | ⟨_, A', cap', h3, h4⟩)⟩ := h
      · exact absurd hz h2
      · exact ⟨h1, A', cap', h3, by simpa using h4⟩))
    have hT : toldL l = flats l 0 := by unfold toldL; rw [if_pos hz]
    clear C54
    go_enter Try.func91, Try.ntmps91
    go_upto_region 4 with (first | (go_at_call 54; refine C.out.mono ?_; rintro e w2 ⟨hb2, A', cap', rfl, hx⟩; have HX := Lib.hid hx; clear hx))
    have hz2 := hb2.size
    simp only [World.size_alloc] at hz2
    obtain ⟨w3, hw3⟩ : ∃ w3, w3 = w2.alloc (.cells #[.int .i64 0] 3) := ⟨_, rfl⟩
    have hs3 : w3.heap.size = w2.heap.size + 1 := by rw [hw3]; simp
    have hB23 : Below w2.heap.size w2 w3 := by rw [hw3]; exact (Below.refl _ _).alloc (Nat.le_refl _) _
    have hN : Blk w3 w2.heap.size 3 (.int .i64 0) := by rw [hw3]; exact Blk.at_ rfl _ _
    have hQ : Blk w3 W.heap.size 115 (.func (.yield lp) #[] #[]) := ((Blk.at_ rfl _ _ : Blk (W.alloc (.cells #[.func (.yield lp) #[] #[]] 115)) W.heap.size 115 (.func (.yield lp) #[] #[])).below hb2).below hB23
    have hWB : Below W.heap.size W w3 := (hA0.trans (hb2.mono (by simp))).trans (hB23.mono (by omega))
    rw [← hw3]
    have T := teller92 (R := OwnU (W.heap.size + 1) w2) (w3 := w3) (p := w2.heap.size) HJ.out HY.out (by omega) (by omega) hQ (fun b o h => ⟨by have := h.1; omega, by have := h.lt; omega, by have := h.lt; omega⟩)
    have C74 := Lib.hid (walkS_any 92 _ _ _ _ _ w2.heap.size w3 T l w3 A' l.length cap' 0 []
      (HX.out.imp fun b o hr hp => ⟨hr, IsStsR.keep (fun b o h => hB23.block b h.lt) (hB23.block b hr.lt) hp⟩)
      ⟨[], rfl, HJ.out _ _ _ HJ0.out hWB, Nat.le_refl _, fun _ _ _ _ => rfl⟩ hN (Int.le_refl _) (by simp) (by simp))
    clear T HX hb2 hN hQ hw3 hB23
    go_wp2_with (go_at_call 74; refine C74.out.mono ?_; rintro e w4 ⟨ok, rfl, h1, h2⟩)
    all_goals
      refine bodyPost_end (results_none rfl _ _ _) rfl ⟨⟨_, rfl⟩, ?_⟩
      cases ok with
      | true =>
        obtain ⟨⟨xs, k1, k2, _, _⟩, _⟩ := h1 rfl
        exact .inl ⟨xs, by unfold AllT; rw [← k1, hT, List.nil_append], k2⟩
      | false =>
        obtain ⟨j, hj, (⟨xs, k1, k2⟩ | ⟨k1, _⟩)⟩ := h2 rfl
        · exact .inr ⟨xs, ⟨j, by rw [hT]; exact hj, by rw [← k1, hT, List.nil_append]⟩, k2⟩
        · have := toldL_len l
          rw [hT] at this
          simp at k1
          omega
  · obtain ⟨n, hn⟩ : ∃ n, n = (chkL l).2 := ⟨_, rfl⟩
    have C := Lib.hid ((C54.out _ hA0).mono (fun e w' h => show Below (W.alloc (.cells #[.func (.yield lp) #[] #[]] 115)).heap.size (W.alloc (.cells #[.func (.yield lp) #[] #[]] 115)) w' ∧ e = .returned (.tuple #[.slice Option.none 0 0, .int .i64 (n : Nat)]) from by
      obtain ⟨h1, (⟨_, h2⟩ | ⟨h2, _⟩)⟩ := h
      · exact ⟨h1, hn ▸ h2⟩
      · exact absurd h2 hz))
    have hT : toldL l = [] := by unfold toldL; rw [if_neg hz]
    rw [← hn] at hz
    have hne : ((n : Int) != 0) = true := by simp; omega
    clear C54 hn
    go_enter Try.func91, Try.ntmps91
    go_wp2_with (first | (go_at_call 54; refine C.out.mono ?_; rintro e w2 ⟨hb2, rfl⟩))
    refine bodyPost_ret (results_none rfl _ _ _) rfl ?_
    exact ⟨⟨_, rfl⟩, .inl ⟨[], by simp [AllT, hT], HJ.out _ _ _ HJ0.out (hA0.trans (hb2.mono (by simp)))⟩⟩
end Go.Proofs.Ytnknefdpglnbnaa
