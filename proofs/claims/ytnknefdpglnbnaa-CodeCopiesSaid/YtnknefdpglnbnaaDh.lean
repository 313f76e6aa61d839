/- Same of any two codes, walked. -/
import Derived.Test.YtnknefdpglnbnaaDg
namespace Go.Proofs.Ytnknefdpglnbnaa
open Go.RowKit

set_option maxHeartbeats 1000000 in
theorem Same55_any (l m : List St) (w : World) (B C : Nat) (A : Option Addr) (len cap : Nat) (A' : Option Addr) (len' cap' : Nat)
    (hl : LR (fun b _ => b < B) 256 A len cap l (fun b o => IsSts w B b o l)) (hm : LR (fun b _ => b < C) 256 A' len' cap' m (fun b o => IsSts w C b o m)) (hB : B ≤ w.heap.size) (hC : C ≤ w.heap.size) :
    Calls Try.prog 55 #[.slice A len cap, .slice A' len' cap'] w fun e w' => e = .returned (.bool (((chkL l).2 : Int) == 0 && (((chkL m).2 : Int) == 0 && sameSts l m))) ∧ Below w.heap.size w w' := by
  have C1 := May_any l A len cap w B hB hl
  have C2 := fun w' (hb : Below w.heap.size w w') => May_any m A' len' cap' w' C (Nat.le_trans hC hb.size) (hm.imp fun b o hr hp => ⟨hr, IsSts.keep (fun b hb' => hb.block b (by omega)) hr hp⟩)
  have C3 := fun w' (hb : Below w.heap.size w w') => same96_any l m w' B C A len cap A' len' cap' (hl.imp fun b o hr hp => ⟨hr, IsSts.keep (fun b hb' => hb.block b (by omega)) hr hp⟩) (hm.imp fun b o hr hp => ⟨hr, IsSts.keep (fun b hb' => hb.block b (by omega)) hr hp⟩) (Nat.le_trans hB hb.size) (Nat.le_trans hC hb.size)
  obtain ⟨p, hp⟩ : ∃ p, p = (((chkL l).2 : Int) == 0) := ⟨_, rfl⟩
  obtain ⟨q, hq⟩ : ∃ q, q = (((chkL m).2 : Int) == 0) := ⟨_, rfl⟩
  obtain ⟨r, hr⟩ : ∃ r, r = sameSts l m := ⟨_, rfl⟩
  rw [← hp] at C1 ⊢
  rw [← hq] at C2 ⊢
  rw [← hr] at C3 ⊢
  have H1 := Lib.hid C1
  have H2 := Lib.hid C2
  have H3 := Lib.hid C3
  clear hl hm C1 C2 C3 hp hq hr
  cases p
  · go_enter Try.func55, Try.ntmps55
    go_wp2_with (go_at_call 30; (with_reducible refine H1.out.mono ?_); rintro e w1 ⟨rfl, hb1⟩)
    go_ret
    exact ⟨rfl, hb1⟩
  cases q
  · go_enter Try.func55, Try.ntmps55
    go_wp2_with (first | (go_at_call 30; (with_reducible refine H1.out.mono ?_); rintro e w1 ⟨rfl, hb1⟩) | (go_at_call 30; (with_reducible refine (H2.out _ hb1).mono ?_); rintro e w2 ⟨rfl, hb2⟩))
    go_ret
    exact ⟨rfl, bnext hb1 hb2⟩
  cases r
  · go_enter Try.func55, Try.ntmps55
    go_wp2_with (first | (go_at_call 30; (with_reducible refine H1.out.mono ?_); rintro e w1 ⟨rfl, hb1⟩) | (go_at_call 30; (with_reducible refine (H2.out _ hb1).mono ?_); rintro e w2 ⟨rfl, hb2⟩) | (go_at_call 96; (with_reducible refine (H3.out _ (bnext hb1 hb2)).mono ?_); rintro e w3 ⟨rfl, hb3⟩))
    go_ret
    exact ⟨rfl, bnext (bnext hb1 hb2) hb3⟩
  · go_enter Try.func55, Try.ntmps55
    go_wp2_with (first | (go_at_call 30; (with_reducible refine H1.out.mono ?_); rintro e w1 ⟨rfl, hb1⟩) | (go_at_call 30; (with_reducible refine (H2.out _ hb1).mono ?_); rintro e w2 ⟨rfl, hb2⟩) | (go_at_call 96; (with_reducible refine (H3.out _ (bnext hb1 hb2)).mono ?_); rintro e w3 ⟨rfl, hb3⟩))
    go_ret
    exact ⟨rfl, bnext (bnext hb1 hb2) hb3⟩
end Go.Proofs.Ytnknefdpglnbnaa
