/- CodeChecks: the law's walk. -/
import Derived.Test.YtnknefdpglnbnaaCu
import Derived.Test.YtnknefdpglnbnaaCq
import Derived.Test.YtnknefdpglnbnaaCi
import Derived.Test.YtnknefdpglnbnaaZj
namespace Go.Proofs.Ytnknefdpglnbnaa
open Go.RowKit

set_option maxRecDepth 100000 in
set_option maxHeartbeats 4000000 in
theorem checks_walk (l : List St) (A : Option Addr) (len cap : Nat) (w : World) (h : LR (fun b _ => b < w.heap.size) 256 A len cap l (fun b o => IsSts w w.heap.size b o l)) :
    Calls Try.prog 5 #[.slice A len cap] w fun e w' => e = .returned (.bool true) ∧ Below w.heap.size w w' := by
  have hlen := h.1
  subst hlen
  have HL := Lib.hid h
  have C26 := Lib.hid (fits26_any l A l.length cap w w.heap.size (Nat.le_refl _) h)
  have C27 := Lib.hid (fun w' (hb : Below w.heap.size w w') => own27_any l A l.length cap w' w.heap.size hb.size (h.imp fun b o hr hp => ⟨hr, IsSts.keep (fun b hb' => hb.block b hb') hr hp⟩))
  clear h
  go_enter Try.func5, Try.ntmps5
  go_upto_region 4 with (first
    | (go_at_call 26; refine C26.out.mono ?_; rintro e w1 ⟨hi1, hb1⟩; obtain ⟨b1, rfl⟩ := hi1.is; clear hi1; cases b1)
    | (go_at_call 27; refine (C27.out _ hb1).mono ?_; rintro e w2 ⟨A3, cap3, rfl, hx2, hb2⟩))
  · obtain ⟨W3, rfl⟩ : ∃ W3 : World, W3 = w1 := ⟨_, rfl⟩
    have HD : Hid (LR (fun b _ => b < W3.heap.size) 256 A l.length cap l (fun b o => IsSts W3 W3.heap.size b o l)) := Lib.hid (by
      exact HL.out.imp fun b o hr hp => ⟨Nat.lt_of_lt_of_le hr hb1.size, IsStsR.mono (fun b o hr => Nat.lt_of_lt_of_le hr hb1.size) (IsSts.keep (fun b hb' => hb1.block b hb') hr hp)⟩)
    have HBW : Hid (Below w.heap.size w W3) := Lib.hid hb1
    clear hb1
    have kd : ∀ w', Below W3.heap.size W3 w' → LR (fun b _ => b < W3.heap.size) 256 A l.length cap l (fun b o => IsSts w' W3.heap.size b o l) := fun w' hb => HD.out.imp fun b o hr hp => ⟨hr, IsSts.keep (fun b hb' => hb.block b hb') hr hp⟩
    have kc : ∀ w', Below W3.heap.size W3 w' → LR (fun b _ => b < w.heap.size) 256 A l.length cap l (fun b o => IsSts w' w.heap.size b o l) := fun w' hb => HL.out.imp fun b o hr hp => ⟨hr, IsSts.keep (fun b hb' => (bnext HBW.out hb).block b hb') hr hp⟩
    have sz := fun (w' : World) (hb : Below W3.heap.size W3 w') => (show w.heap.size ≤ w'.heap.size ∧ W3.heap.size ≤ w'.heap.size from ⟨(bnext HBW.out hb).size, hb.size⟩)
    have C28 := Lib.hid (fun w' hb => Check_any l A l.length cap w' W3.heap.size (sz w' hb).2 (kd w' hb))
    have C29 := Lib.hid (fun w' hb => Check29_any l A l.length cap w' w.heap.size (sz w' hb).1 (kc w' hb))
    have C30 := Lib.hid (fun w' hb => May_any l A l.length cap w' W3.heap.size (sz w' hb).2 (kd w' hb))
    have C31 := Lib.hid (fun w' hb => May31_any l A l.length cap w' w.heap.size (sz w' hb).1 (kc w' hb))
    have C32 := Lib.hid (fun w' hb => Size_any l A l.length cap w' W3.heap.size (sz w' hb).2 (kd w' hb))
    have C33 := Lib.hid (fun w' hb => Size33_any l A l.length cap w' w.heap.size (sz w' hb).1 (kc w' hb))
    have C26b := Lib.hid (fun w' hb => fits26_any l A l.length cap w' w.heap.size (sz w' hb).1 (kc w' hb))
    have C34 := Lib.hid (fun w' hb => SameCode34_any l l w' w.heap.size W3.heap.size A l.length cap A l.length cap (kc w' hb) (kd w' hb) (sz w' hb).1 (sz w' hb).2)
    rw [sameSts_refl] at C34
    clear kd kc sz HL HD C26 C27
    obtain ⟨va, hva⟩ : ∃ va, va = (chkL l).1 := ⟨_, rfl⟩
    obtain ⟨ve, hve⟩ : ∃ ve, ve = (chkL l).2 := ⟨_, rfl⟩
    obtain ⟨vs, hvs⟩ : ∃ vs, vs = sizeL l := ⟨_, rfl⟩
    rw [← hva, ← hve] at C28 C29
    rw [← hve] at C30 C31
    rw [← hvs] at C32 C33
    clear hva hve hvs
    go_upto_region 8 with (first
      | (go_at_call 28; refine (C28.out _ (Below.refl _ _)).mono ?_; rintro e w4 ⟨rfl, hb4⟩; have HB4 : Hid (Below W3.heap.size W3 w4) := Lib.hid hb4; clear hb4)
      | (go_at_call 29; refine (C29.out _ HB4.out).mono ?_; rintro e w5 ⟨rfl, hb5⟩; have HB5 := Lib.hid (bnext HB4.out hb5); clear hb5)
      | (go_at_call 30; refine (C30.out _ HB5.out).mono ?_; rintro e w6 ⟨rfl, hb6⟩; have HB6 := Lib.hid (bnext HB5.out hb6); clear hb6)
      | (go_at_call 31; refine (C31.out _ HB6.out).mono ?_; rintro e w7 ⟨rfl, hb7⟩; have HB7 := Lib.hid (bnext HB6.out hb7); clear hb7)
      | (go_at_call 32; refine (C32.out _ HB7.out).mono ?_; rintro e w8 ⟨rfl, hb8⟩; have HB8 := Lib.hid (bnext HB7.out hb8); clear hb8)
      | (go_at_call 33; refine (C33.out _ HB8.out).mono ?_; rintro e w9 ⟨rfl, hb9⟩; have HB9 := Lib.hid (bnext HB8.out hb9); clear hb9))
    go_wp2_with (first
      | (go_at_call 26; refine (C26b.out _ HB9.out).mono ?_; rintro e w10 ⟨hi10, hb10⟩; obtain ⟨b10, rfl⟩ := hi10.is; have HB10 := Lib.hid (bnext HB9.out hb10); clear hb10 hi10; cases b10)
      | (go_at_call 34; refine (C34.out _ HB10.out).mono ?_; rintro e w11 ⟨rfl, hb11⟩; have HB11 := Lib.hid (bnext HB10.out hb11); clear hb11)
      | (go_at_call 17; refine (lives_any _).mono ?_; rintro e w12 ⟨rfl, hb12⟩))
    all_goals (go_ret; first | exact ⟨rfl, bnext HBW.out (bnext HB11.out hb12)⟩ | exact ⟨rfl, bnext HBW.out (bnext HB10.out hb12)⟩)
  · obtain ⟨W3, rfl⟩ : ∃ W3 : World, W3 = w2 := ⟨_, rfl⟩
    have HD : Hid (LR (fun b _ => b < W3.heap.size) 256 A3 l.length cap3 l (fun b o => IsSts W3 W3.heap.size b o l)) := Lib.hid (hx2.imp fun b o hr hp => ⟨hr.lt, IsStsR.mono (fun b o hr => hr.lt) hp⟩)
    have HBW : Hid (Below w.heap.size w W3) := Lib.hid (bnext hb1 hb2)
    clear hb1 hb2 hx2
    have kd : ∀ w', Below W3.heap.size W3 w' → LR (fun b _ => b < W3.heap.size) 256 A3 l.length cap3 l (fun b o => IsSts w' W3.heap.size b o l) := fun w' hb => HD.out.imp fun b o hr hp => ⟨hr, IsSts.keep (fun b hb' => hb.block b hb') hr hp⟩
    have kc : ∀ w', Below W3.heap.size W3 w' → LR (fun b _ => b < w.heap.size) 256 A l.length cap l (fun b o => IsSts w' w.heap.size b o l) := fun w' hb => HL.out.imp fun b o hr hp => ⟨hr, IsSts.keep (fun b hb' => (bnext HBW.out hb).block b hb') hr hp⟩
    have sz := fun (w' : World) (hb : Below W3.heap.size W3 w') => (show w.heap.size ≤ w'.heap.size ∧ W3.heap.size ≤ w'.heap.size from ⟨(bnext HBW.out hb).size, hb.size⟩)
    have C28 := Lib.hid (fun w' hb => Check_any l A3 l.length cap3 w' W3.heap.size (sz w' hb).2 (kd w' hb))
    have C29 := Lib.hid (fun w' hb => Check29_any l A l.length cap w' w.heap.size (sz w' hb).1 (kc w' hb))
    have C30 := Lib.hid (fun w' hb => May_any l A3 l.length cap3 w' W3.heap.size (sz w' hb).2 (kd w' hb))
    have C31 := Lib.hid (fun w' hb => May31_any l A l.length cap w' w.heap.size (sz w' hb).1 (kc w' hb))
    have C32 := Lib.hid (fun w' hb => Size_any l A3 l.length cap3 w' W3.heap.size (sz w' hb).2 (kd w' hb))
    have C33 := Lib.hid (fun w' hb => Size33_any l A l.length cap w' w.heap.size (sz w' hb).1 (kc w' hb))
    have C26b := Lib.hid (fun w' hb => fits26_any l A l.length cap w' w.heap.size (sz w' hb).1 (kc w' hb))
    have C34 := Lib.hid (fun w' hb => SameCode34_any l l w' w.heap.size W3.heap.size A l.length cap A3 l.length cap3 (kc w' hb) (kd w' hb) (sz w' hb).1 (sz w' hb).2)
    rw [sameSts_refl] at C34
    clear kd kc sz HL HD C26 C27
    obtain ⟨va, hva⟩ : ∃ va, va = (chkL l).1 := ⟨_, rfl⟩
    obtain ⟨ve, hve⟩ : ∃ ve, ve = (chkL l).2 := ⟨_, rfl⟩
    obtain ⟨vs, hvs⟩ : ∃ vs, vs = sizeL l := ⟨_, rfl⟩
    rw [← hva, ← hve] at C28 C29
    rw [← hve] at C30 C31
    rw [← hvs] at C32 C33
    clear hva hve hvs
    go_upto_region 8 with (first
      | (go_at_call 28; refine (C28.out _ (Below.refl _ _)).mono ?_; rintro e w4 ⟨rfl, hb4⟩; have HB4 : Hid (Below W3.heap.size W3 w4) := Lib.hid hb4; clear hb4)
      | (go_at_call 29; refine (C29.out _ HB4.out).mono ?_; rintro e w5 ⟨rfl, hb5⟩; have HB5 := Lib.hid (bnext HB4.out hb5); clear hb5)
      | (go_at_call 30; refine (C30.out _ HB5.out).mono ?_; rintro e w6 ⟨rfl, hb6⟩; have HB6 := Lib.hid (bnext HB5.out hb6); clear hb6)
      | (go_at_call 31; refine (C31.out _ HB6.out).mono ?_; rintro e w7 ⟨rfl, hb7⟩; have HB7 := Lib.hid (bnext HB6.out hb7); clear hb7)
      | (go_at_call 32; refine (C32.out _ HB7.out).mono ?_; rintro e w8 ⟨rfl, hb8⟩; have HB8 := Lib.hid (bnext HB7.out hb8); clear hb8)
      | (go_at_call 33; refine (C33.out _ HB8.out).mono ?_; rintro e w9 ⟨rfl, hb9⟩; have HB9 := Lib.hid (bnext HB8.out hb9); clear hb9))
    go_wp2_with (first
      | (go_at_call 26; refine (C26b.out _ HB9.out).mono ?_; rintro e w10 ⟨hi10, hb10⟩; obtain ⟨b10, rfl⟩ := hi10.is; have HB10 := Lib.hid (bnext HB9.out hb10); clear hb10 hi10; cases b10)
      | (go_at_call 34; refine (C34.out _ HB10.out).mono ?_; rintro e w11 ⟨rfl, hb11⟩; have HB11 := Lib.hid (bnext HB10.out hb11); clear hb11)
      | (go_at_call 17; refine (lives_any _).mono ?_; rintro e w12 ⟨rfl, hb12⟩))
    all_goals (go_ret; first | exact ⟨rfl, bnext HBW.out (bnext HB11.out hb12)⟩ | exact ⟨rfl, bnext HBW.out (bnext HB10.out hb12)⟩)
end Go.Proofs.Ytnknefdpglnbnaa
