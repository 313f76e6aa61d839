/- CodeCopies: the law's walk. -/
import Derived.Test.YtnknefdpglnbnaaDj
import Derived.Test.YtnknefdpglnbnaaDh
import Derived.Test.YtnknefdpglnbnaaDe
import Derived.Test.YtnknefdpglnbnaaCq
import Derived.Test.YtnknefdpglnbnaaCi
import Derived.Test.YtnknefdpglnbnaaZj
namespace Go.Proofs.Ytnknefdpglnbnaa
open Go.RowKit

theorem lr_all {lo len cap : Nat} {A : Option Addr} {l : List St} {w : World} (h : LR (OwnU lo w) 256 A len cap l (fun b o => IsStsR w (OwnU lo w) b o l)) : LR (fun b _ => b < w.heap.size) 256 A len cap l (fun b o => IsSts w w.heap.size b o l) :=
  h.imp fun _b _o hr hp => ⟨hr.lt, IsStsR.mono (fun _b _o hr => hr.lt) hp⟩
theorem lr_keep {lo len cap : Nat} {A : Option Addr} {l : List St} {w w' : World} (h : LR (OwnU lo w) 256 A len cap l (fun b o => IsStsR w (OwnU lo w) b o l)) (hk : ∀ b, lo ≤ b → b < w.heap.size → w'.heap[b]? = w.heap[b]?) (hs : w.heap.size ≤ w'.heap.size) : LR (fun b _ => b < w'.heap.size) 256 A len cap l (fun b o => IsSts w' w'.heap.size b o l) :=
  h.imp fun b _o hr hp => ⟨Nat.lt_of_lt_of_le hr.lt hs, IsStsR.mono (fun _b _o hr => Nat.lt_of_lt_of_le hr.lt hs) (IsStsR.keep (fun b _o hr => hk b hr.1 hr.lt) (hk b hr.1 hr.lt) hp)⟩
set_option maxRecDepth 100000 in
set_option maxHeartbeats 8000000 in
theorem copies_walk (l m : List St) (A : Option Addr) (len cap : Nat) (A' : Option Addr) (len' cap' : Nat) (w : World) (h : LR (fun b _ => b < w.heap.size) 256 A len cap l (fun b o => IsSts w w.heap.size b o l)) (h' : LR (fun b _ => b < w.heap.size) 256 A' len' cap' m (fun b o => IsSts w w.heap.size b o m)) :
    Calls Try.prog 13 #[.slice A len cap, .slice A' len' cap'] w fun e w' => e = .returned (.bool true) ∧ Below w.heap.size w w' := by
  have hlen := h.1
  subst hlen
  have hlen' := h'.1
  subst hlen'
  have HL := Lib.hid h
  have C54a := Lib.hid (Own54_any l A l.length cap w w.heap.size (Nat.le_refl _) h)
  have kc : ∀ w', Below w.heap.size w w' → LR (fun b _ => b < w.heap.size) 256 A l.length cap l (fun b o => IsSts w' w.heap.size b o l) := fun w' hb => h.imp fun b o hr hp => ⟨hr, IsSts.keep (fun b hb' => hb.block b hb') hr hp⟩
  have km : ∀ w', Below w.heap.size w w' → LR (fun b _ => b < w.heap.size) 256 A' m.length cap' m (fun b o => IsSts w' w.heap.size b o m) := fun w' hb => h'.imp fun b o hr hp => ⟨hr, IsSts.keep (fun b hb' => hb.block b hb') hr hp⟩
  have C27 := Lib.hid (fun w' (hb : Below w.heap.size w w') => own27_any l A l.length cap w' w.heap.size hb.size (kc w' hb))
  have C29 := Lib.hid (fun w' hb => Check29_any l A l.length cap w' w.heap.size (Below.size hb) (kc w' hb))
  have C31 := Lib.hid (fun w' hb => May31_any l A l.length cap w' w.heap.size (Below.size hb) (kc w' hb))
  have M31 := Lib.hid (fun w' hb => May31_any m A' m.length cap' w' w.heap.size (Below.size hb) (km w' hb))
  have C55 := Lib.hid (fun w' hb => Same55_any l m w' w.heap.size w.heap.size A l.length cap A' m.length cap' (kc w' hb) (km w' hb) (Below.size hb) (Below.size hb))
  have D55 := Lib.hid (fun w' hb => Same55_any l l w' w.heap.size w.heap.size A l.length cap A l.length cap (kc w' hb) (kc w' hb) (Below.size hb) (Below.size hb))
  have C34 := Lib.hid (fun w' hb => SameCode34_any l m w' w.heap.size w.heap.size A l.length cap A' m.length cap' (kc w' hb) (km w' hb) (Below.size hb) (Below.size hb))
  rw [sameSts_refl] at D55
  clear h h' kc km
  obtain ⟨va, hva⟩ : ∃ va, va = (chkL l).1 := ⟨_, rfl⟩
  obtain ⟨ve, hve⟩ : ∃ ve, ve = (chkL l).2 := ⟨_, rfl⟩
  obtain ⟨vm, hvm⟩ : ∃ vm, vm = (chkL m).2 := ⟨_, rfl⟩
  obtain ⟨r, hr⟩ : ∃ r, r = sameSts l m := ⟨_, rfl⟩
  rw [← hva, ← hve] at C29
  rw [← hve] at C31 C54a C55 D55
  rw [← hvm] at M31 C55
  rw [← hr] at C55 C34
  have HVE := Lib.hid hve.symm
  clear hva hve hvm hr
  by_cases h0 : ve = 0
  rotate_left
  · have hz : ((ve : Int) == 0) = false := by simpa using h0
    have hz' : ((ve : Int) != 0) = true := by rw [bne, hz]; rfl
    rw [hz] at C31 C55 D55
    go_enter Try.func13, Try.ntmps13
    go_wp2_with (first
      | (go_at_call 54; (with_reducible refine C54a.out.mono ?_); rintro e w1 ⟨hb1, ⟨_, rfl⟩ | ⟨hf, _⟩⟩; rotate_left; (exact absurd hf h0); have HW1 := Lib.hid hb1; clear hb1)
      | (go_at_call 29; (with_reducible refine (C29.out _ HW1.out).mono ?_); rintro e w2 ⟨rfl, hb2⟩; have HW2 := Lib.hid (bnext HW1.out hb2); clear hb2)
      | (go_at_call 31; (fail_if_success (have := HW3)); (with_reducible refine (C31.out _ HW2.out).mono ?_); rintro e w3 ⟨rfl, hb3⟩; have HW3 := Lib.hid (bnext HW2.out hb3); clear hb3)
      | (go_at_call 55; (with_reducible refine (C55.out _ HW3.out).mono ?_); rintro e w4 ⟨rfl, hb4⟩; have HW4 := Lib.hid (bnext HW3.out hb4); clear hb4)
      | (go_at_call 55; (with_reducible refine (D55.out _ HW4.out).mono ?_); rintro e w5 ⟨rfl, hb5⟩; have HW5 := Lib.hid (bnext HW4.out hb5); clear hb5)
      | (go_at_call 31; (with_reducible refine (C31.out _ HW5.out).mono ?_); rintro e w6 ⟨rfl, hb6⟩; have HW6 := Lib.hid (bnext HW5.out hb6); clear hb6)
      | (go_at_call 17; refine (lives_any _).mono ?_; rintro e w9 ⟨rfl, hb9⟩))
    go_ret
    exact ⟨rfl, bnext HW6.out hb9⟩
  subst h0
  have hz : (((0 : Nat) : Int) == 0) = true := rfl
  rw [hz] at C31 C55 D55
  by_cases hm : vm = 0
  rotate_left
  · have hmz : ((vm : Int) == 0) = false := by simpa using hm
    rw [hmz] at M31 C55
    go_enter Try.func13, Try.ntmps13
    go_upto_region 8 with (first | (go_at_call 54; (with_reducible refine C54a.out.mono ?_); rintro e w1 ⟨hb1, ⟨hf, _⟩ | ⟨_, A1, cap1, rfl, hx1⟩⟩; (exact absurd rfl hf); have HW1 := Lib.hid hb1; have HX1 := Lib.hid hx1; have HX1' : Hid (Below w1.heap.size w1 w1) := Lib.hid (Below.refl _ _); clear hb1 hx1) | (go_at_call 29; (with_reducible refine (C29.out _ HW1.out).mono ?_); rintro e w2 ⟨rfl, hb2⟩; have HW2 := Lib.hid (bnext HW1.out hb2); have HX2' := Lib.hid (bnext HX1'.out hb2); clear hb2) | (go_at_call 31; (fail_if_success (have := HW3)); (with_reducible refine (C31.out _ HW2.out).mono ?_); rintro e w3 ⟨rfl, hb3⟩; have HW3 := Lib.hid (bnext HW2.out hb3); have HX3' := Lib.hid (bnext HX2'.out hb3); clear hb3) | (go_at_call 31; (fail_if_success (have := HW4)); (with_reducible refine (M31.out _ HW3.out).mono ?_); rintro e w4 ⟨rfl, hb4⟩; have HW4 := Lib.hid (bnext HW3.out hb4); have HX4' := Lib.hid (bnext HX3'.out hb4); clear hb4) | (go_at_call 55; (with_reducible refine (C55.out _ HW4.out).mono ?_); rintro e w5 ⟨rfl, hb5⟩; have HW5 := Lib.hid (bnext HW4.out hb5); have HX5' := Lib.hid (bnext HX4'.out hb5); clear hb5) | (go_at_call 55; (with_reducible refine (D55.out _ HW5.out).mono ?_); rintro e w6 ⟨rfl, hb6⟩; have HW6 := Lib.hid (bnext HW5.out hb6); have HX6' := Lib.hid (bnext HX5'.out hb6); clear hb6) | (go_at_call 31; (with_reducible refine (C31.out _ HW6.out).mono ?_); rintro e w7 ⟨rfl, hb7⟩; have HW7 := Lib.hid (bnext HW6.out hb7); have HX7' := Lib.hid (bnext HX6'.out hb7); clear hb7))
    have HBA : Hid (Below w.heap.size w w7) := Lib.hid HW7.out
    have HXA := Lib.hid HX7'.out
    obtain ⟨wa, rfl⟩ : ∃ wa : World, wa = w7 := ⟨_, rfl⟩
    go_upto_region 9 with (go_at_call 27; (with_reducible refine (C27.out _ HBA.out).mono ?_); rintro e wb ⟨A3, cap3, rfl, hx3, hb3⟩)
    have HX3 := Lib.hid hx3
    have HB3 := Lib.hid hb3
    have HBB : Hid (Below w.heap.size w wb) := Lib.hid (bnext HBA.out hb3)
    have C54 := Lib.hid (Own54_any l A3 l.length cap3 wb wb.heap.size (Nat.le_refl _) (lr_all hx3))
    rw [HVE.out] at C54
    clear hx3 hb3
    go_upto_region 10 with (go_at_call 54; (with_reducible refine C54.out.mono ?_); rintro e wc ⟨hb4, ⟨hf, rfl⟩ | ⟨_, A4, cap4, rfl, hx4⟩⟩; first | exact absurd rfl hf | skip)
    have HX4 := Lib.hid hx4
    have HB4 := Lib.hid hb4
    have hsh : ShL wc wa.heap.size wb.heap.size l (.slice A3 l.length cap3) := (shL_of HX3.out).keep (Spo.of_below hb4) (VR.refl _) fun cs cs' o hc hp => ShSs.keep (Spo.of_below hb4) l cs cs' o hp hc
    have C53 := Lib.hid (spoil53_any l wa.heap.size wb.heap.size wc (.slice A3 l.length cap3) hb4.size hsh)
    clear hx4 hb4 hsh
    go_upto_region 11 with (go_at_call 53; (with_reducible refine C53.out.mono ?_); rintro e wd ⟨rfl, hs5⟩)
    have HS5 := Lib.hid hs5
    have hsa := HB3.out.size
    have hsb := HB4.out.size
    have hsc := hs5.size
    have hsx := HXA.out.size
    have hs1 := HW1.out.size
    have HXD : Hid (Below w1.heap.size w1 wd) := Lib.hid (hs5.below (bnext (bnext HXA.out HB3.out) HB4.out) hsx (by omega))
    have HWD : Hid (Below w.heap.size w wd) := Lib.hid (HW1.out.trans (HXD.out.mono hs1))
    have kx : ∀ w', Below wd.heap.size wd w' → LR (fun b _ => b < w'.heap.size) 256 A1 l.length cap1 l (fun b o => IsSts w' w'.heap.size b o l) := fun w' hb => lr_keep HX1.out (fun b _ hlt => (bnext HXD.out hb).block b hlt) (bnext HXD.out hb).size
    have ky : ∀ w', Below wd.heap.size wd w' → LR (fun b _ => b < w'.heap.size) 256 A4 l.length cap4 l (fun b o => IsSts w' w'.heap.size b o l) := fun w' hb => lr_keep HX4.out (fun b h1 hlt => (hb.block b (by omega)).trans (HS5.out.block b hlt (.inr h1))) (by have := hb.size; omega)
    have kc : ∀ w', Below wd.heap.size wd w' → LR (fun b _ => b < w.heap.size) 256 A l.length cap l (fun b o => IsSts w' w.heap.size b o l) := fun w' hb => HL.out.imp fun b o hr hp => ⟨hr, IsSts.keep (fun b hb' => (bnext HWD.out hb).block b hb') hr hp⟩
    have CX := Lib.hid (fun w' hb => SameCode34_any l l w' w'.heap.size w.heap.size A1 l.length cap1 A l.length cap (kx w' hb) (kc w' hb) (Nat.le_refl _) ((bnext HWD.out hb).size))
    have CY := Lib.hid (fun w' hb => SameCode34_any l l w' w'.heap.size w.heap.size A4 l.length cap4 A l.length cap (ky w' hb) (kc w' hb) (Nat.le_refl _) ((bnext HWD.out hb).size))
    rw [sameSts_refl] at CX CY
    clear kx ky kc C53 C54 C27
    go_upto_region 13 with (first | (go_at_call 34; (with_reducible refine (CX.out _ (Below.refl _ _)).mono ?_); rintro e we ⟨rfl, hb6⟩; have HB6 := Lib.hid hb6; clear hb6) | (go_at_call 34; (with_reducible refine (CY.out _ HB6.out).mono ?_); rintro e wf ⟨rfl, hb7⟩))
    have HB7 := Lib.hid (bnext HB6.out hb7)
    have HXF : Hid (Below w1.heap.size w1 wf) := Lib.hid (bnext HXD.out HB7.out)
    have HWF : Hid (Below w.heap.size w wf) := Lib.hid (bnext HWD.out HB7.out)
    have hsh : ShL wf w.heap.size w1.heap.size l (.slice A1 l.length cap1) := (shL_of HX1.out).keep (Spo.of_below HXF.out) (VR.refl _) fun cs cs' o hc hp => ShSs.keep (Spo.of_below HXF.out) l cs cs' o hp hc
    have C53 := Lib.hid (spoil53_any l w.heap.size w1.heap.size wf (.slice A1 l.length cap1) HXF.out.size hsh)
    have hsd := HB7.out.size
    clear hb7 hsh CX CY HB6
    go_upto_region 14 with (go_at_call 53; (with_reducible refine C53.out.mono ?_); rintro e wg ⟨rfl, hs8⟩)
    have HWG : Hid (Below w.heap.size w wg) := Lib.hid (hs8.below HWF.out (Nat.le_refl _) (by omega))
    have hse := hs8.size
    have CY := Lib.hid (SameCode34_any l l wg wg.heap.size w.heap.size A4 l.length cap4 A l.length cap (lr_keep HX4.out (fun b h1 hlt => (hs8.block b (by omega) (.inr (by omega))).trans ((HB7.out.block b (by omega)).trans (HS5.out.block b hlt (.inr h1)))) (by omega)) (HL.out.imp fun b o hr hp => ⟨hr, IsSts.keep (fun b hb' => HWG.out.block b hb') hr hp⟩) (Nat.le_refl _) HWG.out.size)
    rw [sameSts_refl] at CY
    clear hs8 C53
    go_wp2_with (first | (go_at_call 34; (with_reducible refine CY.out.mono ?_); rintro e wh ⟨rfl, hb9⟩) | (go_at_call 17; refine (lives_any _).mono ?_; rintro e wi ⟨rfl, hb10⟩))
    go_ret
    exact ⟨rfl, bnext (bnext HWG.out hb9) hb10⟩
  · subst hm
    rw [hz] at M31 C55
    cases r
    · go_enter Try.func13, Try.ntmps13
      go_upto_region 8 with (first | (go_at_call 54; (with_reducible refine C54a.out.mono ?_); rintro e w1 ⟨hb1, ⟨hf, _⟩ | ⟨_, A1, cap1, rfl, hx1⟩⟩; (exact absurd rfl hf); have HW1 := Lib.hid hb1; have HX1 := Lib.hid hx1; have HX1' : Hid (Below w1.heap.size w1 w1) := Lib.hid (Below.refl _ _); clear hb1 hx1) | (go_at_call 29; (with_reducible refine (C29.out _ HW1.out).mono ?_); rintro e w2 ⟨rfl, hb2⟩; have HW2 := Lib.hid (bnext HW1.out hb2); have HX2' := Lib.hid (bnext HX1'.out hb2); clear hb2) | (go_at_call 31; (fail_if_success (have := HW3)); (with_reducible refine (C31.out _ HW2.out).mono ?_); rintro e w3 ⟨rfl, hb3⟩; have HW3 := Lib.hid (bnext HW2.out hb3); have HX3' := Lib.hid (bnext HX2'.out hb3); clear hb3) | (go_at_call 31; (fail_if_success (have := HW4)); (with_reducible refine (M31.out _ HW3.out).mono ?_); rintro e w4 ⟨rfl, hb4⟩; have HW4 := Lib.hid (bnext HW3.out hb4); have HX4' := Lib.hid (bnext HX3'.out hb4); clear hb4) | (go_at_call 55; (with_reducible refine (C55.out _ HW4.out).mono ?_); rintro e w5 ⟨rfl, hb5⟩; have HW5 := Lib.hid (bnext HW4.out hb5); have HX5' := Lib.hid (bnext HX4'.out hb5); clear hb5) | (go_at_call 34; (with_reducible refine (C34.out _ HW5.out).mono ?_); rintro e w6 ⟨rfl, hb6⟩; have HW6 := Lib.hid (bnext HW5.out hb6); have HX6' := Lib.hid (bnext HX5'.out hb6); clear hb6) | (go_at_call 55; (with_reducible refine (D55.out _ HW6.out).mono ?_); rintro e w7 ⟨rfl, hb7⟩; have HW7 := Lib.hid (bnext HW6.out hb7); have HX7' := Lib.hid (bnext HX6'.out hb7); clear hb7) | (go_at_call 31; (with_reducible refine (C31.out _ HW7.out).mono ?_); rintro e w8 ⟨rfl, hb8⟩; have HW8 := Lib.hid (bnext HW7.out hb8); have HX8' := Lib.hid (bnext HX7'.out hb8); clear hb8))
      have HBA : Hid (Below w.heap.size w w8) := Lib.hid HW8.out
      have HXA := Lib.hid HX8'.out
      obtain ⟨wa, rfl⟩ : ∃ wa : World, wa = w8 := ⟨_, rfl⟩
      go_upto_region 9 with (go_at_call 27; (with_reducible refine (C27.out _ HBA.out).mono ?_); rintro e wb ⟨A3, cap3, rfl, hx3, hb3⟩)
      have HX3 := Lib.hid hx3
      have HB3 := Lib.hid hb3
      have HBB : Hid (Below w.heap.size w wb) := Lib.hid (bnext HBA.out hb3)
      have C54 := Lib.hid (Own54_any l A3 l.length cap3 wb wb.heap.size (Nat.le_refl _) (lr_all hx3))
      rw [HVE.out] at C54
      clear hx3 hb3
      go_upto_region 10 with (go_at_call 54; (with_reducible refine C54.out.mono ?_); rintro e wc ⟨hb4, ⟨hf, rfl⟩ | ⟨_, A4, cap4, rfl, hx4⟩⟩; first | exact absurd rfl hf | skip)
      have HX4 := Lib.hid hx4
      have HB4 := Lib.hid hb4
      have hsh : ShL wc wa.heap.size wb.heap.size l (.slice A3 l.length cap3) := (shL_of HX3.out).keep (Spo.of_below hb4) (VR.refl _) fun cs cs' o hc hp => ShSs.keep (Spo.of_below hb4) l cs cs' o hp hc
      have C53 := Lib.hid (spoil53_any l wa.heap.size wb.heap.size wc (.slice A3 l.length cap3) hb4.size hsh)
      clear hx4 hb4 hsh
      go_upto_region 11 with (go_at_call 53; (with_reducible refine C53.out.mono ?_); rintro e wd ⟨rfl, hs5⟩)
      have HS5 := Lib.hid hs5
      have hsa := HB3.out.size
      have hsb := HB4.out.size
      have hsc := hs5.size
      have hsx := HXA.out.size
      have hs1 := HW1.out.size
      have HXD : Hid (Below w1.heap.size w1 wd) := Lib.hid (hs5.below (bnext (bnext HXA.out HB3.out) HB4.out) hsx (by omega))
      have HWD : Hid (Below w.heap.size w wd) := Lib.hid (HW1.out.trans (HXD.out.mono hs1))
      have kx : ∀ w', Below wd.heap.size wd w' → LR (fun b _ => b < w'.heap.size) 256 A1 l.length cap1 l (fun b o => IsSts w' w'.heap.size b o l) := fun w' hb => lr_keep HX1.out (fun b _ hlt => (bnext HXD.out hb).block b hlt) (bnext HXD.out hb).size
      have ky : ∀ w', Below wd.heap.size wd w' → LR (fun b _ => b < w'.heap.size) 256 A4 l.length cap4 l (fun b o => IsSts w' w'.heap.size b o l) := fun w' hb => lr_keep HX4.out (fun b h1 hlt => (hb.block b (by omega)).trans (HS5.out.block b hlt (.inr h1))) (by have := hb.size; omega)
      have kc : ∀ w', Below wd.heap.size wd w' → LR (fun b _ => b < w.heap.size) 256 A l.length cap l (fun b o => IsSts w' w.heap.size b o l) := fun w' hb => HL.out.imp fun b o hr hp => ⟨hr, IsSts.keep (fun b hb' => (bnext HWD.out hb).block b hb') hr hp⟩
      have CX := Lib.hid (fun w' hb => SameCode34_any l l w' w'.heap.size w.heap.size A1 l.length cap1 A l.length cap (kx w' hb) (kc w' hb) (Nat.le_refl _) ((bnext HWD.out hb).size))
      have CY := Lib.hid (fun w' hb => SameCode34_any l l w' w'.heap.size w.heap.size A4 l.length cap4 A l.length cap (ky w' hb) (kc w' hb) (Nat.le_refl _) ((bnext HWD.out hb).size))
      rw [sameSts_refl] at CX CY
      clear kx ky kc C53 C54 C27
      go_upto_region 13 with (first | (go_at_call 34; (with_reducible refine (CX.out _ (Below.refl _ _)).mono ?_); rintro e we ⟨rfl, hb6⟩; have HB6 := Lib.hid hb6; clear hb6) | (go_at_call 34; (with_reducible refine (CY.out _ HB6.out).mono ?_); rintro e wf ⟨rfl, hb7⟩))
      have HB7 := Lib.hid (bnext HB6.out hb7)
      have HXF : Hid (Below w1.heap.size w1 wf) := Lib.hid (bnext HXD.out HB7.out)
      have HWF : Hid (Below w.heap.size w wf) := Lib.hid (bnext HWD.out HB7.out)
      have hsh : ShL wf w.heap.size w1.heap.size l (.slice A1 l.length cap1) := (shL_of HX1.out).keep (Spo.of_below HXF.out) (VR.refl _) fun cs cs' o hc hp => ShSs.keep (Spo.of_below HXF.out) l cs cs' o hp hc
      have C53 := Lib.hid (spoil53_any l w.heap.size w1.heap.size wf (.slice A1 l.length cap1) HXF.out.size hsh)
      have hsd := HB7.out.size
      clear hb7 hsh CX CY HB6
      go_upto_region 14 with (go_at_call 53; (with_reducible refine C53.out.mono ?_); rintro e wg ⟨rfl, hs8⟩)
      have HWG : Hid (Below w.heap.size w wg) := Lib.hid (hs8.below HWF.out (Nat.le_refl _) (by omega))
      have hse := hs8.size
      have CY := Lib.hid (SameCode34_any l l wg wg.heap.size w.heap.size A4 l.length cap4 A l.length cap (lr_keep HX4.out (fun b h1 hlt => (hs8.block b (by omega) (.inr (by omega))).trans ((HB7.out.block b (by omega)).trans (HS5.out.block b hlt (.inr h1)))) (by omega)) (HL.out.imp fun b o hr hp => ⟨hr, IsSts.keep (fun b hb' => HWG.out.block b hb') hr hp⟩) (Nat.le_refl _) HWG.out.size)
      rw [sameSts_refl] at CY
      clear hs8 C53
      go_wp2_with (first | (go_at_call 34; (with_reducible refine CY.out.mono ?_); rintro e wh ⟨rfl, hb9⟩) | (go_at_call 17; refine (lives_any _).mono ?_; rintro e wi ⟨rfl, hb10⟩))
      go_ret
      exact ⟨rfl, bnext (bnext HWG.out hb9) hb10⟩
    · go_enter Try.func13, Try.ntmps13
      go_upto_region 8 with (first | (go_at_call 54; (with_reducible refine C54a.out.mono ?_); rintro e w1 ⟨hb1, ⟨hf, _⟩ | ⟨_, A1, cap1, rfl, hx1⟩⟩; (exact absurd rfl hf); have HW1 := Lib.hid hb1; have HX1 := Lib.hid hx1; have HX1' : Hid (Below w1.heap.size w1 w1) := Lib.hid (Below.refl _ _); clear hb1 hx1) | (go_at_call 29; (with_reducible refine (C29.out _ HW1.out).mono ?_); rintro e w2 ⟨rfl, hb2⟩; have HW2 := Lib.hid (bnext HW1.out hb2); have HX2' := Lib.hid (bnext HX1'.out hb2); clear hb2) | (go_at_call 31; (fail_if_success (have := HW3)); (with_reducible refine (C31.out _ HW2.out).mono ?_); rintro e w3 ⟨rfl, hb3⟩; have HW3 := Lib.hid (bnext HW2.out hb3); have HX3' := Lib.hid (bnext HX2'.out hb3); clear hb3) | (go_at_call 31; (fail_if_success (have := HW4)); (with_reducible refine (M31.out _ HW3.out).mono ?_); rintro e w4 ⟨rfl, hb4⟩; have HW4 := Lib.hid (bnext HW3.out hb4); have HX4' := Lib.hid (bnext HX3'.out hb4); clear hb4) | (go_at_call 55; (with_reducible refine (C55.out _ HW4.out).mono ?_); rintro e w5 ⟨rfl, hb5⟩; have HW5 := Lib.hid (bnext HW4.out hb5); have HX5' := Lib.hid (bnext HX4'.out hb5); clear hb5) | (go_at_call 34; (with_reducible refine (C34.out _ HW5.out).mono ?_); rintro e w6 ⟨rfl, hb6⟩; have HW6 := Lib.hid (bnext HW5.out hb6); have HX6' := Lib.hid (bnext HX5'.out hb6); clear hb6) | (go_at_call 55; (with_reducible refine (D55.out _ HW6.out).mono ?_); rintro e w7 ⟨rfl, hb7⟩; have HW7 := Lib.hid (bnext HW6.out hb7); have HX7' := Lib.hid (bnext HX6'.out hb7); clear hb7) | (go_at_call 31; (with_reducible refine (C31.out _ HW7.out).mono ?_); rintro e w8 ⟨rfl, hb8⟩; have HW8 := Lib.hid (bnext HW7.out hb8); have HX8' := Lib.hid (bnext HX7'.out hb8); clear hb8))
      have HBA : Hid (Below w.heap.size w w8) := Lib.hid HW8.out
      have HXA := Lib.hid HX8'.out
      obtain ⟨wa, rfl⟩ : ∃ wa : World, wa = w8 := ⟨_, rfl⟩
      go_upto_region 9 with (go_at_call 27; (with_reducible refine (C27.out _ HBA.out).mono ?_); rintro e wb ⟨A3, cap3, rfl, hx3, hb3⟩)
      have HX3 := Lib.hid hx3
      have HB3 := Lib.hid hb3
      have HBB : Hid (Below w.heap.size w wb) := Lib.hid (bnext HBA.out hb3)
      have C54 := Lib.hid (Own54_any l A3 l.length cap3 wb wb.heap.size (Nat.le_refl _) (lr_all hx3))
      rw [HVE.out] at C54
      clear hx3 hb3
      go_upto_region 10 with (go_at_call 54; (with_reducible refine C54.out.mono ?_); rintro e wc ⟨hb4, ⟨hf, rfl⟩ | ⟨_, A4, cap4, rfl, hx4⟩⟩; first | exact absurd rfl hf | skip)
      have HX4 := Lib.hid hx4
      have HB4 := Lib.hid hb4
      have hsh : ShL wc wa.heap.size wb.heap.size l (.slice A3 l.length cap3) := (shL_of HX3.out).keep (Spo.of_below hb4) (VR.refl _) fun cs cs' o hc hp => ShSs.keep (Spo.of_below hb4) l cs cs' o hp hc
      have C53 := Lib.hid (spoil53_any l wa.heap.size wb.heap.size wc (.slice A3 l.length cap3) hb4.size hsh)
      clear hx4 hb4 hsh
      go_upto_region 11 with (go_at_call 53; (with_reducible refine C53.out.mono ?_); rintro e wd ⟨rfl, hs5⟩)
      have HS5 := Lib.hid hs5
      have hsa := HB3.out.size
      have hsb := HB4.out.size
      have hsc := hs5.size
      have hsx := HXA.out.size
      have hs1 := HW1.out.size
      have HXD : Hid (Below w1.heap.size w1 wd) := Lib.hid (hs5.below (bnext (bnext HXA.out HB3.out) HB4.out) hsx (by omega))
      have HWD : Hid (Below w.heap.size w wd) := Lib.hid (HW1.out.trans (HXD.out.mono hs1))
      have kx : ∀ w', Below wd.heap.size wd w' → LR (fun b _ => b < w'.heap.size) 256 A1 l.length cap1 l (fun b o => IsSts w' w'.heap.size b o l) := fun w' hb => lr_keep HX1.out (fun b _ hlt => (bnext HXD.out hb).block b hlt) (bnext HXD.out hb).size
      have ky : ∀ w', Below wd.heap.size wd w' → LR (fun b _ => b < w'.heap.size) 256 A4 l.length cap4 l (fun b o => IsSts w' w'.heap.size b o l) := fun w' hb => lr_keep HX4.out (fun b h1 hlt => (hb.block b (by omega)).trans (HS5.out.block b hlt (.inr h1))) (by have := hb.size; omega)
      have kc : ∀ w', Below wd.heap.size wd w' → LR (fun b _ => b < w.heap.size) 256 A l.length cap l (fun b o => IsSts w' w.heap.size b o l) := fun w' hb => HL.out.imp fun b o hr hp => ⟨hr, IsSts.keep (fun b hb' => (bnext HWD.out hb).block b hb') hr hp⟩
      have CX := Lib.hid (fun w' hb => SameCode34_any l l w' w'.heap.size w.heap.size A1 l.length cap1 A l.length cap (kx w' hb) (kc w' hb) (Nat.le_refl _) ((bnext HWD.out hb).size))
      have CY := Lib.hid (fun w' hb => SameCode34_any l l w' w'.heap.size w.heap.size A4 l.length cap4 A l.length cap (ky w' hb) (kc w' hb) (Nat.le_refl _) ((bnext HWD.out hb).size))
      rw [sameSts_refl] at CX CY
      clear kx ky kc C53 C54 C27
      go_upto_region 13 with (first | (go_at_call 34; (with_reducible refine (CX.out _ (Below.refl _ _)).mono ?_); rintro e we ⟨rfl, hb6⟩; have HB6 := Lib.hid hb6; clear hb6) | (go_at_call 34; (with_reducible refine (CY.out _ HB6.out).mono ?_); rintro e wf ⟨rfl, hb7⟩))
      have HB7 := Lib.hid (bnext HB6.out hb7)
      have HXF : Hid (Below w1.heap.size w1 wf) := Lib.hid (bnext HXD.out HB7.out)
      have HWF : Hid (Below w.heap.size w wf) := Lib.hid (bnext HWD.out HB7.out)
      have hsh : ShL wf w.heap.size w1.heap.size l (.slice A1 l.length cap1) := (shL_of HX1.out).keep (Spo.of_below HXF.out) (VR.refl _) fun cs cs' o hc hp => ShSs.keep (Spo.of_below HXF.out) l cs cs' o hp hc
      have C53 := Lib.hid (spoil53_any l w.heap.size w1.heap.size wf (.slice A1 l.length cap1) HXF.out.size hsh)
      have hsd := HB7.out.size
      clear hb7 hsh CX CY HB6
      go_upto_region 14 with (go_at_call 53; (with_reducible refine C53.out.mono ?_); rintro e wg ⟨rfl, hs8⟩)
      have HWG : Hid (Below w.heap.size w wg) := Lib.hid (hs8.below HWF.out (Nat.le_refl _) (by omega))
      have hse := hs8.size
      have CY := Lib.hid (SameCode34_any l l wg wg.heap.size w.heap.size A4 l.length cap4 A l.length cap (lr_keep HX4.out (fun b h1 hlt => (hs8.block b (by omega) (.inr (by omega))).trans ((HB7.out.block b (by omega)).trans (HS5.out.block b hlt (.inr h1)))) (by omega)) (HL.out.imp fun b o hr hp => ⟨hr, IsSts.keep (fun b hb' => HWG.out.block b hb') hr hp⟩) (Nat.le_refl _) HWG.out.size)
      rw [sameSts_refl] at CY
      clear hs8 C53
      go_wp2_with (first | (go_at_call 34; (with_reducible refine CY.out.mono ?_); rintro e wh ⟨rfl, hb9⟩) | (go_at_call 17; refine (lives_any _).mono ?_; rintro e wi ⟨rfl, hb10⟩))
      go_ret
      exact ⟨rfl, bnext (bnext HWG.out hb9) hb10⟩
end Go.Proofs.Ytnknefdpglnbnaa
