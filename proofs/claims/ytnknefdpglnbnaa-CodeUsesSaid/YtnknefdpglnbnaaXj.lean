/- The program's side of CodeUses: Sets, whole. -/
import Derived.Test.YtnknefdpglnbnaaXi
import Derived.Test.YtnknefdpglnbnaaZk
namespace Go.Proofs.Ytnknefdpglnbnaa
open Go Go.RowKit Go.Maps

mutual
theorem ownS_le : ∀ (x : St) (d : Int), (ownS x).length ≤ (flat x d).length
  | .mk op nm sec ab wh a b t e c ws, d => by
    have h1 := ownL_le t (d + 1)
    have h2 := ownL_le e (d + 1)
    simp only [ownS, flat, List.length_cons, List.length_append]
    omega
theorem ownL_le : ∀ (l : List St) (d : Int), (ownL l).length ≤ (flats l d).length
  | [], d => by simp [ownL]
  | x :: l, d => by
    have h1 := ownS_le x d
    have h2 := ownL_le l d
    simp only [ownL, flats, List.length_append]
    omega
end
theorem size_of_owns {w : World} {b n : Nat} {D : DataW Nat} (h : w.ownsMap Try.prog 9 (plainElem Try.prog 3) b n D) : Maps.size D ≤ n := by
  obtain ⟨es, clock, _, _, hs, rfl⟩ := h
  rw [size_eq, length_sorted]
  simpa using hs
theorem mp_made (w : World) : MpN (w.alloc (.map #[] 0)) w.heap.size [] := ⟨.map [], 0, World.ownsMap_made w _ _ _, Nat.le_refl _, fun x => by simp [has]⟩
attribute [local irreducible] wpList
set_option maxRecDepth 100000 in
set_option maxHeartbeats 1000000 in
theorem Sets57_any (l : List St) (A : Option Addr) (len cap : Nat) (w : World) (B : Nat) (hB : B ≤ w.heap.size) (h : LR (fun b _ => b < B) 256 A len cap l (fun b o => IsSts w B b o l)) :
    Calls Try.prog 57 #[.slice A len cap] w fun e w' => Below w.heap.size w w' ∧ (((chkL l).2 ≠ 0 ∧ e = .returned (.tuple #[.slice Option.none 0 0, .int .i64 ((chkL l).2 : Nat)])) ∨
      ((chkL l).2 = 0 ∧ ∃ (sl : Value) (ss : List (List UInt8)), e = .returned (.tuple #[sl, .int .i64 0]) ∧ (ss.Nodup ∧ ∀ x, x ∈ ss ↔ x ∈ foldN setsN (ownL l)) ∧ KRow w' w.heap.size sl (ss.mergeSort fun x y => decide (x ≤ y)))) := by
  have HC := Lib.hid (check_any l A len cap w B hB h)
  have HL := Lib.hid (fun w' (hb : Below w.heap.size w w') => (h.imp fun b o hr hp => ⟨hr, IsSts.keep (fun b hb' => hb.block b (by omega)) hr hp⟩ : LR (fun b _ => b < B) 256 A len cap l (fun b o => IsSts w' B b o l)))
  clear h
  obtain ⟨n, hn⟩ : ∃ n, n = (chkL l).2 := ⟨_, rfl⟩
  have hlen : n = 0 → (ownL l).length ≤ 512 := fun h0 => by
    have h1 := chk_zero _ 0 (by omega) (hn ▸ h0 : (chkL l).2 = 0)
    have := ownL_le l 0
    simp only [List.length_map] at h1
    omega
  rw [← hn] at HC ⊢
  clear hn
  by_cases hn0 : n = 0
  rotate_left
  · have hne : ((n : Int) != 0) = true := by simp; omega
    go_enter Try.func57, Try.ntmps57
    go_wp2_with (go_at_call 78; refine HC.out.mono ?_; rintro e w1 ⟨rfl, hb1⟩)
    go_ret2
    exact ⟨hb1, .inl ⟨hn0, rfl⟩⟩
  · subst hn0
    have hlen := hlen rfl
    have hmm := @run_makeMap Try.prog
    go_enter Try.func57, Try.ntmps57
    go_upto_region 5 with (go_at_call 78; refine HC.out.mono ?_; rintro e w1 ⟨rfl, hb1⟩; have HB1 := Lib.hid hb1)
    obtain ⟨w2, hw2⟩ : ∃ w2, w2 = (w1.alloc (.map #[] 0)).alloc (.cells #[.map (some w1.heap.size)] 120) := ⟨_, rfl⟩
    rw [← hw2]
    have hb12 : Below w1.heap.size w1 w2 := by rw [hw2]; exact ((Below.refl _ w1).alloc (Nat.le_refl _) _).alloc (by simp) _
    have hq2 : Blk w2 (w1.heap.size + 1) 120 (.map (some w1.heap.size)) := by rw [hw2]; exact Blk.at_ (by simp) _ _
    have hm2 : MpN w2 w1.heap.size [] := by rw [hw2]; exact (mp_made w1).below ((Below.refl _ _).alloc (Nat.le_refl _) _)
    have hsz1 := HB1.out.size
    have hbl := hm2.lt
    have T99 := teller99 (w1.heap.size + 1) w1.heap.size B w2 hbl (by omega) (by omega)
    have C98 := Lib.hid (owns_any 99 _ _ _ _ B w1.heap.size w2 T99 l w2 A len cap [] (HL.out w2 (HB1.out.trans (hb12.mono hsz1))) ⟨hq2, hm2, Kp.refl⟩ (by simp; omega) (fun _ _ => trivial))
    have HB2 := Lib.hid (HB1.out.trans (hb12.mono hsz1))
    obtain ⟨b, hb⟩ : ∃ b, b = w1.heap.size := ⟨_, rfl⟩
    rw [← hb] at C98 hsz1 ⊢
    clear hw2 hb12 hq2 hm2 T99 hb hmm
    go_wp2_with (first
      | (go_at_call 98; refine C98.out.mono ?_; rintro e w3 ⟨rfl, ⟨hq3, hm3, hk3⟩, _⟩; have c3 := hq3.cell; have HM3 := Lib.hid hm3; have HK3 := Lib.hid hk3; obtain ⟨D, m, hown, hml, hkeys⟩ := hm3; have HO3 := Lib.hid hown; have HKY := Lib.hid hkeys; have hfl := foldN_len setsN (fun _ => True) 2 (fun x ns _ => by obtain ⟨op, nm, sec, ab, wh, xa, xb, t, e, c, ws⟩ := x; have := addN_len nm ns; have := addN_len sec (addN nm ns); simp only [setsN]; omega) (ownL l) (fun _ _ => trivial); simp only [List.nil_append] at hml; clear hown hkeys hq3 hk3)
      | (go_at_call 101; refine (list101_any b m D w3 HO3.out (by have := size_of_owns HO3.out; omega)).mono ?_; rintro e w4 ⟨sl, ss, rfl, hss, hr4, hb4⟩))
    go_ret2
    have hkb : Below w.heap.size w w3 := ⟨HK3.out.os.trans HB2.out.os, HK3.out.tape.trans HB2.out.tape, HK3.out.output.trans HB2.out.output, Nat.le_trans HB2.out.size HK3.out.size, fun k hk => (HK3.out.block k (by have := HB2.out.size; omega) (by omega) (by omega)).trans (HB2.out.block k hk)⟩
    refine ⟨hkb.trans (hb4.mono hkb.size), .inr ⟨trivial, sl, ss, rfl, ⟨hss.1, fun x => ?_⟩, row_low hr4 hkb.size⟩⟩
    rw [hss.2 x]
    simpa using HKY.out x
end Go.Proofs.Ytnknefdpglnbnaa
