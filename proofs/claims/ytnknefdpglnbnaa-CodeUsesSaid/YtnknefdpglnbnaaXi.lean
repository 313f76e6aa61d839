/- The program's side of CodeUses: Sets. -/
import Derived.Test.YtnknefdpglnbnaaXg
import Derived.Test.YtnknefdpglnbnaaXh
namespace Go.Proofs.Ytnknefdpglnbnaa
open Go Go.RowKit Go.Maps

theorem MpN.kept {w w' : World} {b : Nat} {ns : List (List UInt8)} {row : Option Nat} (h : MpN w b ns) (hg : w.grownBy w' row) (hne : some b ≠ row) : MpN w' b ns := by
  obtain ⟨D, n, h1, h2, h3⟩ := h
  exact ⟨D, n, h1.kept hg hne, h2, h3⟩
theorem MpN.lt {w : World} {b : Nat} {ns : List (List UInt8)} (h : MpN w b ns) : b < w.heap.size := by
  obtain ⟨D, n, h1, _⟩ := h
  exact h1.lt
theorem grown_below {w w' : World} (h : Below w.heap.size w w') : w.grownBy w' Option.none := ⟨h.os, h.tape, h.output, h.size, fun k hk _ => h.block k hk⟩
theorem MpN.below {w w' : World} {b : Nat} {ns : List (List UInt8)} (h : MpN w b ns) (hb : Below w.heap.size w w') : MpN w' b ns := h.kept (grown_below hb) (by simp)
theorem kp_of_grown {w w' : World} {b : Nat} (h : w.grownBy w' (some b)) : Kp (fun x => x = b) b w w' := ⟨h.os, h.tape, h.output, h.size, fun k hk ho _ => h.block k hk (fun e => ho (Option.some.inj e))⟩
theorem blk_of_grown {w w' : World} {b q : Nat} {T : TypeId} {v : Value} (hq : Blk w q T v) (h : w.grownBy w' (some b)) (hne : q ≠ b) : Blk w' q T v := (h.block q hq.lt (fun e => hne (Option.some.inj e))).trans hq
theorem addN_len (s : ByteArray) (ns : List (List UInt8)) : (addN s ns).length ≤ ns.length + 1 := by unfold addN; split <;> simp
attribute [local go_sem] SV.g0 SV.g1 SV.g2 SV.g3 SV.g4 SV.g5 SV.g6 SV.g7 SV.g8 SV.g9 SV.g10 SV.g11 SV.g12 SV.g13 SV.g14 SV.g15 SV.g16
attribute [local irreducible] wpList
set_option maxRecDepth 100000 in
set_option maxHeartbeats 1000000 in
theorem sets99_any (s : SV) (nm sec : ByteArray) (h1 : s.nm = nm) (h2 : s.sec = sec) (hn1 : nm.size ≤ 140737488351232) (hn2 : sec.size ≤ 140737488351232) (q b : Nat) (hqb : q ≠ b) (ns : List (List UInt8)) (w : World) (hq : Blk w q 120 (.map (some b))) (hm : MpN w b ns) (hl : ns.length ≤ 1000000) :
    Calls Try.prog 99 #[.agg s.arr, .pointer (some ⟨q, 0, Option.none⟩)] w fun e w' => e = .returned (.tuple #[]) ∧ Blk w' q 120 (.map (some b)) ∧ MpN w' b (addN sec (addN nm ns)) ∧ Kp (fun x => x = b) b w w' := by
  subst h1 h2
  obtain ⟨i0, hi, hz0, hz1, hz2⟩ := info_parts info58
  obtain ⟨w1, hw1⟩ : ∃ w1, w1 = w.alloc (.cells s.arr 58) := ⟨_, rfl⟩
  have hb1 : Below w.heap.size w w1 := by rw [hw1]; exact (Below.refl _ w).alloc (Nat.le_refl _) _
  have hB1 : BlkN w1 w.heap.size 58 s.arr := by rw [hw1]; exact BlkN.at_ rfl _ _
  have hq1 := hq.below hb1
  have hm1 := hm.below hb1
  have hbl := hm.lt
  have HK1 := Lib.hid (Kp.of_below (O := fun x => x = b) (p := b) hb1)
  have C1 := Lib.hid (add100_any s.nm b ns w1 hm1 hn1 (by omega))
  have n1 := addN_len s.nm ns
  have HQ1 := Lib.hid hq1
  have HB1 := Lib.hid hB1
  have c1 := hq1.cell
  have d1 := hB1.cell 1 s.at1
  have HW1 := Lib.hid hw1
  clear hw1 hq hm hq1 hm1 hB1 hb1
  go_enter Try.func99, Try.ntmps99
  go_upto_region 1 with (fail)
  rw [← HW1.out]
  go_wp2_with (first
    | (go_at_call 100; (with_reducible refine (C1.out).mono ?_); rintro e2 w2 ⟨rfl, hm2, hg2⟩; have hk2 := kp_of_grown hg2; have hq2 := blk_of_grown HQ1.out hg2 hqb; have hB2 : BlkN w2 w.heap.size 58 s.arr := (hg2.block _ HB1.out.lt (by intro e; have := Option.some.inj e; omega)).trans HB1.out; have C2 := Lib.hid (add100_any s.sec b (addN s.nm ns) w2 hm2 hn2 (by omega)); have HK2 := Lib.hid (HK1.out.trans hk2); have HQ2 := Lib.hid hq2; have c2 := hq2.cell; have d2 := hB2.cell 2 s.at2; clear hm2 hg2 hk2 hq2 hB2)
    | (go_at_call 100; (with_reducible refine (C2.out).mono ?_); rintro e3 w3 ⟨rfl, hm3, hg3⟩))
  go_end0
  exact ⟨rfl, blk_of_grown HQ2.out hg3 hqb, hm3, HK2.out.trans (kp_of_grown hg3)⟩
/-- What a set holds when these have been told. -/
def foldN (f : St → List (List UInt8) → List (List UInt8)) (told : List St) : List (List UInt8) := told.foldl (fun ns x => f x ns) []
def JM (f : St → List (List UInt8) → List (List UInt8)) (q b : Nat) (w0 : World) (told : List St) (w : World) : Prop :=
  Blk w q 120 (.map (some b)) ∧ MpN w b (foldN f told) ∧ Kp (fun x => x = b) b w0 w
def setsN : St → List (List UInt8) → List (List UInt8)
  | .mk _ nm sec _ _ _ _ _ _ _ _, ns => addN sec (addN nm ns)
theorem foldN_len (f : St → List (List UInt8) → List (List UInt8)) (G : St → Prop) (m : Nat) (hf : ∀ x ns, G x → (f x ns).length ≤ ns.length + m) (told : List St) (h : ∀ x ∈ told, G x) : (foldN f told).length ≤ told.length * m := by
  unfold foldN
  suffices ∀ ns : List (List UInt8), (told.foldl (fun ns x => f x ns) ns).length ≤ ns.length + told.length * m by simpa using this []
  induction told with
  | nil => intro ns; simp
  | cons x l ih =>
    intro ns
    have h1 := ih (fun y hy => h y (by simp [hy])) (f x ns)
    have h2 := hf x ns (h x (by simp))
    simp only [List.foldl_cons, List.length_cons, Nat.succ_mul]
    omega
theorem cf99 (args : Array Value) (w : World) : (callFunc 99 args).run Try.prog w = .ok (.enter 99 args) w := by go_simp
theorem teller99 (q b B : Nat) (w0 : World) (hb : b < w0.heap.size) (hqb : q ≠ b) (hB : B ≤ b) : OTeller 99 #[.pointer (some ⟨q, 0, Option.none⟩)] (fun _ => True) (fun x => x = b) (JM setsN q b w0) B b w0 where
  cf := cf99
  own := by rintro x rfl; exact hb
  ownp := rfl
  size := fun told w h => h.2.2.size
  keep := fun told w h x hx => h.2.2.block x (by omega) (by omega) (by omega)
  mono := fun told w w' h hb => ⟨h.1.below hb, h.2.1.below hb, h.2.2.trans (Kp.of_below hb)⟩
  call := by
    rintro told s x w ⟨h1, h2, h3⟩ hs hl _
    obtain ⟨op, nm, sec, ab, wh, xa, xb, t, e, c, ws⟩ := x
    have hf := hs.form
    have hlen := foldN_len setsN (fun _ => True) 2 (fun x ns _ => by obtain ⟨op, nm, sec, ab, wh, xa, xb, t, e, c, ws⟩ := x; have := addN_len nm ns; have := addN_len sec (addN nm ns); simp only [setsN]; omega) told (fun _ _ => trivial)
    refine (sets99_any s nm sec hf.1.2.1 hf.1.2.2.1 hf.2.1.2.2.2.2.2.2.1 hf.2.1.2.2.2.2.2.2.2 q b hqb _ w h1 h2 (by omega)).mono ?_
    rintro e' w' ⟨rfl, k1, k2, k3⟩
    exact ⟨rfl, ⟨k1, by simpa [foldN, setsN] using k2, h3.trans k3⟩, k3⟩
end Go.Proofs.Ytnknefdpglnbnaa
