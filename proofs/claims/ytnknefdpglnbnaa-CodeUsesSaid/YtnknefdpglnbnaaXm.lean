/- The program's side of CodeUses: Reads, whole. -/
import Derived.Test.YtnknefdpglnbnaaXl
namespace Go.Proofs.Ytnknefdpglnbnaa
open Go Go.RowKit Go.Maps

def readsN (x : St) (ns : List (List UInt8)) : List (List UInt8) := addsN (readsX x) ns
mutual
theorem ownS_flat : ∀ (x : St) (d : Int), ∀ y ∈ ownS x, ∃ k, (k, y) ∈ flat x d
  | .mk op nm sec ab wh a b t e c ws, d, y, hy => by
    simp only [ownS, List.mem_cons, List.mem_append] at hy
    rcases hy with rfl | hy | hy
    · exact ⟨d, by simp [flat]⟩
    · obtain ⟨k, hk⟩ := ownL_flats t (d + 1) y hy
      exact ⟨k, by simp [flat, hk]⟩
    · obtain ⟨k, hk⟩ := ownL_flats e (d + 1) y hy
      exact ⟨k, by simp [flat, hk]⟩
theorem ownL_flats : ∀ (l : List St) (d : Int), ∀ y ∈ ownL l, ∃ k, (k, y) ∈ flats l d
  | [], _, y, hy => by simp [ownL] at hy
  | x :: l, d, y, hy => by
    simp only [ownL, List.mem_append] at hy
    rcases hy with hy | hy
    · obtain ⟨k, hk⟩ := ownS_flat x d y hy
      exact ⟨k, by simp [flats, hk]⟩
    · obtain ⟨k, hk⟩ := ownL_flats l d y hy
      exact ⟨k, by simp [flats, hk]⟩
end
theorem own_may (l : List St) (h : (chkL l).2 = 0) : ∀ x ∈ ownL l, mayS x = true := by
  intro x hx
  have hm := chk_zero_may _ 0 (by omega) h
  obtain ⟨k, hk⟩ := ownL_flats l 0 x hx
  rw [List.all_eq_true] at hm
  exact hm _ (List.mem_map.2 ⟨_, hk, rfl⟩)
theorem own_reads (l : List St) (h : (chkL l).2 = 0) : ∀ x ∈ ownL l, (readsX x).length ≤ 1088 := fun x hx => readsX_len (own_may l h x hx)
theorem cf103 (args : Array Value) (w : World) : (callFunc 103 args).run Try.prog w = .ok (.enter 103 args) w := by go_simp
theorem teller103 (q b B : Nat) (w0 : World) (hb : b < w0.heap.size) (hqb : q ≠ b) (hB : B ≤ b) : OTeller 103 #[.pointer (some ⟨q, 0, Option.none⟩)] (fun x => (readsX x).length ≤ 1088) (fun x => x = b) (fun told w => JM readsN q b w0 told w ∧ ∀ x ∈ told, (readsX x).length ≤ 1088) B b w0 where
  cf := cf103
  own := by rintro x rfl; exact hb
  ownp := rfl
  size := fun told w h => h.1.2.2.size
  keep := fun told w h x hx => h.1.2.2.block x (by omega) (by omega) (by omega)
  mono := fun told w w' h hb => ⟨⟨h.1.1.below hb, h.1.2.1.below hb, h.1.2.2.trans (Kp.of_below hb)⟩, h.2⟩
  call := by
    rintro told s x w ⟨⟨h1, h2, h3⟩, h4⟩ hs hl hG
    obtain ⟨op, nm, sec, ab, wh, xa, xb, t, e, c, ws⟩ := x
    have hlen := foldN_len readsN (fun x => (readsX x).length ≤ 1088) 1088 (fun x ns hx => by have := addsN_len (readsX x) ns; simp only [readsN]; omega) told h4
    refine (reads103_any s op nm sec ab wh xa xb t e c ws q b B hqb hB _ w hs hG h1 h2 (by omega)).mono ?_
    rintro e' w' ⟨rfl, k1, k2, k3⟩
    refine ⟨rfl, ⟨⟨k1, by simpa [foldN, readsN] using k2, h3.trans k3⟩, fun y hy => ?_⟩, k3⟩
    rcases List.mem_append.1 hy with hy | hy
    · exact h4 y hy
    · rw [List.mem_singleton] at hy
      subst hy
      exact hG
attribute [local irreducible] wpList
set_option maxRecDepth 100000 in
set_option maxHeartbeats 1000000 in
theorem Reads59_any (l : List St) (A : Option Addr) (len cap : Nat) (w : World) (B : Nat) (hB : B ≤ w.heap.size) (h : LR (fun b _ => b < B) 256 A len cap l (fun b o => IsSts w B b o l)) :
    Calls Try.prog 59 #[.slice A len cap] w fun e w' => Below w.heap.size w w' ∧ (((chkL l).2 ≠ 0 ∧ e = .returned (.tuple #[.slice Option.none 0 0, .int .i64 ((chkL l).2 : Nat)])) ∨
      ((chkL l).2 = 0 ∧ ∃ (sl : Value) (ss : List (List UInt8)), e = .returned (.tuple #[sl, .int .i64 0]) ∧ (ss.Nodup ∧ ∀ x, x ∈ ss ↔ x ∈ foldN readsN (ownL l)) ∧ KRow w' w.heap.size sl (ss.mergeSort fun x y => decide (x ≤ y)))) := by
  have HC := Lib.hid (check_any l A len cap w B hB h)
  have HL := Lib.hid (fun w' (hb : Below w.heap.size w w') => (h.imp fun b o hr hp => ⟨hr, IsSts.keep (fun b hb' => hb.block b (by omega)) hr hp⟩ : LR (fun b _ => b < B) 256 A len cap l (fun b o => IsSts w' B b o l)))
  clear h
  obtain ⟨n, hn⟩ : ∃ n, n = (chkL l).2 := ⟨_, rfl⟩
  have HG : Hid (n = 0 → ∀ x ∈ ownL l, (readsX x).length ≤ 1088) := Lib.hid fun h0 => own_reads l (hn ▸ h0)
  have hlen : n = 0 → (ownL l).length ≤ 512 := fun h0 => by
    have h1 := chk_zero _ 0 (by omega) (hn ▸ h0 : (chkL l).2 = 0)
    have := ownL_le l 0
    simp only [List.length_map] at h1
    omega
  rw [← hn] at HC ⊢
  clear hn
  by_cases hn0 : n = 0
  rotate_left
  · have hne : ((n : Int) != 0) = true := by simp; omega
    go_enter Try.func59, Try.ntmps59
    go_wp2_with (go_at_call 78; refine HC.out.mono ?_; rintro e w1 ⟨rfl, hb1⟩)
    go_ret2
    exact ⟨hb1, .inl ⟨hn0, rfl⟩⟩
  · subst hn0
    have hlen := hlen rfl
    have hmm := @run_makeMap Try.prog
    go_enter Try.func59, Try.ntmps59
    go_upto_region 5 with (go_at_call 78; refine HC.out.mono ?_; rintro e w1 ⟨rfl, hb1⟩; have HB1 := Lib.hid hb1)
    obtain ⟨w2, hw2⟩ : ∃ w2, w2 = (w1.alloc (.map #[] 0)).alloc (.cells #[.map (some w1.heap.size)] 120) := ⟨_, rfl⟩
    rw [← hw2]
    have hb12 : Below w1.heap.size w1 w2 := by rw [hw2]; exact ((Below.refl _ w1).alloc (Nat.le_refl _) _).alloc (by simp) _
    have hq2 : Blk w2 (w1.heap.size + 1) 120 (.map (some w1.heap.size)) := by rw [hw2]; exact Blk.at_ (by simp) _ _
    have hm2 : MpN w2 w1.heap.size [] := by rw [hw2]; exact (mp_made w1).below ((Below.refl _ _).alloc (Nat.le_refl _) _)
    have hsz1 := HB1.out.size
    have hbl := hm2.lt
    have T103 := teller103 (w1.heap.size + 1) w1.heap.size B w2 hbl (by omega) (by omega)
    have C98 := Lib.hid (owns_any 103 _ _ _ _ B w1.heap.size w2 T103 l w2 A len cap [] (HL.out w2 (HB1.out.trans (hb12.mono hsz1))) ⟨⟨hq2, hm2, Kp.refl⟩, by simp⟩ (by simp; omega) (HG.out (by first | rfl | trivial)))
    have HB2 := Lib.hid (HB1.out.trans (hb12.mono hsz1))
    obtain ⟨b, hb⟩ : ∃ b, b = w1.heap.size := ⟨_, rfl⟩
    rw [← hb] at C98 hsz1 ⊢
    clear hw2 hb12 hq2 hm2 T103 hb hmm
    go_wp2_with (first
      | (go_at_call 98; refine C98.out.mono ?_; rintro e w3 ⟨rfl, ⟨⟨hq3, hm3, hk3⟩, _⟩, _⟩; have c3 := hq3.cell; have HM3 := Lib.hid hm3; have HK3 := Lib.hid hk3; obtain ⟨D, m, hown, hml, hkeys⟩ := hm3; have HO3 := Lib.hid hown; have HKY := Lib.hid hkeys; have hfl := foldN_len readsN (fun x => (readsX x).length ≤ 1088) 1088 (fun x ns hx => by have := addsN_len (readsX x) ns; simp only [readsN]; omega) (ownL l) (HG.out (by first | rfl | trivial)); simp only [List.nil_append] at hml; clear hown hkeys hq3 hk3)
      | (go_at_call 101; refine (list101_any b m D w3 HO3.out (by have := size_of_owns HO3.out; omega)).mono ?_; rintro e w4 ⟨sl, ss, rfl, hss, hr4, hb4⟩))
    go_ret2
    have hkb : Below w.heap.size w w3 := ⟨HK3.out.os.trans HB2.out.os, HK3.out.tape.trans HB2.out.tape, HK3.out.output.trans HB2.out.output, Nat.le_trans HB2.out.size HK3.out.size, fun k hk => (HK3.out.block k (by have := HB2.out.size; omega) (by omega) (by omega)).trans (HB2.out.block k hk)⟩
    refine ⟨hkb.trans (hb4.mono hkb.size), .inr ⟨trivial, sl, ss, rfl, ⟨hss.1, fun x => ?_⟩, row_low hr4 hkb.size⟩⟩
    rw [hss.2 x]
    simpa using HKY.out x
end Go.Proofs.Ytnknefdpglnbnaa
