/- The program's side of CodeUses: Sets. The program's side of CodeUses: Sets, whole. The program's side of CodeUses: the names in an expression, told to a method value. -/
import Derived.Test.YtnknefdpglnbnaaXg
import Derived.Test.YtnknefdpglnbnaaXh
import Derived.Test.YtnknefdpglnbnaaZk
namespace Go.Proofs.Ytnknefdpglnbnaa
open Go Go.RowKit Go.Maps

theorem MpN.kept {w w' : World} {b : Nat} {ns : List (List UInt8)} {row : Option Nat} (h : MpN w b ns) (hg : w.grownBy w' row) (hne : some b ≠ row) : MpN w' b ns := by
  obtain ⟨D, n, h1, h2, h3⟩ := h
  exact ⟨D, n, h1.kept hg hne, h2, h3⟩
theorem MpN.lt {w : World} {b : Nat} {ns : List (List UInt8)} (h : MpN w b ns) : b < w.heap.size := by
  obtain ⟨D, n, h1, _⟩ := h
  exact h1.lt
theorem grown_below {w w' : World} (h : Below w.heap.size w w') : w.grownBy w' Option.none := ⟨h.os, h.tape, h.output, h.size, fun k hk _ => h.block k hk⟩
theorem MpN.below {w w' : World} {b : Nat} {ns : List (List UInt8)} (h : MpN w b ns) (hb : Below w.heap.size w w') : MpN w' b ns := h.kept (grown_below hb) (by simp)
theorem kp_of_grown {w w' : World} {b : Nat} (h : w.grownBy w' (some b)) : Kp (fun x => x = b) b w w' := ⟨h.os, h.tape, h.output, h.size, fun k hk ho _ => h.block k hk (fun e => ho (Option.some.inj e))⟩
theorem blk_of_grown {w w' : World} {b q : Nat} {T : TypeId} {v : Value} (hq : Blk w q T v) (h : w.grownBy w' (some b)) (hne : q ≠ b) : Blk w' q T v := (h.block q hq.lt (fun e => hne (Option.some.inj e))).trans hq
theorem addN_len (s : ByteArray) (ns : List (List UInt8)) : (addN s ns).length ≤ ns.length + 1 := by unfold addN; split <;> simp
attribute [local go_sem] SV.g0 SV.g1 SV.g2 SV.g3 SV.g4 SV.g5 SV.g6 SV.g7 SV.g8 SV.g9 SV.g10 SV.g11 SV.g12 SV.g13 SV.g14 SV.g15 SV.g16
attribute [local irreducible] wpList
set_option maxRecDepth 100000 in
set_option maxHeartbeats 1000000 in
theorem sets99_any (s : SV) (nm sec : ByteArray) (h1 : s.nm = nm) (h2 : s.sec = sec) (hn1 : nm.size ≤ 140737488351232) (hn2 : sec.size ≤ 140737488351232) (q b : Nat) (hqb : q ≠ b) (ns : List (List UInt8)) (w : World) (hq : Blk w q 120 (.map (some b))) (hm : MpN w b ns) (hl : ns.length ≤ 1000000) :
    Calls Try.prog 99 #[.agg s.arr, .pointer (some ⟨q, 0, Option.none⟩)] w fun e w' => e = .returned (.tuple #[]) ∧ Blk w' q 120 (.map (some b)) ∧ MpN w' b (addN sec (addN nm ns)) ∧ Kp (fun x => x = b) b w w' := by
  subst h1 h2
  obtain ⟨i0, hi, hz0, hz1, hz2⟩ := info_parts info58
  obtain ⟨w1, hw1⟩ : ∃ w1, w1 = w.alloc (.cells s.arr 58) := ⟨_, rfl⟩
  have hb1 : Below w.heap.size w w1 := by rw [hw1]; exact (Below.refl _ w).alloc (Nat.le_refl _) _
  have hB1 : BlkN w1 w.heap.size 58 s.arr := by rw [hw1]; exact BlkN.at_ rfl _ _
  have hq1 := hq.below hb1
  have hm1 := hm.below hb1
  have hbl := hm.lt
  have HK1 := Lib.hid (Kp.of_below (O := fun x => x = b) (p := b) hb1)
  have C1 := Lib.hid (add100_any s.nm b ns w1 hm1 hn1 (by omega))
  have n1 := addN_len s.nm ns
  have HQ1 := Lib.hid hq1
  have HB1 := Lib.hid hB1
  have c1 := hq1.cell
  have d1 := hB1.cell 1 s.at1
  have HW1 := Lib.hid hw1
  clear hw1 hq hm hq1 hm1 hB1 hb1
  go_enter Try.func99, Try.ntmps99
  go_upto_region 1 with (fail)
  rw [← HW1.out]
  go_wp2_with (first
    | (go_at_call 100; (with_reducible refine (C1.out).mono ?_); rintro e2 w2 ⟨rfl, hm2, hg2⟩; have hk2 := kp_of_grown hg2; have hq2 := blk_of_grown HQ1.out hg2 hqb; have hB2 : BlkN w2 w.heap.size 58 s.arr := (hg2.block _ HB1.out.lt (by intro e; have := Option.some.inj e; omega)).trans HB1.out; have C2 := Lib.hid (add100_any s.sec b (addN s.nm ns) w2 hm2 hn2 (by omega)); have HK2 := Lib.hid (HK1.out.trans hk2); have HQ2 := Lib.hid hq2; have c2 := hq2.cell; have d2 := hB2.cell 2 s.at2; clear hm2 hg2 hk2 hq2 hB2)
    | (go_at_call 100; (with_reducible refine (C2.out).mono ?_); rintro e3 w3 ⟨rfl, hm3, hg3⟩))
  go_end0
  exact ⟨rfl, blk_of_grown HQ2.out hg3 hqb, hm3, HK2.out.trans (kp_of_grown hg3)⟩
/-- What a set holds when these have been told. -/
def foldN (f : St → List (List UInt8) → List (List UInt8)) (told : List St) : List (List UInt8) := told.foldl (fun ns x => f x ns) []
def JM (f : St → List (List UInt8) → List (List UInt8)) (q b : Nat) (w0 : World) (told : List St) (w : World) : Prop :=
  Blk w q 120 (.map (some b)) ∧ MpN w b (foldN f told) ∧ Kp (fun x => x = b) b w0 w
def setsN : St → List (List UInt8) → List (List UInt8)
  | .mk _ nm sec _ _ _ _ _ _ _ _, ns => addN sec (addN nm ns)
theorem foldN_len (f : St → List (List UInt8) → List (List UInt8)) (G : St → Prop) (m : Nat) (hf : ∀ x ns, G x → (f x ns).length ≤ ns.length + m) (told : List St) (h : ∀ x ∈ told, G x) : (foldN f told).length ≤ told.length * m := by
  unfold foldN
  suffices ∀ ns : List (List UInt8), (told.foldl (fun ns x => f x ns) ns).length ≤ ns.length + told.length * m by simpa using this []
  induction told with
  | nil => intro ns; simp
  | cons x l ih =>
    intro ns
    have h1 := ih (fun y hy => h y (by simp [hy])) (f x ns)
    have h2 := hf x ns (h x (by simp))
    simp only [List.foldl_cons, List.length_cons, Nat.succ_mul]
    omega
theorem cf99 (args : Array Value) (w : World) : (callFunc 99 args).run Try.prog w = .ok (.enter 99 args) w := by go_simp
theorem teller99 (q b B : Nat) (w0 : World) (hb : b < w0.heap.size) (hqb : q ≠ b) (hB : B ≤ b) : OTeller 99 #[.pointer (some ⟨q, 0, Option.none⟩)] (fun _ => True) (fun x => x = b) (JM setsN q b w0) B b w0 where
  cf := cf99
  own := by rintro x rfl; exact hb
  ownp := rfl
  size := fun told w h => h.2.2.size
  keep := fun told w h x hx => h.2.2.block x (by omega) (by omega) (by omega)
  mono := fun told w w' h hb => ⟨h.1.below hb, h.2.1.below hb, h.2.2.trans (Kp.of_below hb)⟩
  call := by
    rintro told s x w ⟨h1, h2, h3⟩ hs hl _
    obtain ⟨op, nm, sec, ab, wh, xa, xb, t, e, c, ws⟩ := x
    have hf := hs.form
    have hlen := foldN_len setsN (fun _ => True) 2 (fun x ns _ => by obtain ⟨op, nm, sec, ab, wh, xa, xb, t, e, c, ws⟩ := x; have := addN_len nm ns; have := addN_len sec (addN nm ns); simp only [setsN]; omega) told (fun _ _ => trivial)
    refine (sets99_any s nm sec hf.1.2.1 hf.1.2.2.1 hf.2.1.2.2.2.2.2.2.1 hf.2.1.2.2.2.2.2.2.2 q b hqb _ w h1 h2 (by omega)).mono ?_
    rintro e' w' ⟨rfl, k1, k2, k3⟩
    exact ⟨rfl, ⟨k1, by simpa [foldN, setsN] using k2, h3.trans k3⟩, k3⟩
end Go.Proofs.Ytnknefdpglnbnaa
namespace Go.Proofs.Ytnknefdpglnbnaa
open Go Go.RowKit Go.Maps

mutual
theorem ownS_le : ∀ (x : St) (d : Int), (ownS x).length ≤ (flat x d).length
  | .mk op nm sec ab wh a b t e c ws, d => by
    have h1 := ownL_le t (d + 1)
    have h2 := ownL_le e (d + 1)
    simp only [ownS, flat, List.length_cons, List.length_append]
    omega
theorem ownL_le : ∀ (l : List St) (d : Int), (ownL l).length ≤ (flats l d).length
  | [], d => by simp [ownL]
  | x :: l, d => by
    have h1 := ownS_le x d
    have h2 := ownL_le l d
    simp only [ownL, flats, List.length_append]
    omega
end
theorem size_of_owns {w : World} {b n : Nat} {D : DataW Nat} (h : w.ownsMap Try.prog 9 (plainElem Try.prog 3) b n D) : Maps.size D ≤ n := by
  obtain ⟨es, clock, _, _, hs, rfl⟩ := h
  rw [size_eq, length_sorted]
  simpa using hs
theorem mp_made (w : World) : MpN (w.alloc (.map #[] 0)) w.heap.size [] := ⟨.map [], 0, World.ownsMap_made w _ _ _, Nat.le_refl _, fun x => by simp [has]⟩
attribute [local irreducible] wpList
set_option maxRecDepth 100000 in
set_option maxHeartbeats 1000000 in
theorem Sets57_any (l : List St) (A : Option Addr) (len cap : Nat) (w : World) (B : Nat) (hB : B ≤ w.heap.size) (h : LR (fun b _ => b < B) 256 A len cap l (fun b o => IsSts w B b o l)) :
    Calls Try.prog 57 #[.slice A len cap] w fun e w' => Below w.heap.size w w' ∧ (((chkL l).2 ≠ 0 ∧ e = .returned (.tuple #[.slice Option.none 0 0, .int .i64 ((chkL l).2 : Nat)])) ∨
      ((chkL l).2 = 0 ∧ ∃ (sl : Value) (ss : List (List UInt8)), e = .returned (.tuple #[sl, .int .i64 0]) ∧ (ss.Nodup ∧ ∀ x, x ∈ ss ↔ x ∈ foldN setsN (ownL l)) ∧ KRow w' w.heap.size sl (ss.mergeSort fun x y => decide (x ≤ y)))) := by
  have HC := Lib.hid (check_any l A len cap w B hB h)
  have HL := Lib.hid (fun w' (hb : Below w.heap.size w w') => (h.imp fun b o hr hp => ⟨hr, IsSts.keep (fun b hb' => hb.block b (by omega)) hr hp⟩ : LR (fun b _ => b < B) 256 A len cap l (fun b o => IsSts w' B b o l)))
  clear h
  obtain ⟨n, hn⟩ : ∃ n, n = (chkL l).2 := ⟨_, rfl⟩
  have hlen : n = 0 → (ownL l).length ≤ 512 := fun h0 => by
    have h1 := chk_zero _ 0 (by omega) (hn ▸ h0 : (chkL l).2 = 0)
    have := ownL_le l 0
    simp only [List.length_map] at h1
    omega
  rw [← hn] at HC ⊢
  clear hn
  by_cases hn0 : n = 0
  rotate_left
  · have hne : ((n : Int) != 0) = true := by simp; omega
    go_enter Try.func57, Try.ntmps57
    go_wp2_with (go_at_call 78; refine HC.out.mono ?_; rintro e w1 ⟨rfl, hb1⟩)
    go_ret2
    exact ⟨hb1, .inl ⟨hn0, rfl⟩⟩
  · subst hn0
    have hlen := hlen rfl
    have hmm := @run_makeMap Try.prog
    go_enter Try.func57, Try.ntmps57
    go_upto_region 5 with (go_at_call 78; refine HC.out.mono ?_; rintro e w1 ⟨rfl, hb1⟩; have HB1 := Lib.hid hb1)
    obtain ⟨w2, hw2⟩ : ∃ w2, w2 = (w1.alloc (.map #[] 0)).alloc (.cells #[.map (some w1.heap.size)] 120) := ⟨_, rfl⟩
    rw [← hw2]
    have hb12 : Below w1.heap.size w1 w2 := by rw [hw2]; exact ((Below.refl _ w1).alloc (Nat.le_refl _) _).alloc (by simp) _
    have hq2 : Blk w2 (w1.heap.size + 1) 120 (.map (some w1.heap.size)) := by rw [hw2]; exact Blk.at_ (by simp) _ _
    have hm2 : MpN w2 w1.heap.size [] := by rw [hw2]; exact (mp_made w1).below ((Below.refl _ _).alloc (Nat.le_refl _) _)
    have hsz1 := HB1.out.size
    have hbl := hm2.lt
    have T99 := teller99 (w1.heap.size + 1) w1.heap.size B w2 hbl (by omega) (by omega)
    have C98 := Lib.hid (owns_any 99 _ _ _ _ B w1.heap.size w2 T99 l w2 A len cap [] (HL.out w2 (HB1.out.trans (hb12.mono hsz1))) ⟨hq2, hm2, Kp.refl⟩ (by simp; omega) (fun _ _ => trivial))
    have HB2 := Lib.hid (HB1.out.trans (hb12.mono hsz1))
    obtain ⟨b, hb⟩ : ∃ b, b = w1.heap.size := ⟨_, rfl⟩
    rw [← hb] at C98 hsz1 ⊢
    clear hw2 hb12 hq2 hm2 T99 hb hmm
    go_wp2_with (first
      | (go_at_call 98; refine C98.out.mono ?_; rintro e w3 ⟨rfl, ⟨hq3, hm3, hk3⟩, _⟩; have c3 := hq3.cell; have HM3 := Lib.hid hm3; have HK3 := Lib.hid hk3; obtain ⟨D, m, hown, hml, hkeys⟩ := hm3; have HO3 := Lib.hid hown; have HKY := Lib.hid hkeys; have hfl := foldN_len setsN (fun _ => True) 2 (fun x ns _ => by obtain ⟨op, nm, sec, ab, wh, xa, xb, t, e, c, ws⟩ := x; have := addN_len nm ns; have := addN_len sec (addN nm ns); simp only [setsN]; omega) (ownL l) (fun _ _ => trivial); simp only [List.nil_append] at hml; clear hown hkeys hq3 hk3)
      | (go_at_call 101; refine (list101_any b m D w3 HO3.out (by have := size_of_owns HO3.out; omega)).mono ?_; rintro e w4 ⟨sl, ss, rfl, hss, hr4, hb4⟩))
    go_ret2
    have hkb : Below w.heap.size w w3 := ⟨HK3.out.os.trans HB2.out.os, HK3.out.tape.trans HB2.out.tape, HK3.out.output.trans HB2.out.output, Nat.le_trans HB2.out.size HK3.out.size, fun k hk => (HK3.out.block k (by have := HB2.out.size; omega) (by omega) (by omega)).trans (HB2.out.block k hk)⟩
    refine ⟨hkb.trans (hb4.mono hkb.size), .inr ⟨trivial, sl, ss, rfl, ⟨hss.1, fun x => ?_⟩, row_low hr4 hkb.size⟩⟩
    rw [hss.2 x]
    simpa using HKY.out x
end Go.Proofs.Ytnknefdpglnbnaa
namespace Go.Proofs.Ytnknefdpglnbnaa
open Go Go.RowKit Go.Maps
structure NTellerM (k : Nat) (mv : Value) (O : Nat → Prop) (J : List ByteArray → World → Prop) (B p : Nat) (w0 : World) : Prop where
  cf : ∀ args w, (callFunc k args).run Try.prog w = .ok (.enter k args) w
  own : ∀ b, O b → b < w0.heap.size
  ownp : O p
  size : ∀ told w, J told w → w0.heap.size ≤ w.heap.size
  keep : ∀ told w, J told w → ∀ b, b < B → w.heap[b]? = w0.heap[b]?
  mono : ∀ told w w', J told w → Below w.heap.size w w' → J told w'
  call : ∀ told s w, J told w → s.size ≤ 140737488351232 → told.length ≤ 2000 → Calls Try.prog k #[mv, .string s] w fun e w' => e = .returned (.tuple #[]) ∧ J (told ++ [s]) w' ∧ Kp O p w w'
def NameMC (k : Nat) (mv : Value) (O : Nat → Prop) (J : List ByteArray → World → Prop) (B p : Nat) (x : Ex) : Prop :=
  ∀ (w : World) (v : Value) (told : List ByteArray), IsEx w B v x → J told w → told.length + (namesX x).length ≤ 2000 → Calls Try.prog 83 #[v, .func (.func k) #[mv] #[]] w fun e w' => e = .returned (.tuple #[]) ∧ J (told ++ namesX x) w' ∧ Kp O p w w'
set_option maxRecDepth 100000 in
set_option maxHeartbeats 1000000 in
theorem namesM_any (k : Nat) (mv : Value) (O : Nat → Prop) (J : List ByteArray → World → Prop) (B p : Nat) (w0 : World) (hT : NTellerM k mv O J B p w0) (_hB : B ≤ w0.heap.size) (x : Ex) : NameMC k mv O J B p x := by
  induction x using Ex.ind with
  | h kd n s l IH =>
    intro w v told h hJ hLn
    have hLs : told.length + ((if kd = 4 then [s] else ([] : List ByteArray)).length + (namesXs l).length) ≤ 2000 := by simpa only [namesX, List.length_append] using hLn
    have HLS := Lib.hid hLs
    clear hLs hLn
    obtain ⟨h1, h2, h3, h4, A, cap, h5, rfl, h7⟩ := h.form
    have hcf := hT.cf
    have HT := Lib.hid hT
    have HI := Lib.hid IH
    have hb0 : Below w.heap.size w (w.alloc (.cells #[.int .u8 kd, .int .i64 n, .string s, .slice A l.length cap] 26)) := (Below.refl _ _).alloc (Nat.le_refl _) _
    have H7 := Lib.hid h7
    have hsz0 := hT.size _ _ hJ
    have HJ := Lib.hid hJ
    have HJ1 := Lib.hid (hT.mono _ _ _ hJ hb0)
    have hfr : ¬ O w.heap.size := fun ho => absurd (hT.own _ ho) (by omega)
    have HFR := Lib.hid hfr
    have HB1 : Hid (BlkN (w.alloc (.cells #[.int .u8 kd, .int .i64 n, .string s, .slice A l.length cap] 26)) w.heap.size 26 #[.int .u8 kd, .int .i64 n, .string s, .slice A l.length cap]) := Lib.hid (BlkN.at_ rfl _ _)
    have HB0 := Lib.hid hb0
    clear h h7 hT IH hJ hfr hb0
    have main : ∀ (w1 : World) (t1 : List ByteArray), t1 = told ++ (if kd = 4 then [s] else []) → J t1 w1 → Kp O p w w1 → True := fun _ _ _ _ _ => trivial
    clear main
    by_cases hk4 : kd = 4
    · subst hk4
      have hLs : told.length + (1 + (namesXs l).length) ≤ 2000 := by simpa using HLS.out
      go_enter Try.func83, Try.ntmps83
      go_wp2_with (first | (refine (HT.out.call told s _ HJ1.out h3 (by omega)).mono ?_; rintro e w1 ⟨rfl, hj1, hk1⟩; have hbb : BlkN w1 w.heap.size 26 #[.int .u8 4, .int .i64 n, .string s, .slice A l.length cap] := (hk1.block _ HB1.out.lt HFR.out (fun e => HFR.out (e ▸ HT.out.ownp))).trans HB1.out; have q3 := hbb.cell 3 rfl; clear hbb))
      obtain ⟨T1, hT1⟩ : ∃ T1, T1 = told ++ [s] := ⟨_, rfl⟩
      have HJW := Lib.hid hj1
      have HKW := Lib.hid ((Kp.of_below (O := O) (p := p) HB0.out).trans hk1)
      rw [← hT1] at HJW
      have HT1 := Lib.hid hT1
      have hT1l : T1.length + (namesXs l).length ≤ 2000 := by rw [hT1]; (try simp); omega
      clear hj1 hk1 q3 hT1
      go_loopw [16] (fun i wr => ∃ j : Nat, j ≤ l.length ∧ i = .int .i64 j ∧ J (T1 ++ namesXs (l.take j)) wr ∧ Kp O p w wr) (fun i _ => l.length - (intOf i).toNat)
      case atStart => exact ⟨0, Nat.zero_le _, rfl, by simpa [namesXs] using HJW.out, HKW.out⟩
      case round =>
        obtain ⟨j, hj, rfl, hjr, hkr⟩ := hrel
        have HJR := Lib.hid hjr
        have HKR := Lib.hid hkr
        clear hjr hkr
        by_cases hlt : j < l.length
        · obtain ⟨b, o, hbB, hA, hx⟩ := H7.out (by rintro rfl; simp at hlt)
          have hkw : ∀ b, b < B → wr.heap[b]? = w.heap[b]? := fun b hb => (HT.out.keep _ _ HJR.out b hb).trans (HT.out.keep _ _ HJ.out b hb).symm
          obtain ⟨k', n', s', A', len', cap', hat, hxj⟩ := hx.at2 j hlt
          have hat' := At.keep hat hbB hkw
          have hxr := IsEx.keep hkw hxj
          obtain ⟨e0, e1, e2, e3⟩ := hat'.four
          have hb1 : Below wr.heap.size wr (wr.alloc (.cells #[.int .u8 k', .int .i64 n', .string s', .slice A' len' cap'] 26)) := (Below.refl _ _).alloc (Nat.le_refl _) _
          have HJ2 := Lib.hid (HT.out.mono _ _ _ HJR.out hb1)
          have HX2 := Lib.hid (IsEx.keep (fun b hb => (HT.out.keep _ _ HJ2.out b hb).trans (HT.out.keep _ _ HJR.out b hb).symm) hxr)
          have HKA := Lib.hid (HKR.out.trans (Kp.of_below (O := O) (p := p) hb1))
          have HNT := Lib.hid (namesXs_take l j hlt)
          have hb2 : (T1 ++ namesXs (l.take j)).length + (namesX l[j]).length ≤ 2000 := by
            have h1 := namesXs_len_take l j hlt
            have h2 := congrArg List.length (namesXs_take l j hlt)
            simp only [List.length_append] at h2 ⊢
            omega
          subst hA
          clear hx hat hat' hxj hxr hkw hb1
          go_wp2_with (go_at_call 83; refine (HI.out l[j] (List.getElem_mem hlt) _ _ _ HX2.out HJ2.out hb2).mono ?_; rintro e w2 ⟨rfl, hj2, hk2⟩)
          go_roundw
          case rel => exact ⟨j + 1, by omega, by go_num, by rw [HNT.out, ← List.append_assoc]; exact hj2, HKA.out.trans hk2⟩
          case measure => simp [intOf]; omega
        · obtain rfl : j = l.length := by omega
          go_wp2_with fail
          go_end0
          have hz := HJR.out
          rw [List.take_length] at hz
          refine ⟨rfl, ?_, HKR.out⟩
          rw [HT1.out] at hz
          simpa [namesX, List.append_assoc] using hz
    · have hk4' : (kd == 4) = false := by simpa using hk4
      have hLs : told.length + (namesXs l).length ≤ 2000 := by have := HLS.out; rw [if_neg hk4] at this; simpa using this
      go_enter Try.func83, Try.ntmps83
      go_wp2_with fail
      obtain ⟨T1, hT1⟩ : ∃ T1, T1 = told := ⟨_, rfl⟩
      have HJW := Lib.hid HJ1.out
      have HKW := Lib.hid (Kp.of_below (O := O) (p := p) HB0.out)
      rw [← hT1] at HJW
      have HT1 := Lib.hid hT1
      have hT1l : T1.length + (namesXs l).length ≤ 2000 := by rw [hT1]; (try simp); omega
      clear hT1
      go_loopw [16] (fun i wr => ∃ j : Nat, j ≤ l.length ∧ i = .int .i64 j ∧ J (T1 ++ namesXs (l.take j)) wr ∧ Kp O p w wr) (fun i _ => l.length - (intOf i).toNat)
      case atStart => exact ⟨0, Nat.zero_le _, rfl, by simpa [namesXs] using HJW.out, HKW.out⟩
      case round =>
        obtain ⟨j, hj, rfl, hjr, hkr⟩ := hrel
        have HJR := Lib.hid hjr
        have HKR := Lib.hid hkr
        clear hjr hkr
        by_cases hlt : j < l.length
        · obtain ⟨b, o, hbB, hA, hx⟩ := H7.out (by rintro rfl; simp at hlt)
          have hkw : ∀ b, b < B → wr.heap[b]? = w.heap[b]? := fun b hb => (HT.out.keep _ _ HJR.out b hb).trans (HT.out.keep _ _ HJ.out b hb).symm
          obtain ⟨k', n', s', A', len', cap', hat, hxj⟩ := hx.at2 j hlt
          have hat' := At.keep hat hbB hkw
          have hxr := IsEx.keep hkw hxj
          obtain ⟨e0, e1, e2, e3⟩ := hat'.four
          have hb1 : Below wr.heap.size wr (wr.alloc (.cells #[.int .u8 k', .int .i64 n', .string s', .slice A' len' cap'] 26)) := (Below.refl _ _).alloc (Nat.le_refl _) _
          have HJ2 := Lib.hid (HT.out.mono _ _ _ HJR.out hb1)
          have HX2 := Lib.hid (IsEx.keep (fun b hb => (HT.out.keep _ _ HJ2.out b hb).trans (HT.out.keep _ _ HJR.out b hb).symm) hxr)
          have HKA := Lib.hid (HKR.out.trans (Kp.of_below (O := O) (p := p) hb1))
          have HNT := Lib.hid (namesXs_take l j hlt)
          have hb2 : (T1 ++ namesXs (l.take j)).length + (namesX l[j]).length ≤ 2000 := by
            have h1 := namesXs_len_take l j hlt
            have h2 := congrArg List.length (namesXs_take l j hlt)
            simp only [List.length_append] at h2 ⊢
            omega
          subst hA
          clear hx hat hat' hxj hxr hkw hb1
          go_wp2_with (go_at_call 83; refine (HI.out l[j] (List.getElem_mem hlt) _ _ _ HX2.out HJ2.out hb2).mono ?_; rintro e w2 ⟨rfl, hj2, hk2⟩)
          go_roundw
          case rel => exact ⟨j + 1, by omega, by go_num, by rw [HNT.out, ← List.append_assoc]; exact hj2, HKA.out.trans hk2⟩
          case measure => simp [intOf]; omega
        · obtain rfl : j = l.length := by omega
          go_wp2_with fail
          go_end0
          have hz := HJR.out
          rw [List.take_length] at hz
          refine ⟨rfl, ?_, HKR.out⟩
          rw [HT1.out] at hz
          simpa [namesX, hk4] using hz
end Go.Proofs.Ytnknefdpglnbnaa
