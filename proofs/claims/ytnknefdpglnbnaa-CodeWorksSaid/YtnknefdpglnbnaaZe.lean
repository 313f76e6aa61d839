/- Check, check, May, Size. -/
import Derived.Test.YtnknefdpglnbnaaZc
import Derived.Test.YtnknefdpglnbnaaZd
namespace Go.Proofs.Ytnknefdpglnbnaa
open Go.RowKit

/-- The first statement that may not be, counted from i; 0, 0: none. -/
def chk : List St → Nat → Nat × Nat
  | [], _ => (0, 0)
  | x :: l, i => if i = 512 then (512, 4) else if mayS x = true then chk l (i + 1) else (i, 160)
def mays (l : List (Int × St)) : Bool := l.all fun r => mayS r.2
theorem chk_may (l : List (Int × St)) (i : Nat) (h : mays l = true) (hi : i + l.length ≤ 512) : chk (l.map (·.2)) i = (0, 0) := by
  induction l generalizing i with
  | nil => rfl
  | cons x l ih =>
    simp only [mays, List.all_cons, Bool.and_eq_true] at h
    simp only [List.length_cons] at hi
    simp only [List.map_cons, chk]
    rw [if_neg (by omega), if_pos h.1]
    exact ih (i + 1) h.2 (by omega)
theorem chk_stop (l : List (Int × St)) (x : Int × St) (m : List (Int × St)) (i : Nat) (h : mays l = true) (hi : i + l.length ≤ 512) (hx : i + l.length = 512 ∨ mayS x.2 = false) :
    chk ((l ++ x :: m).map (·.2)) i = (i + l.length, if i + l.length = 512 then 4 else 160) := by
  induction l generalizing i with
  | nil =>
    simp only [List.nil_append, List.map_cons, chk, List.length_nil, Nat.add_zero] at *
    by_cases hc : i = 512
    · simp [hc]
    · have hf := hx.resolve_left hc
      simp [hc, hf]
  | cons y l ih =>
    simp only [mays, List.all_cons, Bool.and_eq_true] at h
    simp only [List.length_cons] at hi hx
    simp only [List.cons_append, List.map_cons, chk, List.length_cons]
    rw [if_neg (by omega), if_pos h.1, ih (i + 1) h.2 (by omega) (hx.imp (fun h => by omega) id), show i + 1 + l.length = i + (l.length + 1) by omega]
attribute [local go_sem] SV.g0 SV.g1 SV.g2 SV.g3 SV.g4 SV.g5 SV.g6 SV.g7 SV.g8 SV.g9 SV.g10 SV.g11 SV.g12 SV.g13 SV.g14 SV.g15 SV.g16
attribute [local irreducible] wpList
set_option maxRecDepth 100000 in
set_option maxHeartbeats 1000000 in
theorem chk1_long (s : SV) (d : Int) (w : World) (q1 q2 : Nat) (h1 : Blk w q1 3 (.int .i64 0)) (h2 : Blk w q2 35 (.int .i64 0)) (hq : q1 ≠ q2) :
    Calls Try.prog 75 #[.int .i64 512, .int .i64 d, .agg s.arr, .pointer (some ⟨q1, 0, Option.none⟩), .pointer (some ⟨q2, 0, Option.none⟩)] w fun e w' =>
      e = .returned (.bool false) ∧ Blk w' q1 3 (.int .i64 512) ∧ Blk w' q2 35 (.int .i64 4) ∧ Kp (fun b => b = q1 ∨ b = q2) q1 w w' := by
  have h17 := s.size
  have H1 := Lib.hid h1
  have H2 := Lib.hid h2
  have l1 := h1.lt
  have l2 := h2.lt
  have c1 := h1.cell
  have c2 := h2.cell
  have f1 := h1.free
  have f2 := h2.free
  obtain ⟨i0, hi, hz0, hz1, hz2⟩ := info_parts info58
  clear h1 h2
  go_enter Try.func75, Try.ntmps75
  go_wp2_with fail
  go_ret
  exact ⟨rfl, ((H1.out.set _).setOther hq _).alloc _, ((H2.out.setOther (Ne.symm hq) _).set _).alloc _, ((Kp.refl.set _ (.inl rfl) _).set _ (.inr rfl) _).alloc _⟩
set_option maxRecDepth 100000 in
set_option maxHeartbeats 1000000 in
theorem chk1_short (s : SV) (x : St) (d : Int) (k : Nat) (w : World) (B : Nat) (q1 q2 : Nat) (hk : k < 512) (hs : IsSt w B s x) (hB1 : B ≤ q1) (_hB2 : B ≤ q2) (h1 : Blk w q1 3 (.int .i64 0)) (h2 : Blk w q2 35 (.int .i64 0)) (hq : q1 ≠ q2) :
    Calls Try.prog 75 #[.int .i64 k, .int .i64 d, .agg s.arr, .pointer (some ⟨q1, 0, Option.none⟩), .pointer (some ⟨q2, 0, Option.none⟩)] w fun e w' =>
      ∃ ok : Bool, e = .returned (.bool ok) ∧ (ok = true → mayS x = true ∧ Below w.heap.size w w') ∧ (ok = false → mayS x = false ∧ Blk w' q1 3 (.int .i64 k) ∧ Blk w' q2 35 (.int .i64 160) ∧ Kp (fun b => b = q1 ∨ b = q2) q1 w w') := by
  have h17 := s.size
  have l1 := h1.lt
  have l2 := h2.lt
  obtain ⟨w0, hw0⟩ : ∃ w0, w0 = w.alloc (.cells s.arr 58) := ⟨_, rfl⟩
  have hb0 : Below w.heap.size w w0 := by rw [hw0]; exact (Below.refl _ _).alloc (Nat.le_refl _) _
  have HA := Lib.hid (show BlkN w0 w.heap.size 58 s.arr by rw [hw0]; exact BlkN.at_ rfl _ _)
  have HB0 := Lib.hid hb0
  have HS := Lib.hid (IsSt.keep (fun b hb => hb0.block b (by omega)) hs)
  have H1 := Lib.hid (h1.below hb0)
  have H2 := Lib.hid (h2.below hb0)
  have hdec : ((k : Int) == 512) = false := by rw [beq_eq_false_iff_ne]; omega
  obtain ⟨i0, hi, hz0, hz1, hz2⟩ := info_parts info58
  have hsz := hb0.size
  clear h1 h2 hs hb0
  have HC := Lib.hid (mayS_any s x w0 B (by omega) HS.out)
  go_enter Try.func75, Try.ntmps75
  go_upto_region 1 with (fail)
  rw [← hw0]
  clear hw0
  cases hm : mayS x
  · have HM := Lib.hid hm
    rw [hm] at HC
    clear hm
    go_wp2_with (first | (refine wpList_load_blk rfl 58 (.tmp 7) rfl ⟨w.heap.size, 0, Option.none⟩ rfl (.agg s.arr) (run_loadVar_blk Try.underlying58 hi HA.out (by rw [hz1]; rfl)) ?_) | (go_at_call 76; refine HC.out.mono ?_; rintro e w1 ⟨rfl, hb1⟩; have g1 := H1.out.below hb1; have g2 := H2.out.below hb1; have G1 := Lib.hid g1; have G2 := Lib.hid g2; have c1 := g1.cell; have c2 := g2.cell; have f1 := g1.free; have f2 := g2.free; have m1 := g1.lt; have m2 := g2.lt; clear g1 g2))
    go_ret
    exact ⟨false, rfl, (fun h => nomatch h), fun _ => ⟨HM.out, (G1.out.set _).setOther hq _, (G2.out.setOther (Ne.symm hq) _).set _, ((Kp.of_below (HB0.out.trans (hb1.mono hsz))).set _ (.inl rfl) _).set _ (.inr rfl) _⟩⟩
  · have HM := Lib.hid hm
    rw [hm] at HC
    clear hm
    go_wp2_with (first | (refine wpList_load_blk rfl 58 (.tmp 7) rfl ⟨w.heap.size, 0, Option.none⟩ rfl (.agg s.arr) (run_loadVar_blk Try.underlying58 hi HA.out (by rw [hz1]; rfl)) ?_) | (go_at_call 76; refine HC.out.mono ?_; rintro e w1 ⟨rfl, hb1⟩; have g2 := H2.out.below hb1; have c2 := g2.cell; clear g2))
    go_ret
    exact ⟨true, rfl, fun _ => ⟨HM.out, HB0.out.trans (hb1.mono hsz)⟩, (fun h => nomatch h)⟩
/-- What holds while all were well, and where the first was not. -/
def ChkI (q1 q2 p : Nat) (w0 : World) (told : List (Int × St)) (w : World) : Prop :=
  mays told = true ∧ told.length ≤ 512 ∧ Blk w q1 3 (.int .i64 0) ∧ Blk w q2 35 (.int .i64 0) ∧ Kp (fun b => b = q1 ∨ b = q2) p w0 w
def ChkS (q1 q2 p : Nat) (w0 : World) (told : List (Int × St)) (w : World) : Prop :=
  ∃ l x, told = l ++ [x] ∧ mays l = true ∧ l.length ≤ 512 ∧ (l.length = 512 ∨ mayS x.2 = false) ∧ Blk w q1 3 (.int .i64 (l.length : Nat)) ∧ Blk w q2 35 (.int .i64 ((if l.length = 512 then 4 else 160 : Nat) : Int)) ∧ Kp (fun b => b = q1 ∨ b = q2) p w0 w
theorem cf75 (args : Array Value) (w : World) : (callFunc 75 args).run Try.prog w = .ok (.enter 75 args) w := by go_simp
theorem chk_teller (q1 q2 B p : Nat) (w0 : World) (h1 : q1 < w0.heap.size) (h2 : q2 < w0.heap.size) (hq : q1 ≠ q2) (hp1 : p ≠ q1) (hp2 : p ≠ q2) (hB1 : B ≤ q1) (hB2 : B ≤ q2) (hBp : B ≤ p) (hp : p < w0.heap.size) :
    Teller 75 #[.pointer (some ⟨q1, 0, Option.none⟩), .pointer (some ⟨q2, 0, Option.none⟩)] (fun b => b = q1 ∨ b = q2) (ChkI q1 q2 p w0) (ChkS q1 q2 p w0) B p w0 where
  cf := cf75
  own := by rintro b (rfl | rfl) <;> assumption
  ownp := by rintro (rfl | rfl) <;> simp at *
  size := fun told w h => h.2.2.2.2.size
  keep := fun told w h b hb => h.2.2.2.2.block b (by omega) (by rintro (rfl | rfl) <;> omega) (by omega)
  mono := fun told w w' ⟨a1, a2, a3, a4, a5⟩ hu => ⟨a1, a2, hu.blk a3 (Ne.symm hp1), hu.blk a4 (Ne.symm hp2), a5.upd hu⟩
  call := by
    rintro told d x s w ⟨a1, a2, a3, a4, a5⟩ hs hlen hd0 hd1
    have hsz := a5.size
    by_cases hk : told.length = 512
    · rw [hk]
      refine (chk1_long s d w q1 q2 a3 a4 hq).mono ?_
      rintro e w' ⟨rfl, b1, b2, b3⟩
      exact ⟨⟨false, rfl, (fun h => nomatch h), fun _ => ⟨told, (d, x), rfl, a1, a2, .inl hk, by rw [hk]; exact b1, by rw [if_pos hk]; exact b2, a5.trans (b3.own (.inl rfl))⟩⟩, b3.block p (by omega) (by rintro (rfl | rfl) <;> omega) hp1, b3.own (.inl rfl)⟩
    · refine (chk1_short s x d told.length w B q1 q2 (by omega) hs hB1 hB2 a3 a4 hq).mono ?_
      rintro e w' ⟨ok, rfl, c1, c2⟩
      cases ok with
      | true =>
        obtain ⟨m1, m2⟩ := c1 rfl
        exact ⟨⟨true, rfl, fun _ => ⟨by simp [mays] at a1 ⊢; exact ⟨a1, m1⟩, by simp; omega, a3.below m2, a4.below m2, a5.trans (Kp.of_below m2)⟩, (fun h => nomatch h)⟩, m2.block p (by omega), Kp.of_below m2⟩
      | false =>
        obtain ⟨m1, b1, b2, b3⟩ := c2 rfl
        exact ⟨⟨false, rfl, (fun h => nomatch h), fun _ => ⟨told, (d, x), rfl, a1, a2, .inr m1, b1, by rw [if_neg hk]; exact b2, a5.trans (b3.own (.inl rfl))⟩⟩, b3.block p (by omega) (by rintro (rfl | rfl) <;> omega) hp1, b3.own (.inl rfl)⟩
/-- What Check says of a code. -/
def chkL (l : List St) : Nat × Nat := chk ((flats l 0).map (·.2)) 0
theorem chk_post {q1 q2 p : Nat} {w0 w : World} {F : List (Int × St)} {e : Ending} {O : Nat → Prop} {l : List St} (hF : F = flats l 0) (h : WPost O (ChkI q1 q2 p w0) (ChkS q1 q2 p w0) p w0 [] F e w) :
    ∃ ok : Bool, e = .returned (.bool ok) ∧ Blk w q1 3 (.int .i64 ((chkL l).1 : Nat)) ∧ Blk w q2 35 (.int .i64 ((chkL l).2 : Nat)) ∧ Kp (fun b => b = q1 ∨ b = q2) p w0 w := by
  obtain ⟨ok, he, h1, h2⟩ := h
  refine ⟨ok, he, ?_⟩
  unfold chkL
  rw [← hF]
  cases ok with
  | true =>
    obtain ⟨⟨a1, a2, a3, a4, a5⟩, _⟩ := h1 rfl
    rw [List.nil_append] at a1 a2
    rw [chk_may F 0 a1 (by omega)]
    exact ⟨a3, a4, a5⟩
  | false =>
    obtain ⟨m, hm, h3⟩ := h2 rfl
    rcases h3 with ⟨l', x, e1, a1, a2, a3, a4, a5, a6⟩ | ⟨h3, a1, a2, _⟩
    · rw [List.nil_append] at e1
      have e2 : F = l' ++ x :: F.drop (m + 1) := by
        conv => lhs; rw [← List.take_append_drop (m + 1) F, e1]
        simp
      rw [e2, chk_stop l' x _ 0 a1 (by omega) (by simpa using a3), Nat.zero_add]
      exact ⟨a4, a5, a6⟩
    · simp at a2 h3; omega
set_option maxRecDepth 100000 in
set_option maxHeartbeats 1000000 in
theorem Check_any (l : List St) (A : Option Addr) (len cap : Nat) (w : World) (B : Nat) (hB : B ≤ w.heap.size) (h : LR (fun b _ => b < B) 256 A len cap l (fun b o => IsSts w B b o l)) :
    Calls Try.prog 28 #[.slice A len cap] w fun e w' => e = .returned (.tuple #[.int .i64 ((chkL l).1 : Nat), .int .i64 ((chkL l).2 : Nat)]) ∧ Below w.heap.size w w' := by
  have HH := Lib.hid h
  clear h
  go_enter Try.func28, Try.ntmps28
  go_upto_region 2 with (fail)
  obtain ⟨w0, hw0⟩ : ∃ w0, w0 = ((w.alloc (.cells #[.int .i64 0] 3)).alloc (.cells #[.int .i64 0] 35)).alloc (.cells #[.int .i64 0] 3) := ⟨_, rfl⟩
  have hb0 : Below w.heap.size w w0 := by rw [hw0]; exact (((Below.refl _ _).alloc (Nat.le_refl _) _).alloc (by simp) _).alloc (by simp; omega) _
  have k1 : Blk w0 w.heap.size 3 (.int .i64 0) := by rw [hw0]; exact ((Blk.at_ rfl _ _).alloc _).alloc _
  have k2 : Blk w0 (w.heap.size + 1) 35 (.int .i64 0) := by rw [hw0]; exact (Blk.at_ (by simp) _ _).alloc _
  have k3 : Blk w0 (w.heap.size + 1 + 1) 3 (.int .i64 0) := by rw [hw0]; exact Blk.at_ (by simp) _ _
  rw [← hw0]
  have hT := chk_teller w.heap.size (w.heap.size + 1) B (w.heap.size + 1 + 1) w0 k1.lt k2.lt (by omega) (by omega) (by omega) (by omega) (by omega) (by omega) k3.lt
  have HW := Lib.hid (walk_any 75 _ _ _ _ B _ w0 hT (by omega) l w0 A len cap 0 [] (HH.out.imp fun b o hr hp => ⟨hr, IsSts.keep (fun b hb => hb0.block b (by omega)) hr hp⟩) ⟨rfl, by simp, k1, k2, Kp.refl⟩ (by simpa using k3) (by omega) (by simp) (by simp))
  have HB0 := Lib.hid hb0
  clear hw0 hT k1 k2 k3 hb0
  go_wp2_with (go_at_call 74; refine HW.out.mono ?_; rintro e w1 hP; obtain ⟨ok, rfl, c1, c2, c3⟩ := chk_post rfl hP; clear hP)
  obtain ⟨va, hva⟩ : ∃ va, va = (chkL l).1 := ⟨_, rfl⟩
  obtain ⟨ve, hve⟩ : ∃ ve, ve = (chkL l).2 := ⟨_, rfl⟩
  rw [← hva] at c1
  rw [← hve] at c2
  have HVA := Lib.hid hva
  have HVE := Lib.hid hve
  clear hva hve
  have C1 := Lib.hid c1
  have C2 := Lib.hid c2
  have C3 := Lib.hid c3
  have d1 := c1.cell
  have d2 := c2.cell
  have f1 := c1.free
  have f2 := c2.free
  clear c1 c2 c3
  go_region
  go_wp2_with fail
  have e1 : w.heap.size ≠ w.heap.size + 1 := by omega
  have D1 := ((C1.out.set (.int .i64 va)).setOther (q := ⟨w.heap.size + 1, 0, Option.none⟩) e1 (.int .i64 ve)).cell
  have D2 := ((C2.out.setOther (q := ⟨w.heap.size, 0, Option.none⟩) (Ne.symm e1) (.int .i64 va)).set (.int .i64 ve)).cell
  have hb1 : Below w.heap.size w w1 := ⟨C3.out.os.trans HB0.out.os, C3.out.tape.trans HB0.out.tape, C3.out.output.trans HB0.out.output, Nat.le_trans HB0.out.size C3.out.size, fun k hk => (C3.out.block k (Nat.lt_of_lt_of_le hk HB0.out.size) (by rintro (rfl | rfl) <;> omega) (by omega)).trans (HB0.out.block k (by omega))⟩
  exact bodyPost_ret (v := .tuple #[.int .i64 va, .int .i64 ve]) (by simp [results, Try.results28, go_sem, D1, D2]) rfl ⟨by rw [HVA.out, HVE.out], ((hb1.setCell (by simp) _).setCell (by simp) _).drew⟩
set_option maxHeartbeats 1000000 in
theorem check_any (l : List St) (A : Option Addr) (len cap : Nat) (w : World) (B : Nat) (hB : B ≤ w.heap.size) (h : LR (fun b _ => b < B) 256 A len cap l (fun b o => IsSts w B b o l)) :
    Calls Try.prog 78 #[.slice A len cap] w fun e w' => e = .returned (.int .i64 ((chkL l).2 : Nat)) ∧ Below w.heap.size w w' := by
  have HH := Lib.hid h
  clear h
  go_enter Try.func78, Try.ntmps78
  go_wp2_with (go_at_call 28; refine (Check_any l A len cap _ B hB HH.out).mono ?_; rintro e w1 ⟨rfl, hb1⟩)
  go_ret
  exact ⟨rfl, hb1⟩
set_option maxHeartbeats 1000000 in
theorem May_any (l : List St) (A : Option Addr) (len cap : Nat) (w : World) (B : Nat) (hB : B ≤ w.heap.size) (h : LR (fun b _ => b < B) 256 A len cap l (fun b o => IsSts w B b o l)) :
    Calls Try.prog 30 #[.slice A len cap] w fun e w' => e = .returned (.bool (((chkL l).2 : Int) == 0)) ∧ Below w.heap.size w w' := by
  have HH := Lib.hid h
  clear h
  go_enter Try.func30, Try.ntmps30
  go_wp2_with (go_at_call 78; refine (check_any l A len cap _ B hB HH.out).mono ?_; rintro e w1 ⟨rfl, hb1⟩)
  go_ret
  exact ⟨rfl, hb1⟩
end Go.Proofs.Ytnknefdpglnbnaa
