/- Uses. Size. -/
import Derived.Test.YtnknefdpglnbnaaZf
namespace Go.Proofs.Ytnknefdpglnbnaa
open Go.RowKit

structure US where
  (a : Int)
  (m r : Bool)
def US.arr (u : US) : Array Value := #[.int .u8 u.a, .bool u.m, .bool u.r]
def usesStep (u : US) : St → US
  | .mk op _ _ ab _ a _ _ _ _ _ => if op = 2 then { u with a := joinI u.a ab } else if op = 9 then { u with a := joinI u.a 1 } else if op = 3 then { u with m := true } else if op = 7 then { u with r := u.r || !(namesX a).isEmpty } else u
def usesF (l : List (Int × St)) : US := l.foldl (fun u x => usesStep u x.2) ⟨0, false, false⟩
theorem joinI_f : ∀ a b : Fin 64, 0 ≤ bits .or .u8 (bits .or .u8 0 ((a.1 : Nat) : Int)) ((b.1 : Nat) : Int) ∧ bits .or .u8 (bits .or .u8 0 ((a.1 : Nat) : Int)) ((b.1 : Nat) : Int) < 64 := by decide +kernel
theorem joinI_lt (x y : Int) : 0 ≤ joinI x y ∧ joinI x y < 64 := by
  have h := joinI_f ⟨(x % 64).toNat, by omega⟩ ⟨(y % 64).toNat, by omega⟩
  unfold joinI
  rw [show (((x % 64).toNat : Nat) : Int) = x % 64 from by omega, show (((y % 64).toNat : Nat) : Int) = y % 64 from by omega] at h
  exact h
def US.ok (u : US) : Prop := 0 ≤ u.a ∧ u.a < 64
theorem usesStep_ok (u : US) (x : St) (h : u.ok) : (usesStep u x).ok := by
  obtain ⟨op, nm, sec, ab, wh, a, b, t, e, c, ws⟩ := x
  simp only [usesStep]
  split
  · exact joinI_lt _ _
  · split
    · exact joinI_lt _ _
    · split
      · exact h
      · split <;> exact h
theorem usesF_ok (l : List (Int × St)) : (usesF l).ok := by
  unfold usesF
  suffices ∀ u : US, u.ok → (l.foldl (fun u x => usesStep u x.2) u).ok from this _ ⟨by decide, by decide⟩
  induction l with
  | nil => exact fun u h => h
  | cons x l ih => exact fun u h => ih _ (usesStep_ok u x.2 h)
theorem usesF_snoc (l : List (Int × St)) (x : Int × St) : usesF (l ++ [x]) = usesStep (usesF l) x.2 := by simp [usesF]
theorem cf84 (args : Array Value) (w : World) : (callFunc 84 args).run Try.prog w = .ok (.enter 84 args) w := by go_simp
theorem cf81 (args : Array Value) (w : World) : (callFunc 81 args).run Try.prog w = .ok (.enter 81 args) w := by go_simp
def UJ (q : Nat) (u : US) (w0 : World) (names : List ByteArray) (w : World) : Prop := BlkN w q 51 ({ u with r := u.r || !names.isEmpty } : US).arr ∧ Kp (fun b => b = q) q w0 w
theorem uj_teller (q B : Nat) (u : US) (w0 : World) (hq : q < w0.heap.size) (hB : B ≤ q) : NTeller 84 #[.pointer (some ⟨q, 0, Option.none⟩)] (fun b => b = q) (UJ q u w0) B q w0 where
  cf := cf84
  own := by rintro b rfl; exact hq
  ownp := rfl
  size := fun told w h => h.2.size
  keep := fun told w h b hb => h.2.block b (by omega) (by omega) (by omega)
  mono := fun told w w' h hb => ⟨h.1.below hb, h.2.trans (Kp.of_below hb)⟩
  call := by
    rintro told s w ⟨h1, h2⟩
    refine (uses11_any s w q _ _ _ h1).mono ?_
    rintro e w' ⟨rfl, rfl⟩
    refine ⟨rfl, ⟨?_, h2.set _ rfl _⟩, (Kp.refl (O := fun b => b = q) (p := q)).set _ rfl _⟩
    have := h1.set 2 (.bool true)
    have e : u.arr.setIfInBounds 2 (.bool true) = ({ u with r := u.r || !(told ++ [s]).isEmpty } : US).arr := by simp [US.arr]
    rw [← e]
    exact this
attribute [local go_sem] SV.g0 SV.g1 SV.g2 SV.g3 SV.g4 SV.g5 SV.g6 SV.g7 SV.g8 SV.g9 SV.g10 SV.g11 SV.g12 SV.g13 SV.g14 SV.g15 SV.g16
set_option maxRecDepth 100000 in
set_option maxHeartbeats 1000000 in
theorem uses1_any (s : SV) (x : St) (k d : Int) (u : US) (hu : u.ok) (w : World) (B q : Nat) (hs : IsSt w B s x) (hB : B ≤ q) (h : BlkN w q 51 u.arr) :
    Calls Try.prog 81 #[.int .i64 k, .int .i64 d, .agg s.arr, .pointer (some ⟨q, 0, Option.none⟩)] w fun e w' => e = .returned (.bool true) ∧ BlkN w' q 51 (usesStep u x).arr ∧ Kp (fun b => b = q) q w w' := by
  have h17 := s.size
  obtain ⟨op, nm, sec, ab, wh, xa, xb, t, e, c, ws⟩ := x
  obtain ⟨⟨g1, g2, g3, g4, g5⟩, ⟨b1, b2, b3, b4, b5, b6, b7, b8⟩, ha, _⟩ := hs.form
  have hb0 : Below w.heap.size w (w.alloc (.cells s.arr 58)) := (Below.refl _ _).alloc (Nat.le_refl _) _
  have hqlt := h.lt
  have H0 := Lib.hid h
  have H1 : Hid (BlkN (w.alloc (.cells s.arr 58)) q 51 u.arr) := Lib.hid (h.alloc _)
  have HK1 : Hid (Kp (fun b => b = q) q w (w.alloc (.cells s.arr 58))) := Lib.hid (Kp.of_below hb0)
  have HA1 := Lib.hid (IsEx.keep (w' := w.alloc (.cells s.arr 58)) (fun b hb => hb0.block b (by omega)) ha)
  obtain ⟨ua, um, ur⟩ := u
  obtain ⟨u0, u1⟩ := hu
  simp only at u0 u1
  have r0 : w.cell? ⟨q, 0, Option.none⟩ = some (.int .u8 ua) := h.cell 0 rfl
  have r1 : w.cell? ⟨q, 1, Option.none⟩ = some (.bool um) := h.cell 1 rfl
  have r2 : w.cell? ⟨q, 2, Option.none⟩ = some (.bool ur) := h.cell 2 rfl
  have f0 := h.free 0
  have f1 := h.free 1
  have f2 := h.free 2
  have G4 := Lib.hid g4
  clear h hs ha hb0 g2 g3 g4 g5
  by_cases k2 : op = 2
  · have t2 : (s.op == 2) = true := by rw [g1, k2]; rfl
    clear g1
    go_enter Try.func81, Try.ntmps81
    go_wp2_with (go_at_call 82; refine (join2_any ua s.ab u0 (by omega) (by rw [G4.out]; exact b3) (by rw [G4.out]; exact b4) _ _ (BlkN.at_ (by simp) _ _)).mono ?_; rintro e w1 ⟨rfl, rfl⟩)
    go_ret
    rw [show usesStep ⟨ua, um, ur⟩ (.mk op nm sec ab wh xa xb t e c ws) = ⟨joinI ua s.ab, um, ur⟩ from by simp [usesStep, k2, G4.out]]
    exact ⟨rfl, ((H0.out.set 0 (.int .u8 (joinI ua s.ab))).alloc _).alloc _, (((Kp.refl (O := fun b => b = q) (p := q)).set ⟨q, 0, Option.none⟩ rfl (.int .u8 (joinI ua s.ab))).alloc _).alloc _⟩
  have t2 : (s.op == 2) = false := by rw [g1]; simpa using k2
  by_cases k9 : op = 9
  · have t9 : (s.op == 9) = true := by rw [g1, k9]; rfl
    clear g1
    go_enter Try.func81, Try.ntmps81
    go_wp2_with (go_at_call 82; refine (join2_any ua 1 u0 (by omega) (by omega) (by omega) _ _ (BlkN.at_ (by simp) _ _)).mono ?_; rintro e w1 ⟨rfl, rfl⟩)
    go_ret
    rw [show usesStep ⟨ua, um, ur⟩ (.mk op nm sec ab wh xa xb t e c ws) = ⟨joinI ua 1, um, ur⟩ from by simp [usesStep, k9]]
    exact ⟨rfl, ((H0.out.set 0 (.int .u8 (joinI ua 1))).alloc _).alloc _, (((Kp.refl (O := fun b => b = q) (p := q)).set ⟨q, 0, Option.none⟩ rfl (.int .u8 (joinI ua 1))).alloc _).alloc _⟩
  have t9 : (s.op == 9) = false := by rw [g1]; simpa using k9
  by_cases k3 : op = 3
  · have t3 : (s.op == 3) = true := by rw [g1, k3]; rfl
    clear g1
    go_enter Try.func81, Try.ntmps81
    go_wp2_with fail
    go_ret
    rw [show usesStep ⟨ua, um, ur⟩ (.mk op nm sec ab wh xa xb t e c ws) = ⟨ua, true, ur⟩ from by simp [usesStep, k3]]
    exact ⟨rfl, (H0.out.set 1 (.bool true)).alloc _, ((Kp.refl (O := fun b => b = q) (p := q)).set ⟨q, 1, Option.none⟩ rfl (.bool true)).alloc _⟩
  have t3 : (s.op == 3) = false := by rw [g1]; simpa using k3
  by_cases k7 : op = 7
  · have t7 : (s.op == 7) = true := by rw [g1, k7]; rfl
    clear g1
    have hlt : w.heap.size < (w.alloc (.cells s.arr 58)).heap.size := by simp
    have HN := Lib.hid (names_any 84 _ _ _ B q _ (uj_teller q B ⟨ua, um, ur⟩ (w.alloc (.cells s.arr 58)) (by simp; omega) hB) (by simp; omega) xa _ _ [] HA1.out ⟨by simpa [US.arr] using H1.out, Kp.refl⟩)
    go_enter Try.func81, Try.ntmps81
    go_wp2_with (go_at_call 83; refine (HN.out).mono ?_; rintro e w1 ⟨rfl, ⟨hj1, hj2⟩, hj3⟩)
    go_ret
    rw [show usesStep ⟨ua, um, ur⟩ (.mk op nm sec ab wh xa xb t e c ws) = ⟨ua, um, ur || !(namesX xa).isEmpty⟩ from by simp [usesStep, k7]]
    exact ⟨rfl, hj1, HK1.out.trans hj2⟩
  · have t7 : (s.op == 7) = false := by rw [g1]; simpa using k7
    clear g1
    go_enter Try.func81, Try.ntmps81
    go_wp2_with fail
    go_ret
    exact ⟨rfl, by simp only [usesStep, k2, k9, k3, k7, if_false]; exact H1.out, HK1.out⟩
theorem chk_zero (L : List St) (i : Nat) (hi : i ≤ 512) (h : (chk L i).2 = 0) : i + L.length ≤ 512 := by
  induction L generalizing i with
  | nil => simpa using hi
  | cons x l ih =>
    simp only [chk] at h
    split at h
    · simp at h
    · split at h
      · have := ih (i + 1) (by omega) h
        simp; omega
      · simp at h
theorem info51 : (Try.prog.info? 51).map (fun i => (i.zero, i.size, i.bytes)) = some (some (.agg #[.int .u8 0, .bool false, .bool false]), 3, 3) := by kernel_rfl
theorem US.one (u : US) : ∀ v ∈ u.arr.toList, v.oneCell' = true := by
  intro v hv
  simp only [US.arr, List.mem_cons, List.not_mem_nil, or_false] at hv
  rcases hv with rfl | rfl | rfl <;> rfl
def UI (q p : Nat) (w0 : World) (told : List (Int × St)) (w : World) : Prop := BlkN w q 51 (usesF told).arr ∧ Kp (fun b => b = q) p w0 w
theorem uses_teller (q B p : Nat) (w0 : World) (hq : q < w0.heap.size) (hp : p ≠ q) (hB : B ≤ q) (hBp : B ≤ p) (hpl : p < w0.heap.size) :
    Teller 81 #[.pointer (some ⟨q, 0, Option.none⟩)] (fun b => b = q) (UI q p w0) (fun _ _ => False) B p w0 where
  cf := cf81
  own := by rintro b rfl; exact hq
  ownp := hp
  size := fun told w h => h.2.size
  keep := fun told w h b hb => h.2.block b (by omega) (by omega) (by omega)
  mono := fun told w w' h hu => ⟨BlkN.upd hu h.1 (Ne.symm hp), h.2.upd hu⟩
  call := by
    rintro told d x s w ⟨h1, h2⟩ hs hlen hd0 hd1
    have hsz := h2.size
    refine (uses1_any s x _ d _ (usesF_ok told) w B q hs hB h1).mono ?_
    rintro e w' ⟨rfl, g1, g2⟩
    exact ⟨⟨true, rfl, fun _ => ⟨by rw [usesF_snoc]; exact g1, h2.trans (g2.own rfl)⟩, (fun h => nomatch h)⟩, g2.block p (by omega) hp hp, g2.own rfl⟩
def usesL (l : List St) : US := if (chkL l).2 = 0 then usesF (flats l 0) else ⟨0, false, false⟩
set_option maxRecDepth 100000 in
set_option maxHeartbeats 1000000 in
theorem Uses_any (l : List St) (A : Option Addr) (len cap : Nat) (w : World) (B : Nat) (hB : B ≤ w.heap.size) (h : LR (fun b _ => b < B) 256 A len cap l (fun b o => IsSts w B b o l)) :
    Calls Try.prog 35 #[.slice A len cap] w fun e w' => e = .returned (.tuple #[.agg (usesL l).arr, .int .i64 ((chkL l).2 : Nat)]) ∧ Below w.heap.size w w' := by
  obtain ⟨i0, hi, hz0, hz1, hz2⟩ := info_parts info51
  have hb0 : Below w.heap.size w (w.alloc (.cells (⟨0, false, false⟩ : US).arr 51)) := (Below.refl _ _).alloc (Nat.le_refl _) _
  have HH := Lib.hid (h.imp fun b o hr hp => ⟨hr, IsSts.keep (fun b hb => hb0.block b (by omega)) hr hp⟩)
  have HQ : Hid (BlkN (w.alloc (.cells (⟨0, false, false⟩ : US).arr 51)) w.heap.size 51 (⟨0, false, false⟩ : US).arr) := Lib.hid (BlkN.at_ rfl _ _)
  have HB0 := Lib.hid hb0
  clear h hb0
  have HC := Lib.hid (check_any l A len cap _ B (by simp; omega) HH.out)
  by_cases hz : (chkL l).2 = 0
  · have HZ := Lib.hid hz
    rw [hz] at HC
    clear hz
    go_enter Try.func35, Try.ntmps35
    go_upto_region 5 with (go_at_call 78; refine (HC.out).mono ?_; rintro e w1 ⟨rfl, hb1⟩)
    have hq1 := HQ.out.below hb1
    have hb2 : Below w.heap.size w w1 := HB0.out.trans (hb1.mono (by simp))
    obtain ⟨w2, hw2⟩ : ∃ w2, w2 = w1.alloc (.cells #[.int .i64 0] 3) := ⟨_, rfl⟩
    have hp2 : Blk w2 w1.heap.size 3 (.int .i64 0) := by rw [hw2]; exact Blk.at_ rfl _ _
    have hq2 : BlkN w2 w.heap.size 51 (⟨0, false, false⟩ : US).arr := by rw [hw2]; exact hq1.alloc _
    have hb3 : Below w.heap.size w w2 := by rw [hw2]; exact hb2.alloc hb2.size _
    rw [← hw2]
    have hlt := hq1.lt
    have hT := uses_teller w.heap.size B w1.heap.size w2 hq2.lt (by omega) hB (by omega) hp2.lt
    have HW := Lib.hid (walk_any 81 _ _ _ _ B _ w2 hT (by omega) l w2 A len cap 0 [] (HH.out.imp fun b o hr hp => ⟨hr, IsSts.keep (fun b hb => (hb3.block b (by omega)).trans (HB0.out.block b (by omega)).symm) hr hp⟩) ⟨hq2, Kp.refl⟩ (by simpa using hp2) (by omega) (by simp) (by simp))
    have HB3 := Lib.hid hb3
    have HLT := Lib.hid hlt
    have hlen : (flats l 0).length ≤ 512 := by
      have := chk_zero _ 0 (by omega) HZ.out
      simpa using this
    have HL := Lib.hid hlen
    clear hT hw2 hp2 hq2 hb2 hb3 hb1 hq1 hlt hlen
    go_upto_region 6 with (go_at_call 74; refine HW.out.mono ?_; rintro e w3 ⟨ok, rfl, h1, h2⟩)
    have hok : ok = true := by
      cases ok with
      | true => rfl
      | false =>
        obtain ⟨m, hm, h3⟩ := h2 rfl
        have := HL.out
        rcases h3 with h3 | ⟨h3, _⟩
        · exact h3.elim
        · simp at h3; omega
    obtain ⟨⟨k1, k2⟩, _⟩ := h1 hok
    rw [List.nil_append] at k1
    have K1 := Lib.hid k1
    have K2 := Lib.hid k2
    clear h1 h2 k1 k2
    go_wp2_with (first | (refine wpList_load_blk rfl 51 (.tmp 2) rfl ⟨w.heap.size, 0, Option.none⟩ rfl (.agg (usesF (flats l 0)).arr) (run_loadVar_blk Try.underlying51 hi K1.out (by rw [hz1]; rfl)) ?_) | (refine wpList_store_blk rfl 51 (.tmp 2) (.tmp 14) rfl i0 hi w.heap.size (usesF (flats l 0)).arr rfl rfl 51 _ K1.out (by rw [hz1]; rfl) rfl (US.one _) ?_; intro w4 hB4 hbut))
    have hb4 : Below w.heap.size w w4 := by
      have hb3' : Below w.heap.size w w3 := ⟨K2.out.os.trans HB3.out.os, K2.out.tape.trans HB3.out.tape, K2.out.output.trans HB3.out.output, Nat.le_trans HB3.out.size K2.out.size, fun k hk => (K2.out.block k (Nat.lt_of_lt_of_le hk HB3.out.size) (by omega) (by have := HLT.out; omega)).trans (HB3.out.block k hk)⟩
      exact hbut.below (Nat.le_refl _) hb3'
    refine bodyPost_ret (results_cell2 (s := 2) (t := 3) (b := w.heap.size) rfl Try.underlying51 hi rfl hB4 (by rw [hz1]; rfl) rfl) rfl ⟨?_, hb4⟩
    rw [HZ.out]
    simp only [usesL, HZ.out, if_true]
    rfl
  · have HZ := Lib.hid hz
    have hne : (((chkL l).2 : Int) == 0) = false := by rw [beq_eq_false_iff_ne]; omega
    have hne2 : (((chkL l).2 : Int) != 0) = true := by rw [bne, hne]; rfl
    obtain ⟨ve, hve⟩ : ∃ ve, ve = (chkL l).2 := ⟨_, rfl⟩
    rw [← hve] at HC hne hne2
    have HVE := Lib.hid hve
    clear hz hve
    go_enter Try.func35, Try.ntmps35
    go_wp2_with (first | (go_at_call 78; refine (HC.out).mono ?_; rintro e w1 ⟨rfl, hb1⟩; have hq1 := HQ.out.below hb1) | (refine wpList_store_blk rfl 51 (.tmp 2) (.tmp 9) rfl i0 hi w.heap.size (⟨0, false, false⟩ : US).arr rfl rfl 51 _ hq1 (by rw [hz1]; rfl) rfl (US.one _) ?_; intro w4 hB4 hbut))
    refine bodyPost_ret (results_cell2 (s := 2) (t := 3) (b := w.heap.size) rfl Try.underlying51 hi rfl hB4 (by rw [hz1]; rfl) rfl) rfl ⟨?_, hbut.below (Nat.le_refl _) (HB0.out.trans (hb1.mono (by simp)))⟩
    simp only [usesL, if_neg HZ.out]
    rw [← HVE.out]
    rfl
end Go.Proofs.Ytnknefdpglnbnaa
namespace Go.Proofs.Ytnknefdpglnbnaa
open Go.RowKit

theorem cf79 (args : Array Value) (w : World) : (callFunc 79 args).run Try.prog w = .ok (.enter 79 args) w := by go_simp
attribute [local go_sem] SV.g0 SV.g1 SV.g2 SV.g3 SV.g4 SV.g5 SV.g6 SV.g7 SV.g8 SV.g9 SV.g10 SV.g11 SV.g12 SV.g13 SV.g14 SV.g15 SV.g16
set_option maxHeartbeats 1000000 in
theorem size1_any (s : SV) (k d : Int) (w : World) : Calls Try.prog 79 #[.int .i64 k, .int .i64 d, .agg s.arr] w fun e w' => e = .returned (.bool true) ∧ Below w.heap.size w w' := by
  have h17 := s.size
  go_enter Try.func79, Try.ntmps79
  go_wp2_with fail
  go_ret
  exact ⟨rfl, (Below.refl _ _).alloc (Nat.le_refl _) _⟩
def SI (p : Nat) (w0 : World) (_ : List (Int × St)) (w : World) : Prop := Kp (fun _ => False) p w0 w
theorem size_teller (B p : Nat) (w0 : World) (hBp : B ≤ p) (hpl : p < w0.heap.size) : Teller 79 #[] (fun _ => False) (SI p w0) (fun _ _ => False) B p w0 where
  cf := cf79
  own := fun b h => h.elim
  ownp := fun h => h
  size := fun told w h => Kp.size h
  keep := fun told w h b hb => Kp.block h b (by omega) (fun h => h) (by omega)
  mono := fun told w w' h hu => Kp.upd h hu
  call := by
    rintro told d x s w h hs hlen hd0 hd1
    have hsz := Kp.size h
    refine (size1_any s _ d w).mono ?_
    rintro e w' ⟨rfl, g⟩
    exact ⟨⟨true, rfl, fun _ => Kp.trans h (Kp.of_below g), (fun h => nomatch h)⟩, g.block p (by omega), Kp.of_below g⟩
def sizeL (l : List St) : Nat := if (chkL l).2 = 0 then (flats l 0).length else 0
set_option maxRecDepth 100000 in
set_option maxHeartbeats 1000000 in
theorem Size_any (l : List St) (A : Option Addr) (len cap : Nat) (w : World) (B : Nat) (hB : B ≤ w.heap.size) (h : LR (fun b _ => b < B) 256 A len cap l (fun b o => IsSts w B b o l)) :
    Calls Try.prog 32 #[.slice A len cap] w fun e w' => e = .returned (.int .i64 (sizeL l : Nat)) ∧ Below w.heap.size w w' := by
  have HH := Lib.hid h
  clear h
  have HC := Lib.hid (May_any l A len cap _ B hB HH.out)
  by_cases hz : (chkL l).2 = 0
  · have HZ := Lib.hid hz
    rw [hz] at HC
    clear hz
    go_enter Try.func32, Try.ntmps32
    go_upto_region 4 with (go_at_call 30; refine (HC.out).mono ?_; rintro e w1 ⟨rfl, hb1⟩)
    obtain ⟨w2, hw2⟩ : ∃ w2, w2 = w1.alloc (.cells #[.int .i64 0] 3) := ⟨_, rfl⟩
    have hp2 : Blk w2 w1.heap.size 3 (.int .i64 0) := by rw [hw2]; exact Blk.at_ rfl _ _
    have hb3 : Below w.heap.size w w2 := by rw [hw2]; exact hb1.alloc hb1.size _
    rw [← hw2]
    have hsz := hb1.size
    have hT := size_teller B w1.heap.size w2 (by omega) hp2.lt
    have HW := Lib.hid (walk_any 79 _ _ _ _ B _ w2 hT (by omega) l w2 A len cap 0 [] (HH.out.imp fun b o hr hp => ⟨hr, IsSts.keep (fun b hb => hb3.block b (by omega)) hr hp⟩) Kp.refl (by simpa using hp2) (by omega) (by simp) (by simp))
    have HB3 := Lib.hid hb3
    have HSZ := Lib.hid hsz
    have hlen : (flats l 0).length ≤ 512 := by
      have := chk_zero _ 0 (by omega) HZ.out
      simpa using this
    have HL := Lib.hid hlen
    clear hT hw2 hp2 hb3 hb1 hsz hlen
    go_upto_region 5 with (go_at_call 74; refine HW.out.mono ?_; rintro e w3 ⟨ok, rfl, h1, h2⟩)
    have hok : ok = true := by
      cases ok with
      | true => rfl
      | false =>
        obtain ⟨m, hm, h3⟩ := h2 rfl
        have := HL.out
        rcases h3 with h3 | ⟨h3, _⟩
        · exact h3.elim
        · simp at h3; omega
    obtain ⟨k2, k1, _⟩ := h1 hok
    rw [List.nil_append] at k1
    have K2 := Lib.hid k2
    have q := k1.cell
    have HE : Hid (sizeL l = (flats l 0).length) := Lib.hid (by unfold sizeL; rw [if_pos HZ.out])
    clear h1 h2 k1 k2
    go_wp2_with fail
    go_ret
    have K : Kp (fun _ => False) w1.heap.size w2 w3 := K2.out
    refine ⟨by rw [HE.out]; rfl, ⟨K.os.trans HB3.out.os, K.tape.trans HB3.out.tape, K.output.trans HB3.out.output, Nat.le_trans HB3.out.size K.size, fun k hk => (K.block k (Nat.lt_of_lt_of_le hk HB3.out.size) (fun h => h) (by have := HSZ.out; omega)).trans (HB3.out.block k hk)⟩⟩
  · have HZ := Lib.hid hz
    have hne : (((chkL l).2 : Int) == 0) = false := by rw [beq_eq_false_iff_ne]; omega
    rw [hne] at HC
    clear hz hne
    go_enter Try.func32, Try.ntmps32
    go_wp2_with (go_at_call 30; refine (HC.out).mono ?_; rintro e w1 ⟨rfl, hb1⟩)
    go_ret
    exact ⟨by unfold sizeL; rw [if_neg HZ.out]; rfl, hb1⟩
end Go.Proofs.Ytnknefdpglnbnaa
