/- The reader of package word: token. The reader of package word: token: numbers. -/
import Derived.Test.YtjmelamllapmiaaGreatDoorO
namespace Go.Proofs.YtjmelamllapmiaaGreatDoor
open Go.RowKit

/-- A token. -/
structure Tk where
  k : Int
  at_ : Int
  n : Int
  s : L8
  r : Int
/-- A token's cells. -/
def Tk.arr (t : Tk) : Array Value := #[.int .u8 t.k, .int .i64 t.at_, .int .i64 t.n, .string (txtV t.s), .int .i64 t.r]
def wordB (c : UInt8) : Bool := lett c || digB c
/-- The token that begins here; most: how long a text may be. -/
def tokL (most : Nat) (at_ : Int) : L8 → Rs Tk
  | [] => .no []
  | c :: t =>
    if lett c then (if 32 < ((c :: t).takeWhile wordB).length then .no (c :: t) else .ok ⟨1, at_, 0, (c :: t).takeWhile wordB, 0⟩ ((c :: t).dropWhile wordB))
    else if digB c then (match numO false ((c :: t).takeWhile digB) with | some n => .ok ⟨2, at_, n, [], 0⟩ ((c :: t).dropWhile digB) | Option.none => .no (c :: t))
    else if c = 45 then (match numO true (t.takeWhile digB) with | some n => .ok ⟨2, at_, n, [], 0⟩ (t.dropWhile digB) | Option.none => .no (c :: t))
    else if c = 35 then (match numO false (t.takeWhile digB) with | some n => if n < 1 then .no (c :: t) else .ok ⟨4, at_, 0, [], n⟩ (t.dropWhile digB) | Option.none => .no (c :: t))
    else if c = 34 then (match qa most .run t [] with | .ok b r => .ok ⟨3, at_, 0, b, 0⟩ r | .no r => .no r)
    else if sgnB c then .ok ⟨5, at_, 0, [c], 0⟩ t
    else .no (c :: t)
theorem tokL_letter (most : Nat) (a : Int) (l : L8) (c : UInt8) (t : L8) (h : l = c :: t) (hl : lett c = true) : tokL most a l = if 32 < (l.takeWhile wordB).length then .no l else .ok ⟨1, a, 0, l.takeWhile wordB, 0⟩ (l.dropWhile wordB) := by subst h; simp only [tokL, if_pos hl]
theorem tokL_dig (most : Nat) (a : Int) (l : L8) (c : UInt8) (t : L8) (h : l = c :: t) (hl : lett c = false) (hd : digB c = true) : tokL most a l = match numO false (l.takeWhile digB) with | some n => .ok ⟨2, a, n, [], 0⟩ (l.dropWhile digB) | Option.none => .no l := by
  subst h
  simp only [tokL, hl, Bool.false_eq_true, if_false, if_pos hd]
theorem tokL_neg (most : Nat) (a : Int) (l : L8) (c : UInt8) (t : L8) (h : l = c :: t) (hc : c = 45) : tokL most a l = match numO true (t.takeWhile digB) with | some n => .ok ⟨2, a, n, [], 0⟩ (t.dropWhile digB) | Option.none => .no l := by
  subst h hc
  have h1 : lett 45 = false := rfl
  have h2 : digB 45 = false := rfl
  simp only [tokL, h1, h2, Bool.false_eq_true, if_false, if_true]
theorem info56 : (Tryz.prog.info? 58).map (fun i => (i.zero, i.size, i.bytes)) = some (some (.agg #[.int .u8 0, .int .i64 0, .int .i64 0, .string ⟨#[]⟩, .int .i64 0]), 5, 48) := by kernel_rfl
def zeroT : Array Value := #[.int .u8 0, .int .i64 0, .int .i64 0, .string ⟨#[]⟩, .int .i64 0]
theorem set5_tok {V : World} {b : Nat} {d0 d1 d2 d3 d4 : Value} (h : BlkN V b 58 #[d0, d1, d2, d3, d4]) (c0 c1 c2 c3 c4 : Value) :
    ∃ V', ((((V.setCell ⟨b, 0, Option.none⟩ c0).setCell ⟨b, 1, Option.none⟩ c1).setCell ⟨b, 2, Option.none⟩ c2).setCell ⟨b, 3, Option.none⟩ c3).setCell ⟨b, 4, Option.none⟩ c4 = V' ∧ BlkN V' b 58 #[c0, c1, c2, c3, c4] ∧ But b V V' := by
  have hu := (((((Upd.refl b V).set 0 c0).set 1 c1).set 2 c2).set 3 c3).set 4 c4
  refine ⟨_, rfl, ?_, ⟨hu.os, hu.tape, hu.output, by simp [World.setCell], fun k hk => ?_⟩⟩
  · have := ((((BlkN.set h 0 c0).set 1 c1).set 2 c2).set 3 c3).set 4 c4
    simpa using this
  · exact (Below.heap_setCell _ _ _ _ hk).trans ((Below.heap_setCell _ _ _ _ hk).trans ((Below.heap_setCell _ _ _ _ hk).trans ((Below.heap_setCell _ _ _ _ hk).trans (Below.heap_setCell _ _ _ _ hk))))
theorem tww (l : L8) (q : UInt8 → Bool) : l.take (l.takeWhile q).length = l.takeWhile q := by
  induction l with
  | nil => rfl
  | cons c t ih =>
    rw [List.takeWhile_cons]
    split
    · simp [ih]
    · rfl
theorem tww_drop (l : L8) (q : UInt8 → Bool) : l.drop (l.takeWhile q).length = l.dropWhile q := by
  induction l with
  | nil => rfl
  | cons c t ih =>
    rw [List.takeWhile_cons, List.dropWhile_cons]
    split
    · simp [ih]
    · rfl
theorem rest_drop (s : ByteArray) (i n : Nat) : rest s (i + n) = (rest s i).drop n := by simp [rest]
/-- What token does at a place. -/
def TokP (s : ByteArray) (i k : Nat) (w : World) (p : Nat) (e : Ending) (w' : World) : Prop :=
  Upd p w w' ∧ RsP (tokL s.size i (rest s i)) s i e (fun t j => e = .returned (.agg t.arr) ∧ Rdr w' p s j k)
set_option maxRecDepth 100000 in
set_option maxHeartbeats 4000000 in
theorem token_letter (s : ByteArray) (i k : Nat) (w : World) (p : Nat) (h : Rdr w p s i k) (hi : i < s.size) (hs : s.size ≤ 140737488351232) (c : UInt8) (hc : c = s[i]) (hl : lett c = true) :
    Calls Tryz.prog 82 #[.pointer (some ⟨p, 0, Option.none⟩), .int .u8 (c.toNat : Nat)] w (TokP s i k w p) := by
  obtain ⟨i0, hi0, hz0, hz1, hz2⟩ := info_parts info56
  have hp := h.lt
  have c0 := h.cell 0 rfl
  have c1 := h.cell 1 rfl
  have HR := Lib.hid h
  have HRC : Hid (rest s i = c :: rest s (i + 1)) := Lib.hid (by rw [rest_cons hi, hc])
  have HC := Lib.hid hc
  clear h
  have HL := Lib.hid hl
  have C72 : Hid (∀ w, Calls Tryz.prog 137 #[.int .u8 (c.toNat : Nat)] w fun e w' => e = .returned (.bool true) ∧ w' = w) := Lib.hid (fun w => by rw [← hl]; exact letter_any c w)
  clear hl hc
  obtain ⟨D, hD⟩ : ∃ D, D = (rest s i).takeWhile wordB := ⟨_, rfl⟩
  have HD := Lib.hid hD
  clear hD
  go_enter Tryz.func82, Tryz.ntmps82
  go_wp2_with (first | (go_at_call 137; refine (C72.out _).mono ?_; rintro e w1 ⟨rfl, rfl⟩))
  obtain ⟨n, hn⟩ : ∃ n, n = w.heap.size := ⟨_, rfl⟩
  obtain ⟨W, hW⟩ : ∃ W, W = (w.alloc (.cells #[.int .u8 0, .int .i64 0, .int .i64 0, .string ⟨#[]⟩, .int .i64 0] 58)).alloc (.cells #[.int .u8 0, .int .i64 i, .int .i64 0, .string ⟨#[]⟩, .int .i64 0] 58) := ⟨_, rfl⟩
  have HRW : Hid (Rdr W p s i k) := Lib.hid (by rw [hW]; exact (BlkN.alloc HR.out _).alloc _)
  have HZ : Hid (BlkN W n 58 #[.int .u8 0, .int .i64 0, .int .i64 0, .string ⟨#[]⟩, .int .i64 0]) := Lib.hid (by rw [hW, hn]; exact (BlkN.at_ rfl _ _).alloc _)
  have HT : Hid (BlkN W (n + 1) 58 #[.int .u8 0, .int .i64 i, .int .i64 0, .string ⟨#[]⟩, .int .i64 0]) := Lib.hid (by rw [hW, hn]; exact BlkN.at_ (by simp) _ _)
  have HU : Hid (Upd p w W) := Lib.hid (by rw [hW]; exact ((Upd.refl p w).alloc _).alloc _)
  have HPN : Hid (p < n ∧ n = w.heap.size) := Lib.hid ⟨by rw [hn]; exact hp, hn⟩
  have hpn : p < n := by rw [hn]; exact hp
  rw [← hW, ← hn]
  clear hW hn c0 c1 hp
  go_loopw [] (fun wr => ∃ j : Nat, i ≤ j ∧ j ≤ s.size ∧ Rdr wr p s j k ∧ BlkN wr n 58 #[.int .u8 0, .int .i64 0, .int .i64 0, .string ⟨#[]⟩, .int .i64 0] ∧ BlkN wr (n + 1) 58 #[.int .u8 0, .int .i64 i, .int .i64 0, .string ⟨#[]⟩, .int .i64 0] ∧ Upd p w wr ∧ j + ((rest s j).takeWhile wordB).length = i + D.length) (fun wr => s.size - posOf wr p)
  case atStart => exact ⟨i, Nat.le_refl _, by omega, HRW.out, HZ.out, HT.out, HU.out, by rw [HD.out]⟩
  case round =>
    obtain ⟨j, hij, hj, hr, hz, ht, hu, hl⟩ := hrel
    have HRJ := Lib.hid hr
    have HZJ := Lib.hid hz
    have HTJ := Lib.hid ht
    have HUJ := Lib.hid hu
    have HLJ := Lib.hid hl
    clear hu hl hz ht
    have hpr := hr.lt
    have c0 := hr.cell 0 rfl
    have c1 := hr.cell 1 rfl
    have f1 := hr.free 1
    clear hr
    by_cases hdig : ∃ hjl : j < s.size, wordB s[j] = true
    · obtain ⟨hjl, hdig⟩ := hdig
      have hjd : decide ((j : Int) < (s.size : Nat)) = true := decide_eq_true (by omega)
      have HDIG := Lib.hid hdig
      obtain ⟨cl, hcl⟩ : ∃ cl, cl = lett s[j] := ⟨_, rfl⟩
      have C72J : Hid (∀ w, Calls Tryz.prog 137 #[.int .u8 (s[j].toNat : Nat)] w fun e w' => e = .returned (.bool cl) ∧ w' = w) := Lib.hid (fun w => by rw [hcl]; exact letter_any s[j] w)
      have C73J : Hid (cl = false → ∀ w, Calls Tryz.prog 138 #[.int .u8 (s[j].toNat : Nat)] w fun e w' => e = .returned (.bool true) ∧ w' = w) := Lib.hid (fun h w => by
        have : digB s[j] = true := by unfold wordB at hdig; rw [← hcl, h] at hdig; simpa using hdig
        rw [← this]; exact digit_any s[j] w)
      clear hdig hcl
      go_wp2_with fail
      cases cl
      all_goals
        go_quiet (first | (go_at_call 137; exact Calls.quiet_of_same (C72J.out _)) | (go_at_call 138; exact Calls.quiet_of_same (C73J.out rfl _)))
        go_wp2_with fail
        go_roundw
        case rel => exact ⟨j + 1, by omega, by omega, Rdr.adv (HRJ.out.below (belowN (Below.refl _ _) _)), (HZJ.out.below (belowN (Below.refl _ _) nq)).setOther (q := ⟨p, 1, Option.none⟩) (by show n ≠ p; omega) _, (HTJ.out.below (belowN (Below.refl _ _) nq)).setOther (q := ⟨p, 1, Option.none⟩) (by show n + 1 ≠ p; omega) _, (HUJ.out.below (belowN (Below.refl _ _) _)).set 1 _, by have := HLJ.out; rw [rest_cons hjl, List.takeWhile_cons, if_pos HDIG.out, List.length_cons] at this; omega⟩
        case measure => rw [(Rdr.adv (HRJ.out.below (belowN (Below.refl _ _) _))).pos, HRJ.out.pos]; omega
    have hjD : j = i + D.length := by
      have := HLJ.out
      by_cases hjl : j < s.size
      · rw [rest_cons hjl, List.takeWhile_cons, if_neg (fun h => hdig ⟨hjl, h⟩)] at this
        simpa using this
      · rw [rest_end (by omega)] at this
        simpa using this
    have HJD := Lib.hid hjD
    obtain ⟨X, hX⟩ : ∃ X, X = s.extract i j := ⟨_, rfl⟩
    have HXL : Hid (X = txtV D) := Lib.hid (by
      have e1 : (s.extract i j).data.toList = (rest s i).take (j - i) := extract_list s i j
      rw [show j - i = D.length by omega, HD.out, tww, ← HD.out] at e1
      rw [hX]
      apply ByteArray.ext
      apply Array.ext'
      rw [e1]; rfl)
    have HX := Lib.hid hX
    clear hX hjD
    by_cases hjl : j < s.size
    · have hnd : wordB s[j] = false := by simpa using fun h => hdig ⟨hjl, h⟩
      have hjd : decide ((j : Int) < (s.size : Nat)) = true := decide_eq_true (by omega)
      have C72J : Hid (∀ w, Calls Tryz.prog 137 #[.int .u8 (s[j].toNat : Nat)] w fun e w' => e = .returned (.bool false) ∧ w' = w) := Lib.hid (fun w => by
        have : lett s[j] = false := by unfold wordB at hnd; simp at hnd; exact hnd.1
        rw [← this]; exact letter_any s[j] w)
      have C73J : Hid (∀ w, Calls Tryz.prog 138 #[.int .u8 (s[j].toNat : Nat)] w fun e w' => e = .returned (.bool false) ∧ w' = w) := Lib.hid (fun w => by
        have : digB s[j] = false := by unfold wordB at hnd; simp at hnd; exact hnd.2
        rw [← this]; exact digit_any s[j] w)
      clear hnd hdig
      go_wp2_with fail
      go_quiet (first | (go_at_call 137; exact Calls.quiet_of_same (C72J.out _)) | (go_at_call 138; exact Calls.quiet_of_same (C73J.out _)))
      go_wp2_with fail
      obtain ⟨W2, hW2⟩ : ∃ W2, W2 = wr.drewN nq := ⟨_, rfl⟩
      have HR2 : Hid (Rdr W2 p s j k) := Lib.hid (by rw [hW2]; exact HRJ.out.below (belowN (Below.refl _ _) _))
      have HZ2 : Hid (BlkN W2 n 58 #[.int .u8 0, .int .i64 0, .int .i64 0, .string ⟨#[]⟩, .int .i64 0]) := Lib.hid (by rw [hW2]; exact HZJ.out.below (belowN (Below.refl _ _) nq))
      have HT2 : Hid (BlkN W2 (n + 1) 58 #[.int .u8 0, .int .i64 i, .int .i64 0, .string ⟨#[]⟩, .int .i64 0]) := Lib.hid (by rw [hW2]; exact HTJ.out.below (belowN (Below.refl _ _) nq))
      have HU2 : Hid (Upd p w W2) := Lib.hid (by rw [hW2]; exact HUJ.out.below (belowN (Below.refl _ _) _))
      rw [← hW2]
      clear hW2 c0 c1 f1
      have hij1 : (i : Int) ≤ j := by omega
      have hij2 : (j : Int) ≤ s.size := by omega
      refine RegT.region_seq (fun i => Nat.ble i 11) (fun V => Rdr V p s j k) [0, 1, 2, 3, 4, 5, 6, 7, 8, 9, 10] [11, 12, 13] (by kernel_rfl) (by kernel_rfl) (by decide +kernel) (by decide) (show Rdr W2.drew p s j k from HR2.out) ?_
      refine RegT.quiet_step rfl (fun _ _ _ h => h) (by kernel_rfl) (v := .pointer (some ⟨p, 0, Option.none⟩)) (fun w' hS => ?_) ?_
      · go_simp
      refine RegT.quiet_step rfl (fun _ _ _ h => h) (by kernel_rfl) (v := .pointer (some ⟨p, 0, Option.none⟩)) (fun w' hS => ?_) ?_
      · go_simp
      refine RegT.quiet_step rfl (fun _ _ _ h => h) (by kernel_rfl) (v := .pointer (some ⟨p, 0, Option.none⟩)) (fun w' hS => ?_) ?_
      · go_simp
      refine RegT.quiet_step rfl (fun _ _ _ h => h) (by kernel_rfl) (v := .string s) (fun w' hS => ?_) ?_
      · have hS : Rdr w' p s j k := hS; have t0 := hS.cell 0 rfl; have t1 := hS.cell 1 rfl; go_simp
      refine RegT.quiet_step rfl (fun _ _ _ h => h) (by kernel_rfl) (v := .int .i64 i) (fun w' hS => ?_) ?_
      · go_simp
      refine RegT.quiet_step rfl (fun _ _ _ h => h) (by kernel_rfl) (v := .pointer (some ⟨p, 0, Option.none⟩)) (fun w' hS => ?_) ?_
      · go_simp
      refine RegT.quiet_step rfl (fun _ _ _ h => h) (by kernel_rfl) (v := .pointer (some ⟨p, 0, Option.none⟩)) (fun w' hS => ?_) ?_
      · go_simp
      refine RegT.quiet_step rfl (fun _ _ _ h => h) (by kernel_rfl) (v := .pointer (some ⟨p, 1, Option.none⟩)) (fun w' hS => ?_) ?_
      · go_simp
      refine RegT.quiet_step rfl (fun _ _ _ h => h) (by kernel_rfl) (v := .int .i64 j) (fun w' hS => ?_) ?_
      · have hS : Rdr w' p s j k := hS; have t0 := hS.cell 0 rfl; have t1 := hS.cell 1 rfl; go_simp
      refine RegT.quiet_step rfl (fun _ _ _ h => h) (by kernel_rfl) (v := .string (s.extract i j)) (fun w' hS => ?_) ?_
      · go_simp
      refine RegT.quiet_step rfl (fun _ _ _ h => h) (by kernel_rfl) (v := .pointer (some ⟨n + 1, 0, Option.none⟩)) (fun w' hS => ?_) ?_
      · go_simp
      rw [← HX.out]
      have e0 := HT2.out.cell 0 rfl
      have e1 := HT2.out.cell 1 rfl
      have e2 := HT2.out.cell 2 rfl
      have e3 := HT2.out.cell 3 rfl
      have e4 := HT2.out.cell 4 rfl
      have x0 := HT2.out.free 0
      have x3 := HT2.out.free 3
      have hnT := HT2.out.lt
      refine RegT.seqT_held rfl ?_
      go_wp2_with fail
      refine ⟨BlkN.setOther (show Rdr W2.drew p s j k from HR2.out) (q := ⟨n + 1, 0, Option.none⟩) (by show p ≠ n + 1; omega) _, RegT.seqT_tail [12, 13] [_, _] rfl rfl _ _ ?_⟩
      go_wp2_with fail
      simp only [RegT.NP]
      obtain ⟨V, hV⟩ : ∃ V, V = ((W2.setCell ⟨n + 1, 0, Option.none⟩ (.int .u8 1)).setCell ⟨n + 1, 3, Option.none⟩ (.string X)).drew := ⟨_, rfl⟩
      have HTV : Hid (BlkN V (n + 1) 58 #[.int .u8 1, .int .i64 i, .int .i64 0, .string X, .int .i64 0]) := Lib.hid (by rw [hV]; exact (by simpa using (BlkN.set HT2.out 0 (.int .u8 1)).set 3 (.string X) : BlkN ((W2.setCell ⟨n + 1, 0, Option.none⟩ (.int .u8 1)).setCell ⟨n + 1, 3, Option.none⟩ (.string X)) (n + 1) 58 _))
      have HZV : Hid (BlkN V n 58 #[.int .u8 0, .int .i64 0, .int .i64 0, .string ⟨#[]⟩, .int .i64 0]) := Lib.hid (by rw [hV]; exact (HZ2.out.setOther (q := ⟨n + 1, 0, Option.none⟩) (by show n ≠ n + 1; omega) (.int .u8 1)).setOther (q := ⟨n + 1, 3, Option.none⟩) (by show n ≠ n + 1; omega) (.string X))
      have HRV : Hid (Rdr V p s j k) := Lib.hid (by rw [hV]; exact (BlkN.setOther HR2.out (q := ⟨n + 1, 0, Option.none⟩) (by show p ≠ n + 1; omega) (.int .u8 1)).setOther (q := ⟨n + 1, 3, Option.none⟩) (by show p ≠ n + 1; omega) (.string X))
      have hnw := HPN.out.2
      have HUV : Hid (Upd p w V) := Lib.hid (by rw [hV]; exact ((HU2.out.setNew (q := ⟨n + 1, 0, Option.none⟩) (by show w.heap.size ≤ n + 1; omega) _).setNew (q := ⟨n + 1, 3, Option.none⟩) (by show w.heap.size ≤ n + 1; omega) _).drew)
      rw [← hV]
      clear hV e0 e1 e2 e3 e4 x0 x3 hnT hnw
      have hXs : X.size = D.length := by rw [HXL.out]; simp [txtV]; rfl
      have HXS := Lib.hid hXs
      clear hXs
      have HTOK := Lib.hid (tokL_letter s.size i (rest s i) c _ HRC.out HL.out)
      have g3 := HTV.out.cell 3 rfl
      have hgV := HTV.out.lt
      by_cases hlong : 32 < D.length
      · have hl2 : (32 : Int) < (X.size : Nat) := by have := HXS.out; omega
        go_wp2_with fail
        refine ⟨rfl, HUV.out, ?_⟩
        rw [HTOK.out, ← HD.out, if_pos hlong]
        exact ⟨i, by omega, rfl, rfl⟩
      · have hl2 : ¬ (32 : Int) < (X.size : Nat) := by have := HXS.out; omega
        have g0 := HTV.out.cell 0 rfl
        have g1 := HTV.out.cell 1 rfl
        have g2 := HTV.out.cell 2 rfl
        have g4 := HTV.out.cell 4 rfl
        have z0 := HZV.out.cell 0 rfl
        have z1 := HZV.out.cell 1 rfl
        have z2 := HZV.out.cell 2 rfl
        have z3 := HZV.out.cell 3 rfl
        have z4 := HZV.out.cell 4 rfl
        have y0 := HZV.out.free 0
        have y1 := HZV.out.free 1
        have y2 := HZV.out.free 2
        have y3 := HZV.out.free 3
        have y4 := HZV.out.free 4
        have hzV := HZV.out.lt
        go_wp2_with fail
        obtain ⟨V', hV', hB, hbut⟩ := set5_tok HZV.out (.int .u8 1) (.int .i64 i) (.int .i64 0) (.string X) (.int .i64 0)
        rw [hV']
        have hnw := HPN.out.2
        refine bodyPost_ret (results_cell1 (s := 4) (b := n) rfl Tryz.underlying58 hi0 rfl hB (by rw [hz1]; rfl)) rfl ⟨hbut.upd (by omega) HUV.out, ?_⟩
        rw [HTOK.out, ← HD.out, if_neg hlong]
        refine ⟨j, ?_, hj, ?_, ?_, HRV.out.but hbut (by omega)⟩
        · have : D ≠ [] := by rw [HD.out, HRC.out, List.takeWhile_cons, if_pos (by simp [wordB, HL.out])]; simp
          have := List.length_pos_iff.2 this
          have := HJD.out
          omega
        · rw [HJD.out, rest_drop, HD.out, tww_drop]
        · rw [HXL.out]; rfl
    · have hjd : decide ((j : Int) < (s.size : Nat)) = false := decide_eq_false (by omega)
      clear hdig
      go_wp2_with fail
      go_quiet (fail)
      go_wp2_with fail
      obtain ⟨W2, hW2⟩ : ∃ W2, W2 = wr.drewN nq := ⟨_, rfl⟩
      have HR2 : Hid (Rdr W2 p s j k) := Lib.hid (by rw [hW2]; exact HRJ.out.below (belowN (Below.refl _ _) _))
      have HZ2 : Hid (BlkN W2 n 58 #[.int .u8 0, .int .i64 0, .int .i64 0, .string ⟨#[]⟩, .int .i64 0]) := Lib.hid (by rw [hW2]; exact HZJ.out.below (belowN (Below.refl _ _) nq))
      have HT2 : Hid (BlkN W2 (n + 1) 58 #[.int .u8 0, .int .i64 i, .int .i64 0, .string ⟨#[]⟩, .int .i64 0]) := Lib.hid (by rw [hW2]; exact HTJ.out.below (belowN (Below.refl _ _) nq))
      have HU2 : Hid (Upd p w W2) := Lib.hid (by rw [hW2]; exact HUJ.out.below (belowN (Below.refl _ _) _))
      rw [← hW2]
      clear hW2 c0 c1 f1
      have hij1 : (i : Int) ≤ j := by omega
      have hij2 : (j : Int) ≤ s.size := by omega
      refine RegT.region_seq (fun i => Nat.ble i 11) (fun V => Rdr V p s j k) [0, 1, 2, 3, 4, 5, 6, 7, 8, 9, 10] [11, 12, 13] (by kernel_rfl) (by kernel_rfl) (by decide +kernel) (by decide) (show Rdr W2.drew p s j k from HR2.out) ?_
      refine RegT.quiet_step rfl (fun _ _ _ h => h) (by kernel_rfl) (v := .pointer (some ⟨p, 0, Option.none⟩)) (fun w' hS => ?_) ?_
      · go_simp
      refine RegT.quiet_step rfl (fun _ _ _ h => h) (by kernel_rfl) (v := .pointer (some ⟨p, 0, Option.none⟩)) (fun w' hS => ?_) ?_
      · go_simp
      refine RegT.quiet_step rfl (fun _ _ _ h => h) (by kernel_rfl) (v := .pointer (some ⟨p, 0, Option.none⟩)) (fun w' hS => ?_) ?_
      · go_simp
      refine RegT.quiet_step rfl (fun _ _ _ h => h) (by kernel_rfl) (v := .string s) (fun w' hS => ?_) ?_
      · have hS : Rdr w' p s j k := hS; have t0 := hS.cell 0 rfl; have t1 := hS.cell 1 rfl; go_simp
      refine RegT.quiet_step rfl (fun _ _ _ h => h) (by kernel_rfl) (v := .int .i64 i) (fun w' hS => ?_) ?_
      · go_simp
      refine RegT.quiet_step rfl (fun _ _ _ h => h) (by kernel_rfl) (v := .pointer (some ⟨p, 0, Option.none⟩)) (fun w' hS => ?_) ?_
      · go_simp
      refine RegT.quiet_step rfl (fun _ _ _ h => h) (by kernel_rfl) (v := .pointer (some ⟨p, 0, Option.none⟩)) (fun w' hS => ?_) ?_
      · go_simp
      refine RegT.quiet_step rfl (fun _ _ _ h => h) (by kernel_rfl) (v := .pointer (some ⟨p, 1, Option.none⟩)) (fun w' hS => ?_) ?_
      · go_simp
      refine RegT.quiet_step rfl (fun _ _ _ h => h) (by kernel_rfl) (v := .int .i64 j) (fun w' hS => ?_) ?_
      · have hS : Rdr w' p s j k := hS; have t0 := hS.cell 0 rfl; have t1 := hS.cell 1 rfl; go_simp
      refine RegT.quiet_step rfl (fun _ _ _ h => h) (by kernel_rfl) (v := .string (s.extract i j)) (fun w' hS => ?_) ?_
      · go_simp
      refine RegT.quiet_step rfl (fun _ _ _ h => h) (by kernel_rfl) (v := .pointer (some ⟨n + 1, 0, Option.none⟩)) (fun w' hS => ?_) ?_
      · go_simp
      rw [← HX.out]
      have e0 := HT2.out.cell 0 rfl
      have e1 := HT2.out.cell 1 rfl
      have e2 := HT2.out.cell 2 rfl
      have e3 := HT2.out.cell 3 rfl
      have e4 := HT2.out.cell 4 rfl
      have x0 := HT2.out.free 0
      have x3 := HT2.out.free 3
      have hnT := HT2.out.lt
      refine RegT.seqT_held rfl ?_
      go_wp2_with fail
      refine ⟨BlkN.setOther (show Rdr W2.drew p s j k from HR2.out) (q := ⟨n + 1, 0, Option.none⟩) (by show p ≠ n + 1; omega) _, RegT.seqT_tail [12, 13] [_, _] rfl rfl _ _ ?_⟩
      go_wp2_with fail
      simp only [RegT.NP]
      obtain ⟨V, hV⟩ : ∃ V, V = ((W2.setCell ⟨n + 1, 0, Option.none⟩ (.int .u8 1)).setCell ⟨n + 1, 3, Option.none⟩ (.string X)).drew := ⟨_, rfl⟩
      have HTV : Hid (BlkN V (n + 1) 58 #[.int .u8 1, .int .i64 i, .int .i64 0, .string X, .int .i64 0]) := Lib.hid (by rw [hV]; exact (by simpa using (BlkN.set HT2.out 0 (.int .u8 1)).set 3 (.string X) : BlkN ((W2.setCell ⟨n + 1, 0, Option.none⟩ (.int .u8 1)).setCell ⟨n + 1, 3, Option.none⟩ (.string X)) (n + 1) 58 _))
      have HZV : Hid (BlkN V n 58 #[.int .u8 0, .int .i64 0, .int .i64 0, .string ⟨#[]⟩, .int .i64 0]) := Lib.hid (by rw [hV]; exact (HZ2.out.setOther (q := ⟨n + 1, 0, Option.none⟩) (by show n ≠ n + 1; omega) (.int .u8 1)).setOther (q := ⟨n + 1, 3, Option.none⟩) (by show n ≠ n + 1; omega) (.string X))
      have HRV : Hid (Rdr V p s j k) := Lib.hid (by rw [hV]; exact (BlkN.setOther HR2.out (q := ⟨n + 1, 0, Option.none⟩) (by show p ≠ n + 1; omega) (.int .u8 1)).setOther (q := ⟨n + 1, 3, Option.none⟩) (by show p ≠ n + 1; omega) (.string X))
      have hnw := HPN.out.2
      have HUV : Hid (Upd p w V) := Lib.hid (by rw [hV]; exact ((HU2.out.setNew (q := ⟨n + 1, 0, Option.none⟩) (by show w.heap.size ≤ n + 1; omega) _).setNew (q := ⟨n + 1, 3, Option.none⟩) (by show w.heap.size ≤ n + 1; omega) _).drew)
      rw [← hV]
      clear hV e0 e1 e2 e3 e4 x0 x3 hnT hnw
      have hXs : X.size = D.length := by rw [HXL.out]; simp [txtV]; rfl
      have HXS := Lib.hid hXs
      clear hXs
      have HTOK := Lib.hid (tokL_letter s.size i (rest s i) c _ HRC.out HL.out)
      have g3 := HTV.out.cell 3 rfl
      have hgV := HTV.out.lt
      by_cases hlong : 32 < D.length
      · have hl2 : (32 : Int) < (X.size : Nat) := by have := HXS.out; omega
        go_wp2_with fail
        refine ⟨rfl, HUV.out, ?_⟩
        rw [HTOK.out, ← HD.out, if_pos hlong]
        exact ⟨i, by omega, rfl, rfl⟩
      · have hl2 : ¬ (32 : Int) < (X.size : Nat) := by have := HXS.out; omega
        have g0 := HTV.out.cell 0 rfl
        have g1 := HTV.out.cell 1 rfl
        have g2 := HTV.out.cell 2 rfl
        have g4 := HTV.out.cell 4 rfl
        have z0 := HZV.out.cell 0 rfl
        have z1 := HZV.out.cell 1 rfl
        have z2 := HZV.out.cell 2 rfl
        have z3 := HZV.out.cell 3 rfl
        have z4 := HZV.out.cell 4 rfl
        have y0 := HZV.out.free 0
        have y1 := HZV.out.free 1
        have y2 := HZV.out.free 2
        have y3 := HZV.out.free 3
        have y4 := HZV.out.free 4
        have hzV := HZV.out.lt
        go_wp2_with fail
        obtain ⟨V', hV', hB, hbut⟩ := set5_tok HZV.out (.int .u8 1) (.int .i64 i) (.int .i64 0) (.string X) (.int .i64 0)
        rw [hV']
        have hnw := HPN.out.2
        refine bodyPost_ret (results_cell1 (s := 4) (b := n) rfl Tryz.underlying58 hi0 rfl hB (by rw [hz1]; rfl)) rfl ⟨hbut.upd (by omega) HUV.out, ?_⟩
        rw [HTOK.out, ← HD.out, if_neg hlong]
        refine ⟨j, ?_, hj, ?_, ?_, HRV.out.but hbut (by omega)⟩
        · have : D ≠ [] := by rw [HD.out, HRC.out, List.takeWhile_cons, if_pos (by simp [wordB, HL.out])]; simp
          have := List.length_pos_iff.2 this
          have := HJD.out
          omega
        · rw [HJD.out, rest_drop, HD.out, tww_drop]
        · rw [HXL.out]; rfl
end Go.Proofs.YtjmelamllapmiaaGreatDoor
namespace Go.Proofs.YtjmelamllapmiaaGreatDoor
open Go.RowKit

theorem tww_len (l : L8) (q : UInt8 → Bool) : (l.takeWhile q).length ≤ l.length := by
  induction l with
  | nil => simp
  | cons c t ih =>
    rw [List.takeWhile_cons]
    split <;> simp <;> omega
set_option maxRecDepth 100000 in
set_option maxHeartbeats 4000000 in
theorem token_dig (s : ByteArray) (i k : Nat) (w : World) (p : Nat) (h : Rdr w p s i k) (hi : i < s.size) (hs : s.size ≤ 140737488351232) (c : UInt8) (hc : c = s[i]) (hd : digB c = true) (hE : ErrP p w) :
    Calls Tryz.prog 82 #[.pointer (some ⟨p, 0, Option.none⟩), .int .u8 (c.toNat : Nat)] w (TokP s i k w p) := by
  obtain ⟨i0, hi0, hz0, hz1, hz2⟩ := info_parts info56
  have hp := h.lt
  have c0 := h.cell 0 rfl
  have c1 := h.cell 1 rfl
  have HR := Lib.hid h
  have HRC : Hid (rest s i = c :: rest s (i + 1)) := Lib.hid (by rw [rest_cons hi, hc])
  have HC := Lib.hid hc
  clear h
  have hl : lett c = false := by
    simp only [digB, Bool.and_eq_true, decide_eq_true_eq] at hd
    unfold lett
    rw [Bool.and_eq_false_iff]; left; simp; omega
  have hb45 : ((c.toNat : Int) == 45) = false := by
    simp only [digB, Bool.and_eq_true, decide_eq_true_eq] at hd
    rw [beq_eq_false_iff_ne]; omega
  have HTOK := Lib.hid (tokL_dig s.size i (rest s i) c _ HRC.out hl hd)
  have HEP := Lib.hid hE
  have C72 : Hid (∀ w, Calls Tryz.prog 137 #[.int .u8 (c.toNat : Nat)] w fun e w' => e = .returned (.bool false) ∧ w' = w) := Lib.hid (fun w => by rw [← hl]; exact letter_any c w)
  have C73 : Hid (∀ w, Calls Tryz.prog 138 #[.int .u8 (c.toNat : Nat)] w fun e w' => e = .returned (.bool true) ∧ w' = w) := Lib.hid (fun w => by rw [← hd]; exact digit_any c w)
  clear hl hc hd hE
  obtain ⟨D, hD⟩ : ∃ D, D = (rest s i).takeWhile digB := ⟨_, rfl⟩
  have HD := Lib.hid hD
  clear hD
  go_enter Tryz.func82, Tryz.ntmps82
  go_upto_region 11 with (first | (go_at_call 137; refine (C72.out _).mono ?_; rintro e w1 ⟨rfl, rfl⟩) | (go_at_call 138; refine (C73.out _).mono ?_; rintro e w1 ⟨rfl, rfl⟩))
  obtain ⟨n, hn⟩ : ∃ n, n = w.heap.size := ⟨_, rfl⟩
  obtain ⟨W, hW⟩ : ∃ W, W = (w.alloc (.cells #[.int .u8 0, .int .i64 0, .int .i64 0, .string ⟨#[]⟩, .int .i64 0] 58)).alloc (.cells #[.int .u8 0, .int .i64 i, .int .i64 0, .string ⟨#[]⟩, .int .i64 0] 58) := ⟨_, rfl⟩
  have HRW : Hid (Rdr W p s i k) := Lib.hid (by rw [hW]; exact (BlkN.alloc HR.out _).alloc _)
  have HZ : Hid (BlkN W n 58 #[.int .u8 0, .int .i64 0, .int .i64 0, .string ⟨#[]⟩, .int .i64 0]) := Lib.hid (by rw [hW, hn]; exact (BlkN.at_ rfl _ _).alloc _)
  have HT : Hid (BlkN W (n + 1) 58 #[.int .u8 0, .int .i64 i, .int .i64 0, .string ⟨#[]⟩, .int .i64 0]) := Lib.hid (by rw [hW, hn]; exact BlkN.at_ (by simp) _ _)
  have HU : Hid (Upd p w W) := Lib.hid (by rw [hW]; exact ((Upd.refl p w).alloc _).alloc _)
  have HPN : Hid (p < n ∧ n = w.heap.size) := Lib.hid ⟨by rw [hn]; exact hp, hn⟩
  have hpn : p < n := by rw [hn]; exact hp
  rw [← hW, ← hn]
  clear hW hn c0 c1 hp
  have C74 := digits_pos s i k W p HRW.out (by omega) hs (HEP.out.on HU.out)
  rw [← HD.out] at C74
  cases hO : numO false D with
  | none =>
    rw [hO] at C74
    have HC74 := Lib.hid C74
    have HO := Lib.hid hO
    clear C74 hO
    go_wp2_with (first | (go_at_call 139; refine HC74.out.mono ?_; rintro e w2 ⟨hu2, hr2, m, ok, rfl, rfl⟩; have HU2 := Lib.hid (HU.out.trans hu2); clear hu2 hr2))
    refine ⟨rfl, HU2.out, ?_⟩
    rw [HTOK.out, ← HD.out, HO.out]
    exact ⟨i, by omega, rfl, rfl⟩
  | some v =>
    rw [hO] at C74
    have HC74 := Lib.hid C74
    have HO := Lib.hid hO
    clear C74 hO
    go_upto_region 26 with (first | (go_at_call 139; refine HC74.out.mono ?_; rintro e W2 ⟨hu2, hr2, m, ok, rfl, rfl, rfl⟩; have HU2 := Lib.hid (HU.out.trans hu2); have ht2 := BlkN.upd hu2 HT.out (by omega); have HZ2 := Lib.hid (BlkN.upd hu2 HZ.out (by omega)); have e0 := ht2.cell 0 rfl; have e1 := ht2.cell 1 rfl; have e2 := ht2.cell 2 rfl; have e3 := ht2.cell 3 rfl; have e4 := ht2.cell 4 rfl; have x0 := ht2.free 0; have x2 := ht2.free 2; have hnT := ht2.lt; have HT2 := Lib.hid ht2; have HR2 := Lib.hid hr2; clear hu2 hr2 ht2))
    obtain ⟨j, hj⟩ : ∃ j, j = i + D.length := ⟨_, rfl⟩
    have HJ := Lib.hid hj
    rw [← hj] at HR2
    clear hj
    obtain ⟨V, hV⟩ : ∃ V, V = (W2.setCell ⟨n + 1, 0, Option.none⟩ (.int .u8 2)).setCell ⟨n + 1, 2, Option.none⟩ (.int .i64 m) := ⟨_, rfl⟩
    have HTV : Hid (BlkN V (n + 1) 58 #[.int .u8 2, .int .i64 i, .int .i64 m, .string ⟨#[]⟩, .int .i64 0]) := Lib.hid (by rw [hV]; exact (by simpa using (BlkN.set HT2.out 0 (.int .u8 2)).set 2 (.int .i64 m) : BlkN ((W2.setCell ⟨n + 1, 0, Option.none⟩ (.int .u8 2)).setCell ⟨n + 1, 2, Option.none⟩ (.int .i64 m)) (n + 1) 58 _))
    have HZV : Hid (BlkN V n 58 #[.int .u8 0, .int .i64 0, .int .i64 0, .string ⟨#[]⟩, .int .i64 0]) := Lib.hid (by rw [hV]; exact (HZ2.out.setOther (q := ⟨n + 1, 0, Option.none⟩) (by show n ≠ n + 1; omega) _).setOther (q := ⟨n + 1, 2, Option.none⟩) (by show n ≠ n + 1; omega) _)
    have HRV : Hid (Rdr V p s j k) := Lib.hid (by rw [hV]; exact (BlkN.setOther HR2.out (q := ⟨n + 1, 0, Option.none⟩) (by show p ≠ n + 1; omega) _).setOther (q := ⟨n + 1, 2, Option.none⟩) (by show p ≠ n + 1; omega) _)
    have hnw := HPN.out.2
    have HUV : Hid (Upd p w V) := Lib.hid (by rw [hV]; exact ((HU2.out.setNew (q := ⟨n + 1, 0, Option.none⟩) (by show w.heap.size ≤ n + 1; omega) _).setNew (q := ⟨n + 1, 2, Option.none⟩) (by show w.heap.size ≤ n + 1; omega) _))
    rw [← hV]
    clear hV e0 e1 e2 e3 e4 x0 x2 hnT hnw
    have g0 := HTV.out.cell 0 rfl
    have g1 := HTV.out.cell 1 rfl
    have g2 := HTV.out.cell 2 rfl
    have g3 := HTV.out.cell 3 rfl
    have g4 := HTV.out.cell 4 rfl
    have hgV := HTV.out.lt
    have z0 := HZV.out.cell 0 rfl
    have z1 := HZV.out.cell 1 rfl
    have z2 := HZV.out.cell 2 rfl
    have z3 := HZV.out.cell 3 rfl
    have z4 := HZV.out.cell 4 rfl
    have y0 := HZV.out.free 0
    have y1 := HZV.out.free 1
    have y2 := HZV.out.free 2
    have y3 := HZV.out.free 3
    have y4 := HZV.out.free 4
    have hzV := HZV.out.lt
    go_wp2_with fail
    obtain ⟨V', hV', hB, hbut⟩ := set5_tok HZV.out (.int .u8 2) (.int .i64 i) (.int .i64 m) (.string ⟨#[]⟩) (.int .i64 0)
    rw [hV']
    have hnw := HPN.out.2
    refine bodyPost_ret (results_cell1 (s := 4) (b := n) rfl Tryz.underlying58 hi0 rfl hB (by rw [hz1]; rfl)) rfl ⟨hbut.upd (by omega) HUV.out, ?_⟩
    rw [HTOK.out, ← HD.out, HO.out]
    have hjj := HJ.out
    have hlen : D.length ≤ (rest s i).length := by rw [HD.out]; exact tww_len _ _
    have hne : D ≠ [] := fun h => by have := HO.out; rw [h] at this; simp [numO] at this
    have hpos := List.length_pos_iff.2 hne
    rw [rest_len] at hlen
    refine ⟨j, by omega, by omega, ?_, rfl, HRV.out.but hbut (by omega)⟩
    rw [hjj, rest_drop s i, HD.out, tww_drop]
set_option maxRecDepth 100000 in
set_option maxHeartbeats 4000000 in
theorem token_neg (s : ByteArray) (i k : Nat) (w : World) (p : Nat) (h : Rdr w p s i k) (hi : i < s.size) (hs : s.size ≤ 140737488351232) (c : UInt8) (hc : c = s[i]) (h45 : c = 45) (hE : ErrP p w) :
    Calls Tryz.prog 82 #[.pointer (some ⟨p, 0, Option.none⟩), .int .u8 (c.toNat : Nat)] w (TokP s i k w p) := by
  obtain ⟨i0, hi0, hz0, hz1, hz2⟩ := info_parts info56
  have hp := h.lt
  have c0 := h.cell 0 rfl
  have c1 := h.cell 1 rfl
  have HR := Lib.hid h
  have HRC : Hid (rest s i = c :: rest s (i + 1)) := Lib.hid (by rw [rest_cons hi, hc])
  have HC := Lib.hid hc
  clear h
  have hl : lett c = false := by rw [h45]; rfl
  have hd : digB c = false := by rw [h45]; rfl
  have hb45 : ((c.toNat : Int) == 45) = true := by rw [h45]; rfl
  have H45 : Hid (s[i] = 45) := Lib.hid (by rw [← hc, h45])
  have HTOK := Lib.hid (tokL_neg s.size i (rest s i) c _ HRC.out h45)
  have HEP := Lib.hid hE
  have C72 : Hid (∀ w, Calls Tryz.prog 137 #[.int .u8 (c.toNat : Nat)] w fun e w' => e = .returned (.bool false) ∧ w' = w) := Lib.hid (fun w => by rw [← hl]; exact letter_any c w)
  have C73 : Hid (∀ w, Calls Tryz.prog 138 #[.int .u8 (c.toNat : Nat)] w fun e w' => e = .returned (.bool false) ∧ w' = w) := Lib.hid (fun w => by rw [← hd]; exact digit_any c w)
  clear hl hc hd h45 hE
  obtain ⟨D, hD⟩ : ∃ D, D = (rest s (i + 1)).takeWhile digB := ⟨_, rfl⟩
  have HD := Lib.hid hD
  clear hD
  go_enter Tryz.func82, Tryz.ntmps82
  go_upto_region 11 with (first | (go_at_call 137; refine (C72.out _).mono ?_; rintro e w1 ⟨rfl, rfl⟩) | (go_at_call 138; refine (C73.out _).mono ?_; rintro e w1 ⟨rfl, rfl⟩))
  obtain ⟨n, hn⟩ : ∃ n, n = w.heap.size := ⟨_, rfl⟩
  obtain ⟨W, hW⟩ : ∃ W, W = (w.alloc (.cells #[.int .u8 0, .int .i64 0, .int .i64 0, .string ⟨#[]⟩, .int .i64 0] 58)).alloc (.cells #[.int .u8 0, .int .i64 i, .int .i64 0, .string ⟨#[]⟩, .int .i64 0] 58) := ⟨_, rfl⟩
  have HRW : Hid (Rdr W p s i k) := Lib.hid (by rw [hW]; exact (BlkN.alloc HR.out _).alloc _)
  have HZ : Hid (BlkN W n 58 #[.int .u8 0, .int .i64 0, .int .i64 0, .string ⟨#[]⟩, .int .i64 0]) := Lib.hid (by rw [hW, hn]; exact (BlkN.at_ rfl _ _).alloc _)
  have HT : Hid (BlkN W (n + 1) 58 #[.int .u8 0, .int .i64 i, .int .i64 0, .string ⟨#[]⟩, .int .i64 0]) := Lib.hid (by rw [hW, hn]; exact BlkN.at_ (by simp) _ _)
  have HU : Hid (Upd p w W) := Lib.hid (by rw [hW]; exact ((Upd.refl p w).alloc _).alloc _)
  have HPN : Hid (p < n ∧ n = w.heap.size) := Lib.hid ⟨by rw [hn]; exact hp, hn⟩
  have hpn : p < n := by rw [hn]; exact hp
  rw [← hW, ← hn]
  clear hW hn c0 c1 hp
  have C74 := digits_neg s i k W p HRW.out hi hs H45.out (HEP.out.on HU.out)
  rw [← HD.out] at C74
  cases hO : numO true D with
  | none =>
    rw [hO] at C74
    have HC74 := Lib.hid C74
    have HO := Lib.hid hO
    clear C74 hO
    go_wp2_with (first | (go_at_call 139; refine HC74.out.mono ?_; rintro e w2 ⟨hu2, hr2, m, ok, rfl, rfl⟩; have HU2 := Lib.hid (HU.out.trans hu2); clear hu2 hr2))
    refine ⟨rfl, HU2.out, ?_⟩
    rw [HTOK.out, ← HD.out, HO.out]
    exact ⟨i, by omega, rfl, rfl⟩
  | some v =>
    rw [hO] at C74
    have HC74 := Lib.hid C74
    have HO := Lib.hid hO
    clear C74 hO
    go_upto_region 26 with (first | (go_at_call 139; refine HC74.out.mono ?_; rintro e W2 ⟨hu2, hr2, m, ok, rfl, rfl, rfl⟩; have HU2 := Lib.hid (HU.out.trans hu2); have ht2 := BlkN.upd hu2 HT.out (by omega); have HZ2 := Lib.hid (BlkN.upd hu2 HZ.out (by omega)); have e0 := ht2.cell 0 rfl; have e1 := ht2.cell 1 rfl; have e2 := ht2.cell 2 rfl; have e3 := ht2.cell 3 rfl; have e4 := ht2.cell 4 rfl; have x0 := ht2.free 0; have x2 := ht2.free 2; have hnT := ht2.lt; have HT2 := Lib.hid ht2; have HR2 := Lib.hid hr2; clear hu2 hr2 ht2))
    obtain ⟨j, hj⟩ : ∃ j, j = (i + 1) + D.length := ⟨_, rfl⟩
    have HJ := Lib.hid hj
    rw [← hj] at HR2
    clear hj
    obtain ⟨V, hV⟩ : ∃ V, V = (W2.setCell ⟨n + 1, 0, Option.none⟩ (.int .u8 2)).setCell ⟨n + 1, 2, Option.none⟩ (.int .i64 m) := ⟨_, rfl⟩
    have HTV : Hid (BlkN V (n + 1) 58 #[.int .u8 2, .int .i64 i, .int .i64 m, .string ⟨#[]⟩, .int .i64 0]) := Lib.hid (by rw [hV]; exact (by simpa using (BlkN.set HT2.out 0 (.int .u8 2)).set 2 (.int .i64 m) : BlkN ((W2.setCell ⟨n + 1, 0, Option.none⟩ (.int .u8 2)).setCell ⟨n + 1, 2, Option.none⟩ (.int .i64 m)) (n + 1) 58 _))
    have HZV : Hid (BlkN V n 58 #[.int .u8 0, .int .i64 0, .int .i64 0, .string ⟨#[]⟩, .int .i64 0]) := Lib.hid (by rw [hV]; exact (HZ2.out.setOther (q := ⟨n + 1, 0, Option.none⟩) (by show n ≠ n + 1; omega) _).setOther (q := ⟨n + 1, 2, Option.none⟩) (by show n ≠ n + 1; omega) _)
    have HRV : Hid (Rdr V p s j k) := Lib.hid (by rw [hV]; exact (BlkN.setOther HR2.out (q := ⟨n + 1, 0, Option.none⟩) (by show p ≠ n + 1; omega) _).setOther (q := ⟨n + 1, 2, Option.none⟩) (by show p ≠ n + 1; omega) _)
    have hnw := HPN.out.2
    have HUV : Hid (Upd p w V) := Lib.hid (by rw [hV]; exact ((HU2.out.setNew (q := ⟨n + 1, 0, Option.none⟩) (by show w.heap.size ≤ n + 1; omega) _).setNew (q := ⟨n + 1, 2, Option.none⟩) (by show w.heap.size ≤ n + 1; omega) _))
    rw [← hV]
    clear hV e0 e1 e2 e3 e4 x0 x2 hnT hnw
    have g0 := HTV.out.cell 0 rfl
    have g1 := HTV.out.cell 1 rfl
    have g2 := HTV.out.cell 2 rfl
    have g3 := HTV.out.cell 3 rfl
    have g4 := HTV.out.cell 4 rfl
    have hgV := HTV.out.lt
    have z0 := HZV.out.cell 0 rfl
    have z1 := HZV.out.cell 1 rfl
    have z2 := HZV.out.cell 2 rfl
    have z3 := HZV.out.cell 3 rfl
    have z4 := HZV.out.cell 4 rfl
    have y0 := HZV.out.free 0
    have y1 := HZV.out.free 1
    have y2 := HZV.out.free 2
    have y3 := HZV.out.free 3
    have y4 := HZV.out.free 4
    have hzV := HZV.out.lt
    go_wp2_with fail
    obtain ⟨V', hV', hB, hbut⟩ := set5_tok HZV.out (.int .u8 2) (.int .i64 i) (.int .i64 m) (.string ⟨#[]⟩) (.int .i64 0)
    rw [hV']
    have hnw := HPN.out.2
    refine bodyPost_ret (results_cell1 (s := 4) (b := n) rfl Tryz.underlying58 hi0 rfl hB (by rw [hz1]; rfl)) rfl ⟨hbut.upd (by omega) HUV.out, ?_⟩
    rw [HTOK.out, ← HD.out, HO.out]
    have hjj := HJ.out
    have hlen : D.length ≤ (rest s (i + 1)).length := by rw [HD.out]; exact tww_len _ _
    have hne : D ≠ [] := fun h => by have := HO.out; rw [h] at this; simp [numO] at this
    have hpos := List.length_pos_iff.2 hne
    rw [rest_len] at hlen
    refine ⟨j, by omega, by omega, ?_, rfl, HRV.out.but hbut (by omega)⟩
    rw [hjj, rest_drop s (i + 1), HD.out, tww_drop]
end Go.Proofs.YtjmelamllapmiaaGreatDoor
