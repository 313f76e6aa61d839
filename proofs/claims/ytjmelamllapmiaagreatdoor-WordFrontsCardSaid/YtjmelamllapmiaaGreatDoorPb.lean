/- The reader of package word: token: references, texts, signs. -/
import Derived.Test.YtjmelamllapmiaaGreatDoorPa
namespace Go.Proofs.YtjmelamllapmiaaGreatDoor
open Go.RowKit

theorem tokL_ref (most : Nat) (a : Int) (l : L8) (c : UInt8) (t : L8) (h : l = c :: t) (hc : c = 35) : tokL most a l = match numO false (t.takeWhile digB) with | some n => if n < 1 then .no l else .ok ⟨4, a, 0, [], n⟩ (t.dropWhile digB) | Option.none => .no l := by
  subst h hc
  have h1 : lett 35 = false := rfl
  have h2 : digB 35 = false := rfl
  have h3 : ¬ (35 : UInt8) = 45 := by decide
  simp only [tokL, h1, h2, Bool.false_eq_true, if_false, if_true, if_neg h3]
  rfl
theorem tokL_text (most : Nat) (a : Int) (l : L8) (c : UInt8) (t : L8) (h : l = c :: t) (hc : c = 34) : tokL most a l = match quo most l with | .ok b r => .ok ⟨3, a, 0, b, 0⟩ r | .no r => .no r := by
  subst h hc
  have h1 : lett 34 = false := rfl
  have h2 : digB 34 = false := rfl
  have h3 : ¬ (34 : UInt8) = 45 := by decide
  have h4 : ¬ (34 : UInt8) = 35 := by decide
  simp only [tokL, quo, h1, h2, Bool.false_eq_true, if_false, if_true, if_neg h3, if_neg h4]
  rfl
/-- A byte that begins no name, no number, no reference, no text. -/
def Odd (c : UInt8) : Prop := lett c = false ∧ digB c = false ∧ c ≠ 45 ∧ c ≠ 35 ∧ c ≠ 34
theorem tokL_other (most : Nat) (a : Int) (l : L8) (c : UInt8) (t : L8) (h : l = c :: t) (hc : Odd c) : tokL most a l = if sgnB c then .ok ⟨5, a, 0, [c], 0⟩ t else .no l := by
  subst h
  obtain ⟨h1, h2, h3, h4, h5⟩ := hc
  simp only [tokL, h1, h2, Bool.false_eq_true, if_false, if_neg h3, if_neg h4, if_neg h5]
set_option maxRecDepth 100000 in
set_option maxHeartbeats 4000000 in
theorem token_ref (s : ByteArray) (i k : Nat) (w : World) (p : Nat) (h : Rdr w p s i k) (hi : i < s.size) (hs : s.size ≤ 140737488351232) (c : UInt8) (hc : c = s[i]) (h35 : c = 35) (hE : ErrP p w) :
    Calls Tryz.prog 82 #[.pointer (some ⟨p, 0, Option.none⟩), .int .u8 (c.toNat : Nat)] w (TokP s i k w p) := by
  obtain ⟨i0, hi0, hz0, hz1, hz2⟩ := info_parts info56
  have hp := h.lt
  have c0 := h.cell 0 rfl
  have c1 := h.cell 1 rfl
  have HR := Lib.hid h
  have HRC : Hid (rest s i = c :: rest s (i + 1)) := Lib.hid (by rw [rest_cons hi, hc])
  have HC := Lib.hid hc
  clear h
  have hl : lett c = false := by rw [h35]; rfl
  have hd : digB c = false := by rw [h35]; rfl
  have hb45 : ((c.toNat : Int) == 45) = false := by rw [h35]; rfl
  have hb35 : ((c.toNat : Int) == 35) = true := by rw [h35]; rfl
  have HTOK := Lib.hid (tokL_ref s.size i (rest s i) c _ HRC.out h35)
  have HEP := Lib.hid hE
  have C72 : Hid (∀ w, Calls Tryz.prog 137 #[.int .u8 (c.toNat : Nat)] w fun e w' => e = .returned (.bool false) ∧ w' = w) := Lib.hid (fun w => by rw [← hl]; exact letter_any c w)
  have C73 : Hid (∀ w, Calls Tryz.prog 138 #[.int .u8 (c.toNat : Nat)] w fun e w' => e = .returned (.bool false) ∧ w' = w) := Lib.hid (fun w => by rw [← hd]; exact digit_any c w)
  clear hl hd hc h35 hE
  obtain ⟨D, hD⟩ : ∃ D, D = (rest s (i + 1)).takeWhile digB := ⟨_, rfl⟩
  have HD := Lib.hid hD
  clear hD
  go_enter Tryz.func82, Tryz.ntmps82
  go_upto_region 16 with (first | (go_at_call 137; refine (C72.out _).mono ?_; rintro e w1 ⟨rfl, rfl⟩) | (go_at_call 138; refine (C73.out _).mono ?_; rintro e w1 ⟨rfl, rfl⟩))
  obtain ⟨n, hn⟩ : ∃ n, n = w.heap.size := ⟨_, rfl⟩
  obtain ⟨W, hW⟩ : ∃ W, W = (w.alloc (.cells #[.int .u8 0, .int .i64 0, .int .i64 0, .string ⟨#[]⟩, .int .i64 0] 58)).alloc (.cells #[.int .u8 0, .int .i64 i, .int .i64 0, .string ⟨#[]⟩, .int .i64 0] 58) := ⟨_, rfl⟩
  have HRW : Hid (Rdr W p s i k) := Lib.hid (by rw [hW]; exact (BlkN.alloc HR.out _).alloc _)
  have HZ : Hid (BlkN W n 58 #[.int .u8 0, .int .i64 0, .int .i64 0, .string ⟨#[]⟩, .int .i64 0]) := Lib.hid (by rw [hW, hn]; exact (BlkN.at_ rfl _ _).alloc _)
  have HT : Hid (BlkN W (n + 1) 58 #[.int .u8 0, .int .i64 i, .int .i64 0, .string ⟨#[]⟩, .int .i64 0]) := Lib.hid (by rw [hW, hn]; exact BlkN.at_ (by simp) _ _)
  have HU : Hid (Upd p w W) := Lib.hid (by rw [hW]; exact ((Upd.refl p w).alloc _).alloc _)
  have HPN : Hid (p < n ∧ n = w.heap.size) := Lib.hid ⟨by rw [hn]; exact hp, hn⟩
  have hpn : p < n := by rw [hn]; exact hp
  rw [← hW, ← hn]
  clear hW hn c0 c1 hp
  have hpW := HRW.out.lt
  have c1 := HRW.out.cell 1 rfl
  have f1 := HRW.out.free 1
  go_upto_region 17 with fail
  obtain ⟨W1, hW1⟩ : ∃ W1, W1 = W.setCell ⟨p, 1, Option.none⟩ (.int .i64 ((i : Int) + 1)) := ⟨_, rfl⟩
  have HR1 : Hid (Rdr W1 p s (i + 1) k) := Lib.hid (by rw [hW1]; exact Rdr.adv HRW.out)
  have HZ1 : Hid (BlkN W1 n 58 #[.int .u8 0, .int .i64 0, .int .i64 0, .string ⟨#[]⟩, .int .i64 0]) := Lib.hid (by rw [hW1]; exact HZ.out.setOther (q := ⟨p, 1, Option.none⟩) (by show n ≠ p; omega) _)
  have HT1 : Hid (BlkN W1 (n + 1) 58 #[.int .u8 0, .int .i64 i, .int .i64 0, .string ⟨#[]⟩, .int .i64 0]) := Lib.hid (by rw [hW1]; exact HT.out.setOther (q := ⟨p, 1, Option.none⟩) (by show n + 1 ≠ p; omega) _)
  have HU1 : Hid (Upd p w W1) := Lib.hid (by rw [hW1]; exact HU.out.set 1 _)
  rw [← hW1]
  clear hW1 c1 f1 hpW
  have C74 := digits_pos s (i + 1) k W1 p HR1.out (by omega) hs (HEP.out.on HU1.out)
  rw [← HD.out] at C74
  cases hO : numO false D with
  | none =>
    rw [hO] at C74
    have HC74 := Lib.hid C74
    have HO := Lib.hid hO
    clear C74 hO
    go_wp2_with (first | (go_at_call 139; refine HC74.out.mono ?_; rintro e w2 ⟨hu2, hr2, m, ok, rfl, rfl⟩; have HU2 := Lib.hid (HU1.out.trans hu2); clear hu2 hr2))
    refine ⟨rfl, HU2.out, ?_⟩
    rw [HTOK.out, ← HD.out, HO.out]
    exact ⟨i, by omega, rfl, rfl⟩
  | some v =>
    rw [hO] at C74
    have HC74 := Lib.hid C74
    have HO := Lib.hid hO
    clear C74 hO
    by_cases hv1 : v < 1
    · have HV1 := Lib.hid hv1
      go_wp2_with (first | (go_at_call 139; refine HC74.out.mono ?_; rintro e w2 ⟨hu2, hr2, m, ok, rfl, rfl, rfl⟩; have HU2 := Lib.hid (HU1.out.trans hu2); clear hu2 hr2))
      refine ⟨rfl, HU2.out, ?_⟩
      rw [HTOK.out, ← HD.out, HO.out]
      simp only [if_pos HV1.out]
      exact ⟨i, by omega, rfl, rfl⟩
    have HV1 := Lib.hid hv1
    go_upto_region 26 with (first | (go_at_call 139; refine HC74.out.mono ?_; rintro e W2 ⟨hu2, hr2, m, ok, rfl, rfl, rfl⟩; have HU2 := Lib.hid (HU1.out.trans hu2); have ht2 := BlkN.upd hu2 HT1.out (by omega); have HZ2 := Lib.hid (BlkN.upd hu2 HZ1.out (by omega)); have e0 := ht2.cell 0 rfl; have e1 := ht2.cell 1 rfl; have e2 := ht2.cell 2 rfl; have e3 := ht2.cell 3 rfl; have e4 := ht2.cell 4 rfl; have x0 := ht2.free 0; have x4 := ht2.free 4; have hnT := ht2.lt; have HT2 := Lib.hid ht2; have HR2 := Lib.hid hr2; clear hu2 hr2 ht2))
    obtain ⟨j, hj⟩ : ∃ j, j = (i + 1) + D.length := ⟨_, rfl⟩
    have HJ := Lib.hid hj
    rw [← hj] at HR2
    clear hj
    obtain ⟨V, hV⟩ : ∃ V, V = (W2.setCell ⟨n + 1, 0, Option.none⟩ (.int .u8 4)).setCell ⟨n + 1, 4, Option.none⟩ (.int .i64 m) := ⟨_, rfl⟩
    have HTV : Hid (BlkN V (n + 1) 58 #[.int .u8 4, .int .i64 i, .int .i64 0, .string ⟨#[]⟩, .int .i64 m]) := Lib.hid (by rw [hV]; exact (by simpa using (BlkN.set HT2.out 0 (.int .u8 4)).set 4 (.int .i64 m) : BlkN ((W2.setCell ⟨n + 1, 0, Option.none⟩ (.int .u8 4)).setCell ⟨n + 1, 4, Option.none⟩ (.int .i64 m)) (n + 1) 58 _))
    have HZV : Hid (BlkN V n 58 #[.int .u8 0, .int .i64 0, .int .i64 0, .string ⟨#[]⟩, .int .i64 0]) := Lib.hid (by rw [hV]; exact (HZ2.out.setOther (q := ⟨n + 1, 0, Option.none⟩) (by show n ≠ n + 1; omega) _).setOther (q := ⟨n + 1, 4, Option.none⟩) (by show n ≠ n + 1; omega) _)
    have HRV : Hid (Rdr V p s j k) := Lib.hid (by rw [hV]; exact (BlkN.setOther HR2.out (q := ⟨n + 1, 0, Option.none⟩) (by show p ≠ n + 1; omega) _).setOther (q := ⟨n + 1, 4, Option.none⟩) (by show p ≠ n + 1; omega) _)
    have hnw := HPN.out.2
    have HUV : Hid (Upd p w V) := Lib.hid (by rw [hV]; exact ((HU2.out.setNew (q := ⟨n + 1, 0, Option.none⟩) (by show w.heap.size ≤ n + 1; omega) _).setNew (q := ⟨n + 1, 4, Option.none⟩) (by show w.heap.size ≤ n + 1; omega) _))
    rw [← hV]
    clear hV e0 e1 e2 e3 e4 x0 x4 hnT hnw
    have g0 := HTV.out.cell 0 rfl
    have g1 := HTV.out.cell 1 rfl
    have g2 := HTV.out.cell 2 rfl
    have g3 := HTV.out.cell 3 rfl
    have g4 := HTV.out.cell 4 rfl
    have hgV := HTV.out.lt
    have z0 := HZV.out.cell 0 rfl
    have z1 := HZV.out.cell 1 rfl
    have z2 := HZV.out.cell 2 rfl
    have z3 := HZV.out.cell 3 rfl
    have z4 := HZV.out.cell 4 rfl
    have y0 := HZV.out.free 0
    have y1 := HZV.out.free 1
    have y2 := HZV.out.free 2
    have y3 := HZV.out.free 3
    have y4 := HZV.out.free 4
    have hzV := HZV.out.lt
    go_wp2_with fail
    obtain ⟨V', hV', hB, hbut⟩ := set5_tok HZV.out (.int .u8 4) (.int .i64 i) (.int .i64 0) (.string ⟨#[]⟩) (.int .i64 m)
    rw [hV']
    have hnw := HPN.out.2
    refine bodyPost_ret (results_cell1 (s := 4) (b := n) rfl Tryz.underlying58 hi0 rfl hB (by rw [hz1]; rfl)) rfl ⟨hbut.upd (by omega) HUV.out, ?_⟩
    rw [HTOK.out, ← HD.out, HO.out]
    have hv2 : ¬ m < 1 := by have := HV1.out; omega
    simp only [if_neg hv2]
    have hjj := HJ.out
    have hlen : D.length ≤ (rest s (i + 1)).length := by rw [HD.out]; exact tww_len _ _
    rw [rest_len] at hlen
    refine ⟨j, by omega, by omega, ?_, rfl, HRV.out.but hbut (by omega)⟩
    rw [hjj, rest_drop s (i + 1), HD.out, tww_drop]
set_option maxRecDepth 100000 in
set_option maxHeartbeats 4000000 in
theorem token_text (s : ByteArray) (i k : Nat) (w : World) (p : Nat) (h : Rdr w p s i k) (hi : i < s.size) (hs : s.size ≤ 140737488351232) (c : UInt8) (hc : c = s[i]) (h34 : c = 34) :
    Calls Tryz.prog 82 #[.pointer (some ⟨p, 0, Option.none⟩), .int .u8 (c.toNat : Nat)] w (TokP s i k w p) := by
  obtain ⟨i0, hi0, hz0, hz1, hz2⟩ := info_parts info56
  have hp := h.lt
  have c0 := h.cell 0 rfl
  have c1 := h.cell 1 rfl
  have HR := Lib.hid h
  have HRC : Hid (rest s i = c :: rest s (i + 1)) := Lib.hid (by rw [rest_cons hi, hc])
  have HC := Lib.hid hc
  clear h
  have hl : lett c = false := by rw [h34]; rfl
  have hd : digB c = false := by rw [h34]; rfl
  have hb45 : ((c.toNat : Int) == 45) = false := by rw [h34]; rfl
  have hb35 : ((c.toNat : Int) == 35) = false := by rw [h34]; rfl
  have hb34 : ((c.toNat : Int) == 34) = true := by rw [h34]; rfl
  have HTOK := Lib.hid (tokL_text s.size i (rest s i) c _ HRC.out h34)
  have C72 : Hid (∀ w, Calls Tryz.prog 137 #[.int .u8 (c.toNat : Nat)] w fun e w' => e = .returned (.bool false) ∧ w' = w) := Lib.hid (fun w => by rw [← hl]; exact letter_any c w)
  have C73 : Hid (∀ w, Calls Tryz.prog 138 #[.int .u8 (c.toNat : Nat)] w fun e w' => e = .returned (.bool false) ∧ w' = w) := Lib.hid (fun w => by rw [← hd]; exact digit_any c w)
  clear hl hd hc h34
  go_enter Tryz.func82, Tryz.ntmps82
  go_upto_region 22 with (first | (go_at_call 137; refine (C72.out _).mono ?_; rintro e w1 ⟨rfl, rfl⟩) | (go_at_call 138; refine (C73.out _).mono ?_; rintro e w1 ⟨rfl, rfl⟩))
  obtain ⟨n, hn⟩ : ∃ n, n = w.heap.size := ⟨_, rfl⟩
  obtain ⟨W, hW⟩ : ∃ W, W = (w.alloc (.cells #[.int .u8 0, .int .i64 0, .int .i64 0, .string ⟨#[]⟩, .int .i64 0] 58)).alloc (.cells #[.int .u8 0, .int .i64 i, .int .i64 0, .string ⟨#[]⟩, .int .i64 0] 58) := ⟨_, rfl⟩
  have HRW : Hid (Rdr W p s i k) := Lib.hid (by rw [hW]; exact (BlkN.alloc HR.out _).alloc _)
  have HZ : Hid (BlkN W n 58 #[.int .u8 0, .int .i64 0, .int .i64 0, .string ⟨#[]⟩, .int .i64 0]) := Lib.hid (by rw [hW, hn]; exact (BlkN.at_ rfl _ _).alloc _)
  have HT : Hid (BlkN W (n + 1) 58 #[.int .u8 0, .int .i64 i, .int .i64 0, .string ⟨#[]⟩, .int .i64 0]) := Lib.hid (by rw [hW, hn]; exact BlkN.at_ (by simp) _ _)
  have HU : Hid (Upd p w W) := Lib.hid (by rw [hW]; exact ((Upd.refl p w).alloc _).alloc _)
  have HPN : Hid (p < n ∧ n = w.heap.size) := Lib.hid ⟨by rw [hn]; exact hp, hn⟩
  have hpn : p < n := by rw [hn]; exact hp
  rw [← hW, ← hn]
  clear hW hn c0 c1 hp
  have hpW := HRW.out.lt
  have c0 := HRW.out.cell 0 rfl
  have C44 := quoted_any s.size s i k W p HRW.out (by omega) hs
  cases hO : quo s.size (rest s i) with
  | no t =>
    rw [hO] at C44
    have HC44 := Lib.hid C44
    have HO := Lib.hid hO
    clear C44 hO
    go_wp2_with (first | (go_at_call 107; refine HC44.out.mono ?_; rintro e w2 ⟨hu2, j2, hj2, rfl, rfl⟩; have HU2 := Lib.hid (HU.out.trans hu2); clear hu2))
    refine ⟨rfl, HU2.out, ?_⟩
    rw [HTOK.out, HO.out]
    exact ⟨j2, hj2, rfl, rfl⟩
  | ok b t =>
    rw [hO] at C44
    have HC44 := Lib.hid C44
    have HO := Lib.hid hO
    clear C44 hO
    go_upto_region 26 with (first | (go_at_call 107; refine HC44.out.mono ?_; rintro e W2 ⟨hu2, j, hjj, hj2, rfl, rfl, hr2⟩; have HU2 := Lib.hid (HU.out.trans hu2); have ht2 := BlkN.upd hu2 HT.out (by omega); have HZ2 := Lib.hid (BlkN.upd hu2 HZ.out (by omega)); have e0 := ht2.cell 0 rfl; have e1 := ht2.cell 1 rfl; have e2 := ht2.cell 2 rfl; have e3 := ht2.cell 3 rfl; have e4 := ht2.cell 4 rfl; have x0 := ht2.free 0; have x3 := ht2.free 3; have hnT := ht2.lt; have HT2 := Lib.hid ht2; have HR2 := Lib.hid hr2; clear hu2 hr2 ht2))
    obtain ⟨V, hV⟩ : ∃ V, V = (W2.setCell ⟨n + 1, 0, Option.none⟩ (.int .u8 3)).setCell ⟨n + 1, 3, Option.none⟩ (.string (txtV b)) := ⟨_, rfl⟩
    have HTV : Hid (BlkN V (n + 1) 58 #[.int .u8 3, .int .i64 i, .int .i64 0, .string (txtV b), .int .i64 0]) := Lib.hid (by rw [hV]; exact (by simpa using (BlkN.set HT2.out 0 (.int .u8 3)).set 3 (.string (txtV b)) : BlkN ((W2.setCell ⟨n + 1, 0, Option.none⟩ (.int .u8 3)).setCell ⟨n + 1, 3, Option.none⟩ (.string (txtV b))) (n + 1) 58 _))
    have HZV : Hid (BlkN V n 58 #[.int .u8 0, .int .i64 0, .int .i64 0, .string ⟨#[]⟩, .int .i64 0]) := Lib.hid (by rw [hV]; exact (HZ2.out.setOther (q := ⟨n + 1, 0, Option.none⟩) (by show n ≠ n + 1; omega) _).setOther (q := ⟨n + 1, 3, Option.none⟩) (by show n ≠ n + 1; omega) _)
    have HRV : Hid (Rdr V p s j k) := Lib.hid (by rw [hV]; exact (BlkN.setOther HR2.out (q := ⟨n + 1, 0, Option.none⟩) (by show p ≠ n + 1; omega) _).setOther (q := ⟨n + 1, 3, Option.none⟩) (by show p ≠ n + 1; omega) _)
    have hnw := HPN.out.2
    have HUV : Hid (Upd p w V) := Lib.hid (by rw [hV]; exact ((HU2.out.setNew (q := ⟨n + 1, 0, Option.none⟩) (by show w.heap.size ≤ n + 1; omega) _).setNew (q := ⟨n + 1, 3, Option.none⟩) (by show w.heap.size ≤ n + 1; omega) _))
    rw [← hV]
    clear hV e0 e1 e2 e3 e4 x0 x3 hnT hnw
    have g0 := HTV.out.cell 0 rfl
    have g1 := HTV.out.cell 1 rfl
    have g2 := HTV.out.cell 2 rfl
    have g3 := HTV.out.cell 3 rfl
    have g4 := HTV.out.cell 4 rfl
    have hgV := HTV.out.lt
    have z0 := HZV.out.cell 0 rfl
    have z1 := HZV.out.cell 1 rfl
    have z2 := HZV.out.cell 2 rfl
    have z3 := HZV.out.cell 3 rfl
    have z4 := HZV.out.cell 4 rfl
    have y0 := HZV.out.free 0
    have y1 := HZV.out.free 1
    have y2 := HZV.out.free 2
    have y3 := HZV.out.free 3
    have y4 := HZV.out.free 4
    have hzV := HZV.out.lt
    go_wp2_with fail
    obtain ⟨V', hV', hB, hbut⟩ := set5_tok HZV.out (.int .u8 3) (.int .i64 i) (.int .i64 0) (.string (txtV b)) (.int .i64 0)
    rw [hV']
    have hnw := HPN.out.2
    refine bodyPost_ret (results_cell1 (s := 4) (b := n) rfl Tryz.underlying58 hi0 rfl hB (by rw [hz1]; rfl)) rfl ⟨hbut.upd (by omega) HUV.out, ?_⟩
    rw [HTOK.out, HO.out]
    exact ⟨j, hjj, hj2, rfl, rfl, HRV.out.but hbut (by omega)⟩
set_option maxRecDepth 100000 in
set_option maxHeartbeats 4000000 in
theorem token_bad (s : ByteArray) (i k : Nat) (w : World) (p : Nat) (h : Rdr w p s i k) (hi : i < s.size) (_hs : s.size ≤ 140737488351232) (c : UInt8) (hc : c = s[i]) (hc5 : Odd c) (hsg : sgnB c = false) :
    Calls Tryz.prog 82 #[.pointer (some ⟨p, 0, Option.none⟩), .int .u8 (c.toNat : Nat)] w (TokP s i k w p) := by
  obtain ⟨i0, hi0, hz0, hz1, hz2⟩ := info_parts info56
  have hp := h.lt
  have c0 := h.cell 0 rfl
  have c1 := h.cell 1 rfl
  have HR := Lib.hid h
  have HRC : Hid (rest s i = c :: rest s (i + 1)) := Lib.hid (by rw [rest_cons hi, hc])
  have HC := Lib.hid hc
  clear h
  have HC5 := Lib.hid hc5
  obtain ⟨h1, h2, h3, h4, h5⟩ := hc5
  have hl := h1
  have hd := h2
  have hb45 : ((c.toNat : Int) == 45) = false := u8_beq (n := 45) (by decide) h3
  have hb35 : ((c.toNat : Int) == 35) = false := u8_beq (n := 35) (by decide) h4
  have hb34 : ((c.toNat : Int) == 34) = false := u8_beq (n := 34) (by decide) h5
  have HTOK := Lib.hid (tokL_other s.size i (rest s i) c _ HRC.out HC5.out)
  have HSG := Lib.hid hsg
  have C72 : Hid (∀ w, Calls Tryz.prog 137 #[.int .u8 (c.toNat : Nat)] w fun e w' => e = .returned (.bool false) ∧ w' = w) := Lib.hid (fun w => by rw [← hl]; exact letter_any c w)
  have C73 : Hid (∀ w, Calls Tryz.prog 138 #[.int .u8 (c.toNat : Nat)] w fun e w' => e = .returned (.bool false) ∧ w' = w) := Lib.hid (fun w => by rw [← hd]; exact digit_any c w)
  have C49 : Hid (∀ w, Calls Tryz.prog 80 #[.int .u8 (c.toNat : Nat)] w fun e w' => e = .returned (.bool false) ∧ w' = w) := Lib.hid (fun w => by rw [← hsg]; exact sign_any c w)
  clear hl hd hc h1 h2 h3 h4 h5 hsg
  go_enter Tryz.func82, Tryz.ntmps82
  go_upto_region 3 with (first | (go_at_call 137; refine (C72.out _).mono ?_; rintro e w1 ⟨rfl, rfl⟩) | (go_at_call 138; refine (C73.out _).mono ?_; rintro e w1 ⟨rfl, rfl⟩) | (go_at_call 80; refine (C49.out _).mono ?_; rintro e w1 ⟨rfl, rfl⟩))
  obtain ⟨n, hn⟩ : ∃ n, n = w.heap.size := ⟨_, rfl⟩
  obtain ⟨W, hW⟩ : ∃ W, W = (w.alloc (.cells #[.int .u8 0, .int .i64 0, .int .i64 0, .string ⟨#[]⟩, .int .i64 0] 58)).alloc (.cells #[.int .u8 0, .int .i64 i, .int .i64 0, .string ⟨#[]⟩, .int .i64 0] 58) := ⟨_, rfl⟩
  have HRW : Hid (Rdr W p s i k) := Lib.hid (by rw [hW]; exact (BlkN.alloc HR.out _).alloc _)
  have HZ : Hid (BlkN W n 58 #[.int .u8 0, .int .i64 0, .int .i64 0, .string ⟨#[]⟩, .int .i64 0]) := Lib.hid (by rw [hW, hn]; exact (BlkN.at_ rfl _ _).alloc _)
  have HT : Hid (BlkN W (n + 1) 58 #[.int .u8 0, .int .i64 i, .int .i64 0, .string ⟨#[]⟩, .int .i64 0]) := Lib.hid (by rw [hW, hn]; exact BlkN.at_ (by simp) _ _)
  have HU : Hid (Upd p w W) := Lib.hid (by rw [hW]; exact ((Upd.refl p w).alloc _).alloc _)
  have HPN : Hid (p < n ∧ n = w.heap.size) := Lib.hid ⟨by rw [hn]; exact hp, hn⟩
  have hpn : p < n := by rw [hn]; exact hp
  rw [← hW, ← hn]
  clear hW hn c0 c1 hp
  go_wp2_with (first | (go_at_call 81; refine (wrong_any s i k W p HRW.out).mono ?_; rintro e w2 ⟨hb2, rfl⟩))
  refine ⟨rfl, HU.out.below hb2, ?_⟩
  rw [HTOK.out, if_neg (by rw [HSG.out]; simp)]
  exact ⟨i, by omega, rfl, rfl⟩
set_option maxRecDepth 100000 in
set_option maxHeartbeats 4000000 in
theorem token_sign (s : ByteArray) (i k : Nat) (w : World) (p : Nat) (h : Rdr w p s i k) (hi : i < s.size) (hs : s.size ≤ 140737488351232) (c : UInt8) (hc : c = s[i]) (hc5 : Odd c) (hsg : sgnB c = true) :
    Calls Tryz.prog 82 #[.pointer (some ⟨p, 0, Option.none⟩), .int .u8 (c.toNat : Nat)] w (TokP s i k w p) := by
  obtain ⟨i0, hi0, hz0, hz1, hz2⟩ := info_parts info56
  have hp := h.lt
  have c0 := h.cell 0 rfl
  have c1 := h.cell 1 rfl
  have HR := Lib.hid h
  have HRC : Hid (rest s i = c :: rest s (i + 1)) := Lib.hid (by rw [rest_cons hi, hc])
  have HC := Lib.hid hc
  clear h
  have HC5 := Lib.hid hc5
  obtain ⟨h1, h2, h3, h4, h5⟩ := hc5
  have hl := h1
  have hd := h2
  have hb45 : ((c.toNat : Int) == 45) = false := u8_beq (n := 45) (by decide) h3
  have hb35 : ((c.toNat : Int) == 35) = false := u8_beq (n := 35) (by decide) h4
  have hb34 : ((c.toNat : Int) == 34) = false := u8_beq (n := 34) (by decide) h5
  have HTOK := Lib.hid (tokL_other s.size i (rest s i) c _ HRC.out HC5.out)
  have HSG := Lib.hid hsg
  have C72 : Hid (∀ w, Calls Tryz.prog 137 #[.int .u8 (c.toNat : Nat)] w fun e w' => e = .returned (.bool false) ∧ w' = w) := Lib.hid (fun w => by rw [← hl]; exact letter_any c w)
  have C73 : Hid (∀ w, Calls Tryz.prog 138 #[.int .u8 (c.toNat : Nat)] w fun e w' => e = .returned (.bool false) ∧ w' = w) := Lib.hid (fun w => by rw [← hd]; exact digit_any c w)
  have C49 : Hid (∀ w, Calls Tryz.prog 80 #[.int .u8 (c.toNat : Nat)] w fun e w' => e = .returned (.bool true) ∧ w' = w) := Lib.hid (fun w => by rw [← hsg]; exact sign_any c w)
  clear hl hd hc h1 h2 h3 h4 h5 hsg
  go_enter Tryz.func82, Tryz.ntmps82
  go_upto_region 24 with (first | (go_at_call 137; refine (C72.out _).mono ?_; rintro e w1 ⟨rfl, rfl⟩) | (go_at_call 138; refine (C73.out _).mono ?_; rintro e w1 ⟨rfl, rfl⟩) | (go_at_call 80; refine (C49.out _).mono ?_; rintro e w1 ⟨rfl, rfl⟩))
  obtain ⟨n, hn⟩ : ∃ n, n = w.heap.size := ⟨_, rfl⟩
  obtain ⟨W, hW⟩ : ∃ W, W = (w.alloc (.cells #[.int .u8 0, .int .i64 0, .int .i64 0, .string ⟨#[]⟩, .int .i64 0] 58)).alloc (.cells #[.int .u8 0, .int .i64 i, .int .i64 0, .string ⟨#[]⟩, .int .i64 0] 58) := ⟨_, rfl⟩
  have HRW : Hid (Rdr W p s i k) := Lib.hid (by rw [hW]; exact (BlkN.alloc HR.out _).alloc _)
  have HZ : Hid (BlkN W n 58 #[.int .u8 0, .int .i64 0, .int .i64 0, .string ⟨#[]⟩, .int .i64 0]) := Lib.hid (by rw [hW, hn]; exact (BlkN.at_ rfl _ _).alloc _)
  have HT : Hid (BlkN W (n + 1) 58 #[.int .u8 0, .int .i64 i, .int .i64 0, .string ⟨#[]⟩, .int .i64 0]) := Lib.hid (by rw [hW, hn]; exact BlkN.at_ (by simp) _ _)
  have HU : Hid (Upd p w W) := Lib.hid (by rw [hW]; exact ((Upd.refl p w).alloc _).alloc _)
  have HPN : Hid (p < n ∧ n = w.heap.size) := Lib.hid ⟨by rw [hn]; exact hp, hn⟩
  have hpn : p < n := by rw [hn]; exact hp
  rw [← hW, ← hn]
  clear hW hn c0 c1 hp
  have hpW := HRW.out.lt
  have c1 := HRW.out.cell 1 rfl
  have f1 := HRW.out.free 1
  go_upto_region 25 with fail
  obtain ⟨W2, hW2⟩ : ∃ W2, W2 = W.setCell ⟨p, 1, Option.none⟩ (.int .i64 ((i : Int) + 1)) := ⟨_, rfl⟩
  obtain ⟨j, hj⟩ : ∃ j, j = i + 1 := ⟨_, rfl⟩
  have HR2 : Hid (Rdr W2 p s j k) := Lib.hid (by rw [hW2, hj]; exact Rdr.adv HRW.out)
  have HZ2 : Hid (BlkN W2 n 58 #[.int .u8 0, .int .i64 0, .int .i64 0, .string ⟨#[]⟩, .int .i64 0]) := Lib.hid (by rw [hW2]; exact HZ.out.setOther (q := ⟨p, 1, Option.none⟩) (by show n ≠ p; omega) _)
  have HT2 : Hid (BlkN W2 (n + 1) 58 #[.int .u8 0, .int .i64 i, .int .i64 0, .string ⟨#[]⟩, .int .i64 0]) := Lib.hid (by rw [hW2]; exact HT.out.setOther (q := ⟨p, 1, Option.none⟩) (by show n + 1 ≠ p; omega) _)
  have HU2 : Hid (Upd p w W2) := Lib.hid (by rw [hW2]; exact HU.out.set 1 _)
  rw [← hW2]
  obtain ⟨X, hX⟩ : ∃ X, X = s.extract i j := ⟨_, rfl⟩
  have HXL : Hid (X = txtV [c]) := Lib.hid (by
    have e1 : (s.extract i j).data.toList = (rest s i).take (j - i) := extract_list s i j
    rw [show j - i = 1 by omega, HRC.out] at e1
    rw [hX]
    apply ByteArray.ext
    apply Array.ext'
    rw [e1]; rfl)
  have HX := Lib.hid hX
  have HJ := Lib.hid hj
  have hij1 : (i : Int) ≤ j := by omega
  have hij2 : (j : Int) ≤ s.size := by omega
  have hpj := HR2.out.lt
  clear hW2 c1 f1 hpW hX hj
  refine RegT.region_seq (fun i => Nat.ble i 11) (fun V => Rdr V p s j k) [0, 1, 2, 3, 4, 5, 6, 7, 8, 9, 10] [11, 12, 13] (by kernel_rfl) (by kernel_rfl) (by decide +kernel) (by decide) (show Rdr W2.drew p s j k from HR2.out) ?_
  refine RegT.quiet_step rfl (fun _ _ _ h => h) (by kernel_rfl) (v := .pointer (some ⟨p, 0, Option.none⟩)) (fun w' hS => ?_) ?_
  · go_simp
  refine RegT.quiet_step rfl (fun _ _ _ h => h) (by kernel_rfl) (v := .pointer (some ⟨p, 0, Option.none⟩)) (fun w' hS => ?_) ?_
  · go_simp
  refine RegT.quiet_step rfl (fun _ _ _ h => h) (by kernel_rfl) (v := .pointer (some ⟨p, 0, Option.none⟩)) (fun w' hS => ?_) ?_
  · go_simp
  refine RegT.quiet_step rfl (fun _ _ _ h => h) (by kernel_rfl) (v := .string s) (fun w' hS => ?_) ?_
  · have hS : Rdr w' p s j k := hS; have t0 := hS.cell 0 rfl; have t1 := hS.cell 1 rfl; go_simp
  refine RegT.quiet_step rfl (fun _ _ _ h => h) (by kernel_rfl) (v := .int .i64 i) (fun w' hS => ?_) ?_
  · go_simp
  refine RegT.quiet_step rfl (fun _ _ _ h => h) (by kernel_rfl) (v := .pointer (some ⟨p, 0, Option.none⟩)) (fun w' hS => ?_) ?_
  · go_simp
  refine RegT.quiet_step rfl (fun _ _ _ h => h) (by kernel_rfl) (v := .pointer (some ⟨p, 0, Option.none⟩)) (fun w' hS => ?_) ?_
  · go_simp
  refine RegT.quiet_step rfl (fun _ _ _ h => h) (by kernel_rfl) (v := .pointer (some ⟨p, 1, Option.none⟩)) (fun w' hS => ?_) ?_
  · go_simp
  refine RegT.quiet_step rfl (fun _ _ _ h => h) (by kernel_rfl) (v := .int .i64 j) (fun w' hS => ?_) ?_
  · have hS : Rdr w' p s j k := hS; have t0 := hS.cell 0 rfl; have t1 := hS.cell 1 rfl; go_simp
  refine RegT.quiet_step rfl (fun _ _ _ h => h) (by kernel_rfl) (v := .string (s.extract i j)) (fun w' hS => ?_) ?_
  · go_simp
  refine RegT.quiet_step rfl (fun _ _ _ h => h) (by kernel_rfl) (v := .pointer (some ⟨n + 1, 0, Option.none⟩)) (fun w' hS => ?_) ?_
  · go_simp
  rw [← HX.out]
  have e0 := HT2.out.cell 0 rfl
  have e1 := HT2.out.cell 1 rfl
  have e2 := HT2.out.cell 2 rfl
  have e3 := HT2.out.cell 3 rfl
  have e4 := HT2.out.cell 4 rfl
  have x0 := HT2.out.free 0
  have x3 := HT2.out.free 3
  have hnT := HT2.out.lt
  refine RegT.seqT_held rfl ?_
  go_wp2_with fail
  refine ⟨BlkN.setOther (show Rdr W2.drew p s j k from HR2.out) (q := ⟨n + 1, 0, Option.none⟩) (by show p ≠ n + 1; omega) _, RegT.seqT_tail [12, 13] [_, _] rfl rfl _ _ ?_⟩
  go_wp2_with fail
  simp only [RegT.NP]
  go_upto_region 26 with fail
  obtain ⟨V, hV⟩ : ∃ V, V = ((W2.setCell ⟨n + 1, 0, Option.none⟩ (.int .u8 5)).setCell ⟨n + 1, 3, Option.none⟩ (.string X)).drew := ⟨_, rfl⟩
  have HTV : Hid (BlkN V (n + 1) 58 #[.int .u8 5, .int .i64 i, .int .i64 0, .string X, .int .i64 0]) := Lib.hid (by rw [hV]; exact (by simpa using (BlkN.set HT2.out 0 (.int .u8 5)).set 3 (.string X) : BlkN ((W2.setCell ⟨n + 1, 0, Option.none⟩ (.int .u8 5)).setCell ⟨n + 1, 3, Option.none⟩ (.string X)) (n + 1) 58 _))
  have HZV : Hid (BlkN V n 58 #[.int .u8 0, .int .i64 0, .int .i64 0, .string ⟨#[]⟩, .int .i64 0]) := Lib.hid (by rw [hV]; exact (HZ2.out.setOther (q := ⟨n + 1, 0, Option.none⟩) (by show n ≠ n + 1; omega) _).setOther (q := ⟨n + 1, 3, Option.none⟩) (by show n ≠ n + 1; omega) _)
  have HRV : Hid (Rdr V p s j k) := Lib.hid (by rw [hV]; exact (BlkN.setOther HR2.out (q := ⟨n + 1, 0, Option.none⟩) (by show p ≠ n + 1; omega) _).setOther (q := ⟨n + 1, 3, Option.none⟩) (by show p ≠ n + 1; omega) _)
  have hnw := HPN.out.2
  have HUV : Hid (Upd p w V) := Lib.hid (by rw [hV]; exact ((HU2.out.setNew (q := ⟨n + 1, 0, Option.none⟩) (by show w.heap.size ≤ n + 1; omega) _).setNew (q := ⟨n + 1, 3, Option.none⟩) (by show w.heap.size ≤ n + 1; omega) _).drew)
  rw [← hV]
  clear hV e0 e1 e2 e3 e4 x0 x3 hnT hnw
  have g0 := HTV.out.cell 0 rfl
  have g1 := HTV.out.cell 1 rfl
  have g2 := HTV.out.cell 2 rfl
  have g3 := HTV.out.cell 3 rfl
  have g4 := HTV.out.cell 4 rfl
  have hgV := HTV.out.lt
  have z0 := HZV.out.cell 0 rfl
  have z1 := HZV.out.cell 1 rfl
  have z2 := HZV.out.cell 2 rfl
  have z3 := HZV.out.cell 3 rfl
  have z4 := HZV.out.cell 4 rfl
  have y0 := HZV.out.free 0
  have y1 := HZV.out.free 1
  have y2 := HZV.out.free 2
  have y3 := HZV.out.free 3
  have y4 := HZV.out.free 4
  have hzV := HZV.out.lt
  go_wp2_with fail
  obtain ⟨V', hV', hB, hbut⟩ := set5_tok HZV.out (.int .u8 5) (.int .i64 i) (.int .i64 0) (.string X) (.int .i64 0)
  rw [hV']
  have hnw := HPN.out.2
  refine bodyPost_ret (results_cell1 (s := 4) (b := n) rfl Tryz.underlying58 hi0 rfl hB (by rw [hz1]; rfl)) rfl ⟨hbut.upd (by omega) HUV.out, ?_⟩
  rw [HTOK.out, if_pos HSG.out]
  have hjj := HJ.out
  refine ⟨j, by omega, by omega, by rw [hjj], by rw [HXL.out]; rfl, HRV.out.but hbut (by omega)⟩
theorem token_any (s : ByteArray) (i k : Nat) (w : World) (p : Nat) (h : Rdr w p s i k) (hi : i < s.size) (hs : s.size ≤ 140737488351232) (c : UInt8) (hc : c = s[i]) (hE : ErrP p w) :
    Calls Tryz.prog 82 #[.pointer (some ⟨p, 0, Option.none⟩), .int .u8 (c.toNat : Nat)] w (TokP s i k w p) := by
  by_cases h1 : lett c = true
  · exact token_letter s i k w p h hi hs c hc h1
  by_cases h2 : digB c = true
  · exact token_dig s i k w p h hi hs c hc h2 hE
  by_cases h3 : c = 45
  · exact token_neg s i k w p h hi hs c hc h3 hE
  by_cases h4 : c = 35
  · exact token_ref s i k w p h hi hs c hc h4 hE
  by_cases h5 : c = 34
  · exact token_text s i k w p h hi hs c hc h5
  have ho : Odd c := ⟨by simpa using h1, by simpa using h2, h3, h4, h5⟩
  by_cases h6 : sgnB c = true
  · exact token_sign s i k w p h hi hs c hc ho h6
  · exact token_bad s i k w p h hi hs c hc ho (by simpa using h6)
end Go.Proofs.YtjmelamllapmiaaGreatDoor
