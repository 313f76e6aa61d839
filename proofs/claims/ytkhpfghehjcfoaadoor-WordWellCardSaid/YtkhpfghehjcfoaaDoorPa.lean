/- The reader of package word: token: numbers. -/
import Derived.Test.YtkhpfghehjcfoaaDoorP
namespace Go.Proofs.YtkhpfghehjcfoaaDoor
open Go.RowKit

theorem tww_len (l : L8) (q : UInt8 → Bool) : (l.takeWhile q).length ≤ l.length := by
  induction l with
  | nil => simp
  | cons c t ih =>
    rw [List.takeWhile_cons]
    split <;> simp <;> omega
set_option maxRecDepth 100000 in
set_option maxHeartbeats 4000000 in
theorem token_dig (s : ByteArray) (i k : Nat) (w : World) (p : Nat) (h : Rdr w p s i k) (hi : i < s.size) (hs : s.size ≤ 140737488351232) (c : UInt8) (hc : c = s[i]) (hd : digB c = true) (hE : ErrP p w) :
    Calls Tryd.prog 50 #[.pointer (some ⟨p, 0, Option.none⟩), .int .u8 (c.toNat : Nat)] w (TokP s i k w p) := by
  obtain ⟨i0, hi0, hz0, hz1, hz2⟩ := info_parts info56
  have hp := h.lt
  have c0 := h.cell 0 rfl
  have c1 := h.cell 1 rfl
  have HR := Lib.hid h
  have HRC : Hid (rest s i = c :: rest s (i + 1)) := Lib.hid (by rw [rest_cons hi, hc])
  have HC := Lib.hid hc
  clear h
  have hl : lett c = false := by
    simp only [digB, Bool.and_eq_true, decide_eq_true_eq] at hd
    unfold lett
    rw [Bool.and_eq_false_iff]; left; simp; omega
  have hb45 : ((c.toNat : Int) == 45) = false := by
    simp only [digB, Bool.and_eq_true, decide_eq_true_eq] at hd
    rw [beq_eq_false_iff_ne]; omega
  have HTOK := Lib.hid (tokL_dig s.size i (rest s i) c _ HRC.out hl hd)
  have HEP := Lib.hid hE
  have C72 : Hid (∀ w, Calls Tryd.prog 72 #[.int .u8 (c.toNat : Nat)] w fun e w' => e = .returned (.bool false) ∧ w' = w) := Lib.hid (fun w => by rw [← hl]; exact letter_any c w)
  have C73 : Hid (∀ w, Calls Tryd.prog 73 #[.int .u8 (c.toNat : Nat)] w fun e w' => e = .returned (.bool true) ∧ w' = w) := Lib.hid (fun w => by rw [← hd]; exact digit_any c w)
  clear hl hc hd hE
  obtain ⟨D, hD⟩ : ∃ D, D = (rest s i).takeWhile digB := ⟨_, rfl⟩
  have HD := Lib.hid hD
  clear hD
  go_enter Tryd.func50, Tryd.ntmps50
  go_upto_region 11 with (first | (go_at_call 72; refine (C72.out _).mono ?_; rintro e w1 ⟨rfl, rfl⟩) | (go_at_call 73; refine (C73.out _).mono ?_; rintro e w1 ⟨rfl, rfl⟩))
  obtain ⟨n, hn⟩ : ∃ n, n = w.heap.size := ⟨_, rfl⟩
  obtain ⟨W, hW⟩ : ∃ W, W = (w.alloc (.cells #[.int .u8 0, .int .i64 0, .int .i64 0, .string ⟨#[]⟩, .int .i64 0] 56)).alloc (.cells #[.int .u8 0, .int .i64 i, .int .i64 0, .string ⟨#[]⟩, .int .i64 0] 56) := ⟨_, rfl⟩
  have HRW : Hid (Rdr W p s i k) := Lib.hid (by rw [hW]; exact (BlkN.alloc HR.out _).alloc _)
  have HZ : Hid (BlkN W n 56 #[.int .u8 0, .int .i64 0, .int .i64 0, .string ⟨#[]⟩, .int .i64 0]) := Lib.hid (by rw [hW, hn]; exact (BlkN.at_ rfl _ _).alloc _)
  have HT : Hid (BlkN W (n + 1) 56 #[.int .u8 0, .int .i64 i, .int .i64 0, .string ⟨#[]⟩, .int .i64 0]) := Lib.hid (by rw [hW, hn]; exact BlkN.at_ (by simp) _ _)
  have HU : Hid (Upd p w W) := Lib.hid (by rw [hW]; exact ((Upd.refl p w).alloc _).alloc _)
  have HPN : Hid (p < n ∧ n = w.heap.size) := Lib.hid ⟨by rw [hn]; exact hp, hn⟩
  have hpn : p < n := by rw [hn]; exact hp
  rw [← hW, ← hn]
  clear hW hn c0 c1 hp
  have C74 := digits_pos s i k W p HRW.out (by omega) hs (HEP.out.on HU.out)
  rw [← HD.out] at C74
  cases hO : numO false D with
  | none =>
    rw [hO] at C74
    have HC74 := Lib.hid C74
    have HO := Lib.hid hO
    clear C74 hO
    go_wp2_with (first | (go_at_call 74; refine HC74.out.mono ?_; rintro e w2 ⟨hu2, hr2, m, ok, rfl, rfl⟩; have HU2 := Lib.hid (HU.out.trans hu2); clear hu2 hr2))
    refine ⟨rfl, HU2.out, ?_⟩
    rw [HTOK.out, ← HD.out, HO.out]
    exact ⟨i, by omega, rfl, rfl⟩
  | some v =>
    rw [hO] at C74
    have HC74 := Lib.hid C74
    have HO := Lib.hid hO
    clear C74 hO
    go_upto_region 26 with (first | (go_at_call 74; refine HC74.out.mono ?_; rintro e W2 ⟨hu2, hr2, m, ok, rfl, rfl, rfl⟩; have HU2 := Lib.hid (HU.out.trans hu2); have ht2 := BlkN.upd hu2 HT.out (by omega); have HZ2 := Lib.hid (BlkN.upd hu2 HZ.out (by omega)); have e0 := ht2.cell 0 rfl; have e1 := ht2.cell 1 rfl; have e2 := ht2.cell 2 rfl; have e3 := ht2.cell 3 rfl; have e4 := ht2.cell 4 rfl; have x0 := ht2.free 0; have x2 := ht2.free 2; have hnT := ht2.lt; have HT2 := Lib.hid ht2; have HR2 := Lib.hid hr2; clear hu2 hr2 ht2))
    obtain ⟨j, hj⟩ : ∃ j, j = i + D.length := ⟨_, rfl⟩
    have HJ := Lib.hid hj
    rw [← hj] at HR2
    clear hj
    obtain ⟨V, hV⟩ : ∃ V, V = (W2.setCell ⟨n + 1, 0, Option.none⟩ (.int .u8 2)).setCell ⟨n + 1, 2, Option.none⟩ (.int .i64 m) := ⟨_, rfl⟩
    have HTV : Hid (BlkN V (n + 1) 56 #[.int .u8 2, .int .i64 i, .int .i64 m, .string ⟨#[]⟩, .int .i64 0]) := Lib.hid (by rw [hV]; exact (by simpa using (BlkN.set HT2.out 0 (.int .u8 2)).set 2 (.int .i64 m) : BlkN ((W2.setCell ⟨n + 1, 0, Option.none⟩ (.int .u8 2)).setCell ⟨n + 1, 2, Option.none⟩ (.int .i64 m)) (n + 1) 56 _))
    have HZV : Hid (BlkN V n 56 #[.int .u8 0, .int .i64 0, .int .i64 0, .string ⟨#[]⟩, .int .i64 0]) := Lib.hid (by rw [hV]; exact (HZ2.out.setOther (q := ⟨n + 1, 0, Option.none⟩) (by show n ≠ n + 1; omega) _).setOther (q := ⟨n + 1, 2, Option.none⟩) (by show n ≠ n + 1; omega) _)
    have HRV : Hid (Rdr V p s j k) := Lib.hid (by rw [hV]; exact (BlkN.setOther HR2.out (q := ⟨n + 1, 0, Option.none⟩) (by show p ≠ n + 1; omega) _).setOther (q := ⟨n + 1, 2, Option.none⟩) (by show p ≠ n + 1; omega) _)
    have hnw := HPN.out.2
    have HUV : Hid (Upd p w V) := Lib.hid (by rw [hV]; exact ((HU2.out.setNew (q := ⟨n + 1, 0, Option.none⟩) (by show w.heap.size ≤ n + 1; omega) _).setNew (q := ⟨n + 1, 2, Option.none⟩) (by show w.heap.size ≤ n + 1; omega) _))
    rw [← hV]
    clear hV e0 e1 e2 e3 e4 x0 x2 hnT hnw
    have g0 := HTV.out.cell 0 rfl
    have g1 := HTV.out.cell 1 rfl
    have g2 := HTV.out.cell 2 rfl
    have g3 := HTV.out.cell 3 rfl
    have g4 := HTV.out.cell 4 rfl
    have hgV := HTV.out.lt
    have z0 := HZV.out.cell 0 rfl
    have z1 := HZV.out.cell 1 rfl
    have z2 := HZV.out.cell 2 rfl
    have z3 := HZV.out.cell 3 rfl
    have z4 := HZV.out.cell 4 rfl
    have y0 := HZV.out.free 0
    have y1 := HZV.out.free 1
    have y2 := HZV.out.free 2
    have y3 := HZV.out.free 3
    have y4 := HZV.out.free 4
    have hzV := HZV.out.lt
    go_wp2_with fail
    obtain ⟨V', hV', hB, hbut⟩ := set5_tok HZV.out (.int .u8 2) (.int .i64 i) (.int .i64 m) (.string ⟨#[]⟩) (.int .i64 0)
    rw [hV']
    have hnw := HPN.out.2
    refine bodyPost_ret (results_cell1 (s := 4) (b := n) rfl Tryd.underlying56 hi0 rfl hB (by rw [hz1]; rfl)) rfl ⟨hbut.upd (by omega) HUV.out, ?_⟩
    rw [HTOK.out, ← HD.out, HO.out]
    have hjj := HJ.out
    have hlen : D.length ≤ (rest s i).length := by rw [HD.out]; exact tww_len _ _
    have hne : D ≠ [] := fun h => by have := HO.out; rw [h] at this; simp [numO] at this
    have hpos := List.length_pos_iff.2 hne
    rw [rest_len] at hlen
    refine ⟨j, by omega, by omega, ?_, rfl, HRV.out.but hbut (by omega)⟩
    rw [hjj, rest_drop s i, HD.out, tww_drop]
set_option maxRecDepth 100000 in
set_option maxHeartbeats 4000000 in
theorem token_neg (s : ByteArray) (i k : Nat) (w : World) (p : Nat) (h : Rdr w p s i k) (hi : i < s.size) (hs : s.size ≤ 140737488351232) (c : UInt8) (hc : c = s[i]) (h45 : c = 45) (hE : ErrP p w) :
    Calls Tryd.prog 50 #[.pointer (some ⟨p, 0, Option.none⟩), .int .u8 (c.toNat : Nat)] w (TokP s i k w p) := by
  obtain ⟨i0, hi0, hz0, hz1, hz2⟩ := info_parts info56
  have hp := h.lt
  have c0 := h.cell 0 rfl
  have c1 := h.cell 1 rfl
  have HR := Lib.hid h
  have HRC : Hid (rest s i = c :: rest s (i + 1)) := Lib.hid (by rw [rest_cons hi, hc])
  have HC := Lib.hid hc
  clear h
  have hl : lett c = false := by rw [h45]; rfl
  have hd : digB c = false := by rw [h45]; rfl
  have hb45 : ((c.toNat : Int) == 45) = true := by rw [h45]; rfl
  have H45 : Hid (s[i] = 45) := Lib.hid (by rw [← hc, h45])
  have HTOK := Lib.hid (tokL_neg s.size i (rest s i) c _ HRC.out h45)
  have HEP := Lib.hid hE
  have C72 : Hid (∀ w, Calls Tryd.prog 72 #[.int .u8 (c.toNat : Nat)] w fun e w' => e = .returned (.bool false) ∧ w' = w) := Lib.hid (fun w => by rw [← hl]; exact letter_any c w)
  have C73 : Hid (∀ w, Calls Tryd.prog 73 #[.int .u8 (c.toNat : Nat)] w fun e w' => e = .returned (.bool false) ∧ w' = w) := Lib.hid (fun w => by rw [← hd]; exact digit_any c w)
  clear hl hc hd h45 hE
  obtain ⟨D, hD⟩ : ∃ D, D = (rest s (i + 1)).takeWhile digB := ⟨_, rfl⟩
  have HD := Lib.hid hD
  clear hD
  go_enter Tryd.func50, Tryd.ntmps50
  go_upto_region 11 with (first | (go_at_call 72; refine (C72.out _).mono ?_; rintro e w1 ⟨rfl, rfl⟩) | (go_at_call 73; refine (C73.out _).mono ?_; rintro e w1 ⟨rfl, rfl⟩))
  obtain ⟨n, hn⟩ : ∃ n, n = w.heap.size := ⟨_, rfl⟩
  obtain ⟨W, hW⟩ : ∃ W, W = (w.alloc (.cells #[.int .u8 0, .int .i64 0, .int .i64 0, .string ⟨#[]⟩, .int .i64 0] 56)).alloc (.cells #[.int .u8 0, .int .i64 i, .int .i64 0, .string ⟨#[]⟩, .int .i64 0] 56) := ⟨_, rfl⟩
  have HRW : Hid (Rdr W p s i k) := Lib.hid (by rw [hW]; exact (BlkN.alloc HR.out _).alloc _)
  have HZ : Hid (BlkN W n 56 #[.int .u8 0, .int .i64 0, .int .i64 0, .string ⟨#[]⟩, .int .i64 0]) := Lib.hid (by rw [hW, hn]; exact (BlkN.at_ rfl _ _).alloc _)
  have HT : Hid (BlkN W (n + 1) 56 #[.int .u8 0, .int .i64 i, .int .i64 0, .string ⟨#[]⟩, .int .i64 0]) := Lib.hid (by rw [hW, hn]; exact BlkN.at_ (by simp) _ _)
  have HU : Hid (Upd p w W) := Lib.hid (by rw [hW]; exact ((Upd.refl p w).alloc _).alloc _)
  have HPN : Hid (p < n ∧ n = w.heap.size) := Lib.hid ⟨by rw [hn]; exact hp, hn⟩
  have hpn : p < n := by rw [hn]; exact hp
  rw [← hW, ← hn]
  clear hW hn c0 c1 hp
  have C74 := digits_neg s i k W p HRW.out hi hs H45.out (HEP.out.on HU.out)
  rw [← HD.out] at C74
  cases hO : numO true D with
  | none =>
    rw [hO] at C74
    have HC74 := Lib.hid C74
    have HO := Lib.hid hO
    clear C74 hO
    go_wp2_with (first | (go_at_call 74; refine HC74.out.mono ?_; rintro e w2 ⟨hu2, hr2, m, ok, rfl, rfl⟩; have HU2 := Lib.hid (HU.out.trans hu2); clear hu2 hr2))
    refine ⟨rfl, HU2.out, ?_⟩
    rw [HTOK.out, ← HD.out, HO.out]
    exact ⟨i, by omega, rfl, rfl⟩
  | some v =>
    rw [hO] at C74
    have HC74 := Lib.hid C74
    have HO := Lib.hid hO
    clear C74 hO
    go_upto_region 26 with (first | (go_at_call 74; refine HC74.out.mono ?_; rintro e W2 ⟨hu2, hr2, m, ok, rfl, rfl, rfl⟩; have HU2 := Lib.hid (HU.out.trans hu2); have ht2 := BlkN.upd hu2 HT.out (by omega); have HZ2 := Lib.hid (BlkN.upd hu2 HZ.out (by omega)); have e0 := ht2.cell 0 rfl; have e1 := ht2.cell 1 rfl; have e2 := ht2.cell 2 rfl; have e3 := ht2.cell 3 rfl; have e4 := ht2.cell 4 rfl; have x0 := ht2.free 0; have x2 := ht2.free 2; have hnT := ht2.lt; have HT2 := Lib.hid ht2; have HR2 := Lib.hid hr2; clear hu2 hr2 ht2))
    obtain ⟨j, hj⟩ : ∃ j, j = (i + 1) + D.length := ⟨_, rfl⟩
    have HJ := Lib.hid hj
    rw [← hj] at HR2
    clear hj
    obtain ⟨V, hV⟩ : ∃ V, V = (W2.setCell ⟨n + 1, 0, Option.none⟩ (.int .u8 2)).setCell ⟨n + 1, 2, Option.none⟩ (.int .i64 m) := ⟨_, rfl⟩
    have HTV : Hid (BlkN V (n + 1) 56 #[.int .u8 2, .int .i64 i, .int .i64 m, .string ⟨#[]⟩, .int .i64 0]) := Lib.hid (by rw [hV]; exact (by simpa using (BlkN.set HT2.out 0 (.int .u8 2)).set 2 (.int .i64 m) : BlkN ((W2.setCell ⟨n + 1, 0, Option.none⟩ (.int .u8 2)).setCell ⟨n + 1, 2, Option.none⟩ (.int .i64 m)) (n + 1) 56 _))
    have HZV : Hid (BlkN V n 56 #[.int .u8 0, .int .i64 0, .int .i64 0, .string ⟨#[]⟩, .int .i64 0]) := Lib.hid (by rw [hV]; exact (HZ2.out.setOther (q := ⟨n + 1, 0, Option.none⟩) (by show n ≠ n + 1; omega) _).setOther (q := ⟨n + 1, 2, Option.none⟩) (by show n ≠ n + 1; omega) _)
    have HRV : Hid (Rdr V p s j k) := Lib.hid (by rw [hV]; exact (BlkN.setOther HR2.out (q := ⟨n + 1, 0, Option.none⟩) (by show p ≠ n + 1; omega) _).setOther (q := ⟨n + 1, 2, Option.none⟩) (by show p ≠ n + 1; omega) _)
    have hnw := HPN.out.2
    have HUV : Hid (Upd p w V) := Lib.hid (by rw [hV]; exact ((HU2.out.setNew (q := ⟨n + 1, 0, Option.none⟩) (by show w.heap.size ≤ n + 1; omega) _).setNew (q := ⟨n + 1, 2, Option.none⟩) (by show w.heap.size ≤ n + 1; omega) _))
    rw [← hV]
    clear hV e0 e1 e2 e3 e4 x0 x2 hnT hnw
    have g0 := HTV.out.cell 0 rfl
    have g1 := HTV.out.cell 1 rfl
    have g2 := HTV.out.cell 2 rfl
    have g3 := HTV.out.cell 3 rfl
    have g4 := HTV.out.cell 4 rfl
    have hgV := HTV.out.lt
    have z0 := HZV.out.cell 0 rfl
    have z1 := HZV.out.cell 1 rfl
    have z2 := HZV.out.cell 2 rfl
    have z3 := HZV.out.cell 3 rfl
    have z4 := HZV.out.cell 4 rfl
    have y0 := HZV.out.free 0
    have y1 := HZV.out.free 1
    have y2 := HZV.out.free 2
    have y3 := HZV.out.free 3
    have y4 := HZV.out.free 4
    have hzV := HZV.out.lt
    go_wp2_with fail
    obtain ⟨V', hV', hB, hbut⟩ := set5_tok HZV.out (.int .u8 2) (.int .i64 i) (.int .i64 m) (.string ⟨#[]⟩) (.int .i64 0)
    rw [hV']
    have hnw := HPN.out.2
    refine bodyPost_ret (results_cell1 (s := 4) (b := n) rfl Tryd.underlying56 hi0 rfl hB (by rw [hz1]; rfl)) rfl ⟨hbut.upd (by omega) HUV.out, ?_⟩
    rw [HTOK.out, ← HD.out, HO.out]
    have hjj := HJ.out
    have hlen : D.length ≤ (rest s (i + 1)).length := by rw [HD.out]; exact tww_len _ _
    have hne : D ≠ [] := fun h => by have := HO.out; rw [h] at this; simp [numO] at this
    have hpos := List.length_pos_iff.2 hne
    rw [rest_len] at hlen
    refine ⟨j, by omega, by omega, ?_, rfl, HRV.out.but hbut (by omega)⟩
    rw [hjj, rest_drop s (i + 1), HD.out, tww_drop]
end Go.Proofs.YtkhpfghehjcfoaaDoor
