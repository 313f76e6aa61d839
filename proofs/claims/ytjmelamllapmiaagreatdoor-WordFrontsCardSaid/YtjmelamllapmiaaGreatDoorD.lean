/- The reader of package word: next, wrong, hex. The reader of package word: escape. -/
import Derived.Test.YtjmelamllapmiaaGreatDoorSa
namespace Go.Proofs.YtjmelamllapmiaaGreatDoor
open Go.RowKit

/-- A reader stands here in a text, so many parts read. -/
def Rdr (w : World) (p : Nat) (s : ByteArray) (i k : Nat) : Prop := BlkN w p 139 #[.string s, .int .i64 i, .int .i64 k]
/-- It is stuck here. -/
abbrev stuckE (i : Nat) : Ending := .panicked [{ v := .iface 95 (.int .i64 i), recovered := false }]
abbrev rest (s : ByteArray) (i : Nat) : L8 := s.data.toList.drop i
theorem rest_cons {s : ByteArray} {i : Nat} (h : i < s.size) : rest s i = s[i] :: rest s (i + 1) := by
  have h' : i < s.data.toList.length := by simpa using h
  have e := List.drop_eq_getElem_cons h'
  rw [show rest s i = s.data.toList.drop i from rfl, e]
  rfl
theorem rest_end {s : ByteArray} {i : Nat} (h : s.size ≤ i) : rest s i = [] := List.drop_eq_nil_of_le (by simpa using h)
theorem belowN {B : Nat} {a w : World} (h : Below B a w) (n : Nat) : Below B a (w.drewN n) := ⟨h.os, h.tape, h.output, h.size, h.block⟩
set_option maxHeartbeats 400000 in
theorem next_any (s : ByteArray) (i k : Nat) (w : World) (p : Nat) (h : Rdr w p s i k) (hi : i ≤ s.size) :
    Calls Tryz.prog 161 #[.pointer (some ⟨p, 0, Option.none⟩)] w fun e w' => Below w.heap.size w w' ∧ ((s.size ≤ i ∧ e = stuckE s.size) ∨ (∃ hh : i < s.size, e = .returned (.int .u8 (s[i].toNat : Nat)))) := by
  have hp := h.lt
  have c0 := h.cell 0 rfl
  have c1 := h.cell 1 rfl
  clear h
  by_cases hh : i < s.size
  · go_enter Tryz.func161, Tryz.ntmps161
    go_wp2_with fail
    go_quiet (fail)
    go_wp2_with fail
    go_quiet (fail)
    go_wp2_with fail
    go_ret
    exact ⟨belowN (belowN (Below.refl _ _) _) _, .inr ⟨hh, rfl⟩⟩
  · go_enter Tryz.func161, Tryz.ntmps161
    go_wp2_with fail
    go_quiet (fail)
    go_wp2_with fail
    exact ⟨rfl, belowN (Below.refl _ _) _, .inl ⟨by omega, rfl⟩⟩
theorem wrong_any (s : ByteArray) (i k : Nat) (w : World) (p : Nat) (h : Rdr w p s i k) : Calls Tryz.prog 81 #[.pointer (some ⟨p, 0, Option.none⟩)] w fun e w' => Below w.heap.size w w' ∧ e = stuckE i := by
  have hp := h.lt
  have c1 := h.cell 1 rfl
  clear h
  go_enter Tryz.func81, Tryz.ntmps81
  go_wp2_with fail
  exact ⟨rfl, Below.refl _ _, rfl⟩
/-- What hex answers: a digit, or that it is stuck. -/
def HexP (s : ByteArray) (i : Nat) (e : Ending) : Prop := (s.size ≤ i ∧ e = stuckE s.size) ∨ ∃ hh : i < s.size, (hexD s[i] = Option.none ∧ e = stuckE i) ∨ ∃ a, hexD s[i] = some a ∧ a < 16 ∧ e = .returned (.int .i64 (a : Nat))
set_option maxHeartbeats 400000 in
theorem hex_any (s : ByteArray) (i k : Nat) (w : World) (p : Nat) (h : Rdr w p s i k) (hi : i ≤ s.size) :
    Calls Tryz.prog 214 #[.pointer (some ⟨p, 0, Option.none⟩)] w fun e w' => Below w.heap.size w w' ∧ HexP s i e := by
  have C64 := Lib.hid (next_any s i k w p h hi)
  have C41 := Lib.hid (fun w' (hb : Below w.heap.size w w') => wrong_any s i k w' p (h.below hb))
  clear h
  by_cases hh : i < s.size
  · obtain ⟨c, hc⟩ : ∃ c, c = s[i] := ⟨_, rfl⟩
    have C : Hid (Calls Tryz.prog 161 #[.pointer (some ⟨p, 0, Option.none⟩)] w fun e w' => e = .returned (.int .u8 (c.toNat : Nat)) ∧ Below w.heap.size w w') := Lib.hid (C64.out.mono fun e w' h => by
      obtain ⟨h1, ⟨h2, _⟩ | ⟨_, rfl⟩⟩ := h
      · omega
      · exact ⟨by rw [hc], h1⟩)
    have HH := Lib.hid hh
    have HC := Lib.hid hc
    clear C64 hc
    have hc0 : c.toNat < 256 := c.toNat_lt
    go_enter Tryz.func214, Tryz.ntmps214
    go_wp2_with (first | (go_at_call 161; refine C.out.mono ?_; rintro e w1 ⟨rfl, hb1⟩; have HB1 := Lib.hid hb1; clear hb1) | (go_at_call 81; refine (C41.out _ HB1.out).mono ?_; rintro e w2 ⟨hb2, rfl⟩))
    · go_ret
      exact ⟨HB1.out, .inr ⟨HH.out, .inr ⟨c.toNat - 48, by rw [← HC.out]; unfold hexD; rw [if_pos (by omega)], by omega, ret_int (by omega)⟩⟩⟩
    · go_ret
      exact ⟨HB1.out, .inr ⟨HH.out, .inr ⟨c.toNat - 87, by rw [← HC.out]; unfold hexD; rw [if_neg (by omega), if_pos (by omega)], by omega, ret_int (by omega)⟩⟩⟩
    all_goals exact ⟨rfl, bnext HB1.out hb2, .inr ⟨HH.out, .inl ⟨by rw [← HC.out]; unfold hexD; rw [if_neg (by omega), if_neg (by omega)], rfl⟩⟩⟩
  · have C : Hid (Calls Tryz.prog 161 #[.pointer (some ⟨p, 0, Option.none⟩)] w fun e w' => e = stuckE s.size ∧ Below w.heap.size w w') := Lib.hid (C64.out.mono fun e w' h => by
      obtain ⟨h1, ⟨_, rfl⟩ | ⟨h2, _⟩⟩ := h
      · exact ⟨rfl, h1⟩
      · omega)
    clear C64
    go_enter Tryz.func214, Tryz.ntmps214
    go_wp2_with (first | (go_at_call 161; refine C.out.mono ?_; rintro e w1 ⟨rfl, hb1⟩))
    exact ⟨rfl, hb1, .inl ⟨by omega, rfl⟩⟩
end Go.Proofs.YtjmelamllapmiaaGreatDoor
namespace Go.Proofs.YtjmelamllapmiaaGreatDoor
open Go.RowKit

/-- What a reader has done: it went on to there, or is stuck there. -/
def RsP {α : Type} (r : Rs α) (s : ByteArray) (i : Nat) (e : Ending) (ok : α → Nat → Prop) : Prop :=
  match r with
  | .ok a t => ∃ j, i < j ∧ j ≤ s.size ∧ t = rest s j ∧ ok a j
  | .no t => ∃ j, j ≤ s.size ∧ t = rest s j ∧ e = stuckE j
theorem Rdr.adv {w : World} {p : Nat} {s : ByteArray} {i k : Nat} (h : Rdr w p s i k) : Rdr (w.setCell ⟨p, 1, Option.none⟩ (.int .i64 ((i : Int) + 1))) p s (i + 1) k := by
  have := BlkN.set h 1 (.int .i64 ((i : Int) + 1))
  unfold Rdr
  simpa using this
theorem u8_eq {c : UInt8} {n : Nat} (hn : n < 256) (h : ((c.toNat : Int) == (n : Int)) = true) : c = UInt8.ofNat n := by
  have h2 : (c.toNat : Int) = n := by simpa using h
  apply UInt8.toNat_inj.1
  rw [UInt8.toNat_ofNat']
  omega
theorem u8_ne {c : UInt8} {n : Nat} (hn : n < 256) (h : ((c.toNat : Int) == (n : Int)) = false) : c ≠ UInt8.ofNat n := by
  rintro rfl
  rw [UInt8.toNat_ofNat'] at h
  simp at h
  omega
theorem esc_same (c : UInt8) (t : L8) (h : c = 34 ∨ c = 92) : esc (c :: t) = .ok c t := by rcases h with rfl | rfl <;> simp [esc]
theorem esc_other (c : UInt8) (t : L8) (h1 : c ≠ 34) (h2 : c ≠ 92) (h3 : c ≠ 110) (h4 : c ≠ 120) : esc (c :: t) = .no (c :: t) := by simp [esc, h1, h2, h3, h4]
theorem esc_x0 : esc [120] = .no [] := rfl
theorem esc_x1 (h : UInt8) (u : L8) (e : hexD h = Option.none) : esc (120 :: h :: u) = .no (h :: u) := by simp [esc, e]
theorem esc_x2 (h : UInt8) (u : L8) (a : Nat) (e : hexD h = some a) (ha : 2 ≤ a ∧ a ≤ 6) : esc (120 :: h :: u) = .no (h :: u) := by simp [esc, e, ha]
theorem esc_x3 (h : UInt8) (a : Nat) (e : hexD h = some a) (ha : ¬ (2 ≤ a ∧ a ≤ 6)) : esc [120, h] = .no [] := by simp only [esc, e]; simp [ha]
theorem esc_x4 (h l : UInt8) (u : L8) (a : Nat) (e : hexD h = some a) (ha : ¬ (2 ≤ a ∧ a ≤ 6)) (e2 : hexD l = Option.none) : esc (120 :: h :: l :: u) = .no (l :: u) := by simp only [esc, e, e2]; simp [ha]
theorem esc_x5 (h l : UInt8) (u : L8) (a d : Nat) (e : hexD h = some a) (ha : ¬ (2 ≤ a ∧ a ≤ 6)) (e2 : hexD l = some d) (hd : (a = 0 ∧ d = 10) ∨ (a = 7 ∧ d ≠ 15)) : esc (120 :: h :: l :: u) = .no (l :: u) := by simp only [esc, e, e2, if_neg ha, if_pos hd]; simp
theorem esc_x6 (h l : UInt8) (u : L8) (a d : Nat) (e : hexD h = some a) (ha : ¬ (2 ≤ a ∧ a ≤ 6)) (e2 : hexD l = some d) (hd : ¬ ((a = 0 ∧ d = 10) ∨ (a = 7 ∧ d ≠ 15))) : esc (120 :: h :: l :: u) = .ok (UInt8.ofNat (a * 16 + d)) u := by simp only [esc, e, e2, if_neg ha, if_neg hd]; simp
theorem hex_val : ∀ a d : Fin 16, bits .or .i64 ((a.val : Int) * 16) (d.val : Int) % 256 = ((UInt8.ofNat (a.val * 16 + d.val)).toNat : Int) := by decide +kernel
theorem hex_valN {a d : Nat} (ha : a < 16) (hd : d < 16) : bits .or .i64 ((a : Int) * 16) (d : Int) % 256 = ((UInt8.ofNat (a * 16 + d)).toNat : Int) := hex_val ⟨a, ha⟩ ⟨d, hd⟩
theorem ne15 {d : Nat} (h : ((d : Int) != 15) = true) : d ≠ 15 := by rintro rfl; simp at h
theorem eq15 {d : Nat} (h : ((d : Int) != 15) = false) : d = 15 := by simp at h; omega
set_option maxRecDepth 100000 in
set_option maxHeartbeats 2000000 in
theorem escape_any (s : ByteArray) (i k : Nat) (w : World) (p : Nat) (h : Rdr w p s i k) (hi : i ≤ s.size) (hs : s.size ≤ 140737488351232) :
    Calls Tryz.prog 164 #[.pointer (some ⟨p, 0, Option.none⟩)] w fun e w' => Upd p w w' ∧ RsP (esc (rest s i)) s i e (fun x j => e = .returned (.int .u8 (x.toNat : Nat)) ∧ Rdr w' p s j k) := by
  by_cases hh : i < s.size
  rotate_left
  · have C : Hid (Calls Tryz.prog 161 #[.pointer (some ⟨p, 0, Option.none⟩)] w fun e w' => e = stuckE s.size ∧ Below w.heap.size w w') := Lib.hid ((next_any s i k w p h hi).mono fun e w' h => by
      obtain ⟨h1, ⟨_, rfl⟩ | ⟨h2, _⟩⟩ := h
      · exact ⟨rfl, h1⟩
      · omega)
    clear h
    go_enter Tryz.func164, Tryz.ntmps164
    go_wp2_with (first | (go_at_call 161; refine C.out.mono ?_; rintro e w1 ⟨rfl, hb1⟩))
    refine ⟨rfl, Upd.ofBelow hb1 p, ?_⟩
    rw [rest_end (by omega)]
    exact ⟨s.size, Nat.le_refl _, (rest_end (Nat.le_refl _)).symm, rfl⟩
  obtain ⟨c, hc⟩ : ∃ c, c = s[i] := ⟨_, rfl⟩
  have hrc : rest s i = c :: rest s (i + 1) := by rw [rest_cons hh, hc]
  have C : Hid (Calls Tryz.prog 161 #[.pointer (some ⟨p, 0, Option.none⟩)] w fun e w' => e = .returned (.int .u8 (c.toNat : Nat)) ∧ Below w.heap.size w w') := Lib.hid ((next_any s i k w p h hi).mono fun e w' h => by
    obtain ⟨h1, ⟨h2, _⟩ | ⟨_, rfl⟩⟩ := h
    · omega
    · exact ⟨by rw [hc], h1⟩)
  have HR := Lib.hid h
  have HRC := Lib.hid hrc
  clear hc h hrc
  have hp0 := HR.out.lt
  have hc0 : c.toNat < 256 := c.toNat_lt
  go_enter Tryz.func164, Tryz.ntmps164
  go_wp2_with (first
    | (go_at_call 161; refine C.out.mono ?_; rintro e w1 ⟨rfl, hb1⟩; have hr1 := HR.out.below hb1; have hp := hr1.lt; have c1 := hr1.cell 1 rfl; have f1 := hr1.free 1; have HR1 := Lib.hid hr1; have HB1 := Lib.hid hb1; clear hb1 hr1)
    | (go_at_call 81; refine (wrong_any s i k _ p HR1.out).mono ?_; rintro e w2 ⟨hb2, rfl⟩))
  · have e : c = 34 := u8_eq (n := 34) (by decide) (by assumption)
    go_ret
    refine ⟨(Upd.ofBelow HB1.out p).set 1 _, ?_⟩
    rw [HRC.out, esc_same c _ (.inl e)]
    exact ⟨i + 1, by omega, by omega, rfl, rfl, Rdr.adv HR1.out⟩
  · have e : c = 92 := u8_eq (n := 92) (by decide) (by assumption)
    go_ret
    refine ⟨(Upd.ofBelow HB1.out p).set 1 _, ?_⟩
    rw [HRC.out, esc_same c _ (.inr e)]
    exact ⟨i + 1, by omega, by omega, rfl, rfl, Rdr.adv HR1.out⟩
  · have e : c = 110 := u8_eq (n := 110) (by decide) (by assumption)
    go_ret
    refine ⟨(Upd.ofBelow HB1.out p).set 1 _, ?_⟩
    rw [HRC.out, e]
    exact ⟨i + 1, by omega, by omega, rfl, rfl, Rdr.adv HR1.out⟩
  rotate_left
  · have e1 := u8_ne (c := c) (n := 34) (by decide) (by assumption)
    have e2 := u8_ne (c := c) (n := 92) (by decide) (by assumption)
    have e3 := u8_ne (c := c) (n := 110) (by decide) (by assumption)
    have e4 := u8_ne (c := c) (n := 120) (by decide) (by assumption)
    refine ⟨rfl, Upd.ofBelow (bnext HB1.out hb2) p, ?_⟩
    rw [HRC.out, esc_other c _ e1 e2 e3 e4, ← HRC.out]
    exact ⟨i, hi, rfl, rfl⟩
  have e : c = 120 := u8_eq (n := 120) (by decide) (by assumption)
  subst e
  obtain ⟨W, hW⟩ : ∃ W, W = w1.setCell ⟨p, 1, Option.none⟩ (.int .i64 ((i : Int) + 1)) := ⟨_, rfl⟩
  have HR2 : Hid (Rdr W p s (i + 1) k) := Lib.hid (by rw [hW]; exact Rdr.adv HR1.out)
  have HU2 : Hid (Upd p w W) := Lib.hid (by rw [hW]; exact (Upd.ofBelow HB1.out p).set 1 _)
  rw [← hW]
  clear hW c1 f1 hp HR1 HB1 C
  have C1 := Lib.hid (hex_any s (i + 1) k W p HR2.out (by omega))
  refine C1.out.mono ?_
  rintro e w2 ⟨hb2, ⟨h2, rfl⟩ | ⟨h2, ⟨h3, rfl⟩ | ⟨a, h3, ha, rfl⟩⟩⟩
  · refine ⟨rfl, HU2.out.below hb2, ?_⟩
    rw [HRC.out, rest_end h2]
    exact ⟨s.size, Nat.le_refl _, (rest_end (Nat.le_refl _)).symm, rfl⟩
  · refine ⟨rfl, HU2.out.below hb2, ?_⟩
    rw [HRC.out, rest_cons h2, esc_x1 _ _ h3, ← rest_cons h2]
    exact ⟨i + 1, by omega, rfl, rfl⟩
  have HA := Lib.hid h3
  have HB2 := Lib.hid hb2
  have hr2 := HR2.out.below hb2
  have hp := hr2.lt
  have c1 := hr2.cell 1 rfl
  have f1 := hr2.free 1
  have HR3 := Lib.hid hr2
  clear h3 hb2 hr2
  go_wp2_with (first | (go_at_call 81; refine (wrong_any s (i + 1) k _ p HR3.out).mono ?_; rintro e w3 ⟨hb3, rfl⟩))
  · refine ⟨rfl, HU2.out.below (bnext HB2.out hb3), ?_⟩
    rw [HRC.out, rest_cons h2, esc_x2 _ _ a HA.out (by omega), ← rest_cons h2]
    exact ⟨i + 1, by omega, rfl, rfl⟩
  all_goals
    have hna : ¬ (2 ≤ a ∧ a ≤ 6) := by omega
    obtain ⟨V, hV⟩ : ∃ V, V = w2.setCell ⟨p, 1, Option.none⟩ (.int .i64 ((i : Int) + 1 + 1)) := ⟨_, rfl⟩
    have HR4 : Hid (Rdr V p s (i + 1 + 1) k) := Lib.hid (by rw [hV]; exact Rdr.adv HR3.out)
    have HU4 : Hid (Upd p w V) := Lib.hid (by rw [hV]; exact (HU2.out.below HB2.out).set 1 _)
    rw [← hV]
    clear hV c1 f1 hp HR3 HB2 HR2 HU2 C1
    have C2 := Lib.hid (hex_any s (i + 1 + 1) k V p HR4.out (by omega))
    refine C2.out.mono ?_
    rintro e w3 ⟨hb3, ⟨h4, rfl⟩ | ⟨h4, ⟨h5, rfl⟩ | ⟨d, h5, hd, rfl⟩⟩⟩
    · refine ⟨rfl, HU4.out.below hb3, ?_⟩
      rw [HRC.out, rest_cons h2, rest_end h4, esc_x3 _ a HA.out hna]
      exact ⟨s.size, Nat.le_refl _, (rest_end (Nat.le_refl _)).symm, rfl⟩
    · refine ⟨rfl, HU4.out.below hb3, ?_⟩
      rw [HRC.out, rest_cons h2, rest_cons h4, esc_x4 _ _ _ a HA.out hna h5, ← rest_cons h4]
      exact ⟨i + 1 + 1, by omega, rfl, rfl⟩
    have HD := Lib.hid h5
    have HB3 := Lib.hid hb3
    have hr3 := HR4.out.below hb3
    have hp := hr3.lt
    have c1 := hr3.cell 1 rfl
    have f1 := hr3.free 1
    have HR5 := Lib.hid hr3
    clear h5 hb3 hr3
    go_wp2_with (first | (go_at_call 81; refine (wrong_any s (i + 1 + 1) k _ p HR5.out).mono ?_; rintro e w4 ⟨hb4, rfl⟩))
  all_goals first
    | (have hq : (a = 0 ∧ d = 10) ∨ (a = 7 ∧ d ≠ 15) := by first | (left; omega) | exact .inr ⟨by omega, ne15 (by assumption)⟩
       refine ⟨rfl, HU4.out.below (bnext HB3.out hb4), ?_⟩
       rw [HRC.out, rest_cons h2, rest_cons h4, esc_x5 _ _ _ a d HA.out hna HD.out hq, ← rest_cons h4]
       exact ⟨i + 1 + 1, by omega, rfl, rfl⟩)
    | (have hq : ¬ ((a = 0 ∧ d = 10) ∨ (a = 7 ∧ d ≠ 15)) := by first | omega | (have := eq15 (d := d) (by assumption); omega)
       go_ret
       refine ⟨(HU4.out.below HB3.out).set 1 _, ?_⟩
       rw [HRC.out, rest_cons h2, rest_cons h4, esc_x6 _ _ _ a d HA.out hna HD.out hq]
       refine ⟨i + 1 + 1 + 1, by omega, by omega, rfl, ?_, Rdr.adv HR5.out⟩
       rw [← hex_valN ha hd]
       first | rfl | (have : a = 7 := by omega
                      subst this; rfl) | (have : a = 0 := by omega
                                          subst this; rfl))
end Go.Proofs.YtjmelamllapmiaaGreatDoor
