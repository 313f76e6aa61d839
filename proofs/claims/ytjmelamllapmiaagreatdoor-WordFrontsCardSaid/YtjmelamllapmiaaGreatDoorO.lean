/- The reader of package word: digits. -/
import Derived.Test.YtjmelamllapmiaaGreatDoorN
import Derived.BigQuiet
import Derived.Deep.QuietTactic
namespace Go.Proofs.YtjmelamllapmiaaGreatDoor
open Go.RowKit

/-- What digits spell. -/
def valD (acc : Nat) (l : L8) : Nat := l.foldl (fun a c => a * 10 + (c.toNat - 48)) acc
theorem valD_nil (acc : Nat) : valD acc [] = acc := List.foldl_nil
theorem valD_cons (acc : Nat) (c : UInt8) (t : L8) : valD acc (c :: t) = valD (acc * 10 + (c.toNat - 48)) t := by unfold valD; rw [List.foldl_cons]
theorem valD_ge : ∀ (d : L8) (acc : Nat), acc ≤ valD acc d
  | [], acc => by rw [valD_nil]; exact Nat.le_refl _
  | c :: t, acc => by rw [valD_cons]; have := valD_ge t (acc * 10 + (c.toNat - 48)); omega
/-- A number's digits, as they may be. -/
def numO (neg : Bool) (d : L8) : Option Int :=
  if d = [] ∨ (d.head? = some 48 ∧ (1 < d.length ∨ neg = true)) then Option.none
  else if valD 0 d ≤ (if neg then 9223372036854775808 else 9223372036854775807) then some (if neg then -(valD 0 d : Int) else valD 0 d) else Option.none
theorem pm_cons (M acc : Nat) (c : UInt8) (t : L8) (hc : 48 ≤ c.toNat ∧ c.toNat ≤ 57) : Lib.parseUintM M acc (c :: t) = if 1844674407370955162 ≤ acc then .range else if M < acc * 10 + (c.toNat - 48) then .range else Lib.parseUintM M (acc * 10 + (c.toNat - 48)) t := by
  rw [Lib.parseUintM, if_pos hc]
theorem parseUintM_val (M : Nat) (hM : M = 18446744073709551615) (d : L8) : ∀ (acc : Nat), d.all digB = true → acc ≤ M → Lib.parseUintM M acc d = if valD acc d ≤ M then .ok (valD acc d) else .range := by
  induction d with
  | nil => intro acc _ ha; rw [Lib.parseUintM, valD_nil, if_pos ha]
  | cons c t ih =>
    intro acc hd ha
    simp only [List.all_cons, Bool.and_eq_true] at hd
    have hc := hd.1
    simp only [digB, Bool.and_eq_true, decide_eq_true_eq] at hc
    rw [pm_cons M acc c t hc, valD_cons]
    have hge := valD_ge t (acc * 10 + (c.toNat - 48))
    by_cases h2 : M < acc * 10 + (c.toNat - 48)
    · have h3 : ¬ valD (acc * 10 + (c.toNat - 48)) t ≤ M := by omega
      rw [if_pos h2, if_neg h3, ite_self]
    · have h1 : ¬ 1844674407370955162 ≤ acc := by omega
      rw [if_neg h1, if_neg h2, ih _ hd.2 (by omega)]
theorem parseInt_val (neg : Bool) (d : L8) (hd : d.all digB = true) (hne : d ≠ []) :
    Lib.parseIntB 64 ((if neg then [45] else []) ++ d) = if valD 0 d ≤ (if neg then 9223372036854775808 else 9223372036854775807) then .ok (if neg then -(valD 0 d : Int) else valD 0 d) else .range := by
  have hu : Lib.parseUintB 64 d = if valD 0 d ≤ 18446744073709551615 then .ok (valD 0 d) else .range := by
    unfold Lib.parseUintB
    rw [if_neg hne]
    exact parseUintM_val _ (by decide) d 0 hd (by omega)
  cases neg
  · cases d with
    | nil => exact absurd rfl hne
    | cons c t =>
      simp only [List.all_cons, Bool.and_eq_true] at hd
      have hc := hd.1
      simp only [digB, Bool.and_eq_true, decide_eq_true_eq] at hc
      simp only [Bool.false_eq_true, if_false, List.nil_append]
      unfold Lib.parseIntB
      simp only
      rw [if_neg (by omega), hu]
      by_cases h1 : valD 0 (c :: t) ≤ 18446744073709551615
      · rw [if_pos h1]
        simp only
        by_cases h2 : valD 0 (c :: t) ≤ 9223372036854775807
        · rw [if_neg (by omega), if_neg (by omega), if_pos h2, if_neg (by omega)]
        · rw [if_pos (by omega), if_neg h2]
      · rw [if_neg h1, if_neg (by omega)]
  · simp only [if_true, List.singleton_append]
    unfold Lib.parseIntB
    simp only
    have e45 : (45 : UInt8).toNat = 45 := rfl
    rw [if_pos (.inr e45), hu]
    by_cases h1 : valD 0 d ≤ 18446744073709551615
    · rw [if_pos h1]
      simp only
      by_cases h2 : valD 0 d ≤ 9223372036854775808
      · rw [if_neg (by simp [e45]), if_neg (by omega), if_pos h2, if_pos e45]
      · rw [if_neg (by simp [e45]), if_pos ⟨e45, by omega⟩, if_neg h2]
    · rw [if_neg h1, if_neg (by omega)]
theorem extract_list (s : ByteArray) (i j : Nat) : (s.extract i j).data.toList = (rest s i).take (j - i) := by
  simp [rest, ByteArray.data_extract]
theorem varB {P : Program} {w w' : World} {name : String} {cs : Array Value} (h : w.var? P name = some cs) (hb : Below w.heap.size w w') : w'.var? P name = some cs := by
  unfold World.var? at *
  cases hg : P.globalNamed name with
  | none => simp [hg] at h
  | some g =>
    simp only [hg, Option.bind_some] at h ⊢
    have hlt : g < w.heap.size := by
      rcases Nat.lt_or_ge g w.heap.size with h' | h'
      · exact h'
      · rw [Array.getElem?_eq_none h'] at h; simp at h
    rw [hb.block g hlt]
    exact h
/-- The error of numbers that do not fit is there, whatever is written into p. -/
def ErrP (p : Nat) (w : World) : Prop := ∃ tp q, ∀ W, Upd p w W → W.var? Tryz.prog "strconv.ErrRange" = some #[.iface tp q]
theorem ErrP.on {p : Nat} {w w' : World} (h : ErrP p w) (hu : Upd p w w') : ErrP p w' := let ⟨tp, q, h⟩ := h; ⟨tp, q, fun W hW => h W (hu.trans hW)⟩
theorem str_head {Y : ByteArray} {d : UInt8} {t : L8} (h : Y.toList = d :: t) : ∃ hy : 0 < Y.size, Y[0]'hy = d ∧ Y.size = t.length + 1 := by
  rw [Lib.toList_data] at h
  have hl := congrArg List.length h
  have e : Y.data.toList.length = Y.size := by simp
  rw [e, List.length_cons] at hl
  have hy : 0 < Y.size := by omega
  refine ⟨hy, ?_, hl⟩
  have := str_get hy
  rw [h] at this
  simpa using this.symm
/-- What digits answers at a number. -/
def DigR (o : Option Int) (e : Ending) : Prop := ∃ n ok, e = .returned (.tuple #[.int .i64 n, .bool ok]) ∧ match o with | some v => n = v ∧ ok = true | Option.none => ok = false
theorem DigR.no (n : Int) : DigR Option.none (.returned (.tuple #[.int .i64 n, .bool false])) := ⟨_, _, rfl, rfl⟩
theorem DigR.yes (n : Int) : DigR (some n) (.returned (.tuple #[.int .i64 n, .bool true])) := ⟨_, _, rfl, rfl, rfl⟩
theorem tw_all (l : L8) : (l.takeWhile digB).all digB = true := by
  induction l with
  | nil => rfl
  | cons c t ih =>
    rw [List.takeWhile_cons]
    split
    · simp [*]
    · rfl
theorem tw_take (l : L8) : l.take (l.takeWhile digB).length = l.takeWhile digB := by
  induction l with
  | nil => rfl
  | cons c t ih =>
    rw [List.takeWhile_cons]
    split
    · simp [ih]
    · rfl
theorem parseRun {w : World} {p : Nat} (X : ByteArray) (neg : Bool) (D : L8) (hX : X.data.toList = (if neg then [45] else []) ++ D) (hs : X.size ≤ 140737488351232) (hall : D.all digB = true) (hne : D ≠ []) (hz : ¬ (D.head? = some 48 ∧ (1 < D.length ∨ neg = true))) (hE : ErrP p w) (hp : p < w.heap.size) :
    Calls Tryz.prog 199 #[.string X, .int .i64 10, .int .i64 64] w fun e w' => Below w.heap.size w w' ∧ ((∃ v, numO neg D = some v ∧ e = .returned (.tuple #[.int .i64 v, .nilIface])) ∨ (numO neg D = Option.none ∧ ∃ v g, e = .returned (.tuple #[.int .i64 v, .iface 285 (.pointer (some ⟨g, 0, Option.none⟩))]))) := by
  have hv := parseInt_val neg D hall hne
  rw [← hX] at hv
  have hn : numO neg D = if valD 0 D ≤ (if neg then 9223372036854775808 else 9223372036854775807) then some (if neg then -(valD 0 D : Int) else valD 0 D) else Option.none := by
    unfold numO
    rw [if_neg (fun h => h.elim hne hz)]
  by_cases hb : valD 0 D ≤ (if neg then 9223372036854775808 else 9223372036854775807)
  · rw [if_pos hb] at hv hn
    refine (Tryz.strconv_ParseInt_10_at64_ok X (by omega) _ hv w).mono fun e w' ⟨he, hw⟩ => ⟨?_, .inl ⟨_, hn, he⟩⟩
    rcases hw with rfl | ⟨t, rfl⟩
    · exact Below.refl _ _
    · exact Lib.bytesWorld_below w 5 t
  · rw [if_neg hb] at hv hn
    obtain ⟨tp, q, hE⟩ := hE
    refine (Tryz.strconv_ParseInt_10_at64_range_var X (by omega) hv tp q w (hE w (Upd.refl _ _))).mono fun e w' ⟨N, he, _, _, hbl⟩ => ⟨hbl, .inr ⟨hn, _, N, he⟩⟩
set_option maxRecDepth 100000 in
set_option maxHeartbeats 4000000 in
theorem digits_pos (s : ByteArray) (i k : Nat) (w : World) (p : Nat) (h : Rdr w p s i k) (hi : i ≤ s.size) (hs : s.size ≤ 140737488351232) (hE : ErrP p w) :
    Calls Tryz.prog 139 #[.pointer (some ⟨p, 0, Option.none⟩), .bool false] w fun e w' => Upd p w w' ∧ Rdr w' p s (i + ((rest s i).takeWhile digB).length) k ∧ DigR (numO false ((rest s i).takeWhile digB)) e := by
  have hp := h.lt
  have c0 := h.cell 0 rfl
  have c1 := h.cell 1 rfl
  have f1 := h.free 1
  have HR := Lib.hid h
  have HEP := Lib.hid hE

  clear h hE
  obtain ⟨D, hD⟩ : ∃ D, D = (rest s i).takeWhile digB := ⟨_, rfl⟩
  rw [← hD]
  have HD := Lib.hid hD
  clear hD
  go_enter Tryz.func139, Tryz.ntmps139
  go_wp2_with fail
  obtain ⟨W0, hW0⟩ : ∃ W0, W0 = w := ⟨_, rfl⟩
  have HR0 : Hid (Rdr W0 p s i k) := Lib.hid (by rw [hW0]; exact HR.out)
  have HU0 : Hid (Upd p w W0) := Lib.hid (by rw [hW0]; exact Upd.refl p w)
  rw [← hW0]
  clear hW0
  clear c0 c1 f1
  go_loopw [] (fun wr => ∃ j : Nat, i ≤ j ∧ j ≤ s.size ∧ Rdr wr p s j k ∧ Upd p w wr ∧ j + ((rest s j).takeWhile digB).length = i + D.length) (fun wr => s.size - posOf wr p)
  case atStart => exact ⟨i, Nat.le_refl _, hi, HR0.out, HU0.out, by rw [HD.out]⟩
  case round =>
    obtain ⟨j, hij, hj, hr, hu, hl⟩ := hrel
    have HRJ := Lib.hid hr
    have HUJ := Lib.hid hu
    have HL := Lib.hid hl
    clear hu hl
    have hpr := hr.lt
    have c0 := hr.cell 0 rfl
    have c1 := hr.cell 1 rfl
    have f1 := hr.free 1
    clear hr
    by_cases hdig : ∃ hjl : j < s.size, digB s[j] = true
    · obtain ⟨hjl, hdig⟩ := hdig
      have hjd : decide ((j : Int) < (s.size : Nat)) = true := decide_eq_true (by omega)
      have C73 : Hid (∀ w, Calls Tryz.prog 138 #[.int .u8 (s[j].toNat : Nat)] w fun e w' => e = .returned (.bool true) ∧ w' = w) := Lib.hid (fun w => by rw [← hdig]; exact digit_any s[j] w)
      have HDIG := Lib.hid hdig
      clear hdig
      go_wp2_with fail
      go_quiet (first | (go_at_call 138; exact Calls.quiet_of_same (C73.out _)))
      go_wp2_with fail
      go_roundw
      case rel => exact ⟨j + 1, by omega, by omega, Rdr.adv (HRJ.out.below (belowN (Below.refl _ _) _)), (HUJ.out.below (belowN (Below.refl _ _) _)).set 1 _, by have := HL.out; rw [rest_cons hjl, List.takeWhile_cons, if_pos HDIG.out, List.length_cons] at this; omega⟩
      case measure => rw [(Rdr.adv (HRJ.out.below (belowN (Below.refl _ _) _))).pos, HRJ.out.pos]; omega
    have hjD : j = i + D.length := by
      have := HL.out
      by_cases hjl : j < s.size
      · rw [rest_cons hjl, List.takeWhile_cons, if_neg (fun h => hdig ⟨hjl, h⟩)] at this
        simpa using this
      · rw [rest_end (by omega)] at this
        simpa using this
    have HJD := Lib.hid hjD
    obtain ⟨X, hX⟩ : ∃ X, X = s.extract i j := ⟨_, rfl⟩
    have HXL : Hid (X.data.toList = (if false then [45] else []) ++ D) := Lib.hid (by
      rw [hX]; exact (by
        have e1 : (s.extract i j).data.toList = (rest s i).take (j - i) := extract_list s i j
        rw [e1, show j - i = D.length by omega, HD.out, tw_take]; rfl))
    have HXZ : Hid (X.size ≤ 140737488351232) := Lib.hid (by
      have h1 := congrArg List.length HXL.out
      have h2 : X.data.toList.length = X.size := by simp
      rw [h2] at h1
      have h3 : D.length ≤ s.size := by omega
      rw [h1]
      simp
      omega)
    have HX := Lib.hid hX
    obtain ⟨Y, hY⟩ : ∃ Y, Y = s.extract i j := ⟨_, rfl⟩
    have HYL : Hid (Y.toList = D) := Lib.hid (by
      have e1 : (s.extract i j).data.toList = (rest s i).take (j - i) := extract_list s i j
      rw [hY, Lib.toList_data, e1, show j - i = D.length by omega, HD.out, tw_take])
    have HY := Lib.hid hY
    clear hX hjD hY
    by_cases hjl : j < s.size
    · have hnd : digB s[j] = false := by simpa using fun h => hdig ⟨hjl, h⟩
      have hjd : decide ((j : Int) < (s.size : Nat)) = true := decide_eq_true (by omega)
      have C73 : Hid (∀ w, Calls Tryz.prog 138 #[.int .u8 (s[j].toNat : Nat)] w fun e w' => e = .returned (.bool false) ∧ w' = w) := Lib.hid (fun w => by rw [← hnd]; exact digit_any s[j] w)
      clear hnd hdig
      go_wp2_with fail
      go_quiet (first | (go_at_call 138; exact Calls.quiet_of_same (C73.out _)))
      obtain ⟨nq0, hnq0⟩ : ∃ n, n = nq := ⟨_, rfl⟩
      rw [← hnq0]
      clear hnq0
      go_wp2_with fail
      go_quiet (fail)
      rw [← HY.out]
      obtain ⟨W, hW⟩ : ∃ W, W = (wr.drewN nq0).drewN nq := ⟨_, rfl⟩
      have hrW : Rdr W p s j k := by rw [hW]; exact HRJ.out.below (belowN (belowN (Below.refl _ _) _) _)
      have HUW : Hid (Upd p w W) := Lib.hid (by rw [hW]; exact HUJ.out.below (belowN (belowN (Below.refl _ _) _) _))
      have HRW := Lib.hid hrW
      rw [← hW]
      clear hW c0 c1 f1
      by_cases hDe : D = []
      · have hye : Y.toList = [] := by rw [HYL.out, hDe]
        have HN : Hid (numO false D = Option.none) := Lib.hid (by rw [hDe]; rfl)
        go_wp2_with fail
        go_ret2
        refine ⟨HUW.out, by rw [← HJD.out]; exact HRW.out, ?_⟩
        rw [HN.out]; exact DigR.no _
      have HDE := Lib.hid hDe
      obtain ⟨d, t, hDe⟩ : ∃ d t, D = d :: t := by cases hd : D with | nil => exact absurd hd hDe | cons d t => exact ⟨d, t, rfl⟩
      obtain ⟨hy1, he0, hsz⟩ := str_head (HYL.out.trans hDe)
      have hye : Y.toList.isEmpty = false := by rw [HYL.out, hDe]; rfl
      by_cases hbad : d = 48 ∧ t ≠ []
      · have e48 : ((Y[0]'hy1).toNat : Int) = 48 := by rw [he0, hbad.1]; rfl
        have ht1 : ¬ ((Y.size : Nat) : Int) ≤ 1 := by cases t with | nil => exact absurd rfl hbad.2 | cons => simp at hsz; omega
        have HN : Hid (numO false D = Option.none) := Lib.hid (by rw [hDe]; unfold numO; rw [if_pos (.inr ⟨by rw [hbad.1]; rfl, .inl (by cases t with | nil => exact absurd rfl hbad.2 | cons => simp)⟩)])
        clear he0 hsz hDe hbad
        go_wp2_with fail
        all_goals
          go_ret2
          refine ⟨HUW.out, by rw [← HJD.out]; exact HRW.out, ?_⟩
          rw [HN.out]; exact DigR.no _
      have HZ : Hid (¬ (D.head? = some 48 ∧ (1 < D.length ∨ false = true))) := Lib.hid (by rw [hDe]; rintro ⟨h1, h2 | h2⟩; exact hbad ⟨by simpa using h1, by rintro rfl; simp at h2⟩; cases h2)
      have e48 : ¬ (((Y[0]'hy1).toNat : Int) = 48 ∧ ¬ ((Y.size : Nat) : Int) ≤ 1) := by
        rintro ⟨h1, h2⟩
        refine hbad ⟨UInt8.toNat_inj.1 (by rw [he0] at h1; have : (48 : UInt8).toNat = 48 := rfl; omega), ?_⟩
        rintro rfl
        simp at hsz; omega

      have HDT := Lib.hid hDe
      clear hDe he0 hsz hbad
      have hpW := HRW.out.lt
      have c0 := HRW.out.cell 0 rfl
      have c1 := HRW.out.cell 1 rfl
      have hij1 : (i : Int) ≤ j := by omega
      have hij2 : (j : Int) ≤ s.size := by omega
      go_wp2_with fail
      all_goals
        refine RegT.region_mix (fun i => Nat.ble i 14) (fun V => Rdr V p s j k) [(true, 0), (true, 1), (true, 2), (true, 3), (true, 4), (true, 5), (true, 6), (true, 7), (true, 8), (true, 9), (false, 10), (false, 11), (true, 12), (true, 13), (false, 14), (false, 15)] rfl (by kernel_rfl) (by kernel_rfl) (by decide) ?_
        have hS0 : Rdr W.drew p s j k := HRW.out
        refine RegT.seqM_quiet hS0 rfl (fun _ _ _ h => h) (by kernel_rfl) (v := .pointer (some ⟨p, 0, Option.none⟩)) (fun w' hS => ?_) ?_
        · go_simp
        refine RegT.seqM_quiet hS0 rfl (fun _ _ _ h => h) (by kernel_rfl) (v := .pointer (some ⟨p, 0, Option.none⟩)) (fun w' hS => ?_) ?_
        · go_simp
        refine RegT.seqM_quiet hS0 rfl (fun _ _ _ h => h) (by kernel_rfl) (v := .pointer (some ⟨p, 0, Option.none⟩)) (fun w' hS => ?_) ?_
        · go_simp
        refine RegT.seqM_quiet hS0 rfl (fun _ _ _ h => h) (by kernel_rfl) (v := .string s) (fun w' hS => ?_) ?_
        · have hS : Rdr w' p s j k := hS; have t0 := hS.cell 0 rfl; have t1 := hS.cell 1 rfl; go_simp
        refine RegT.seqM_quiet hS0 rfl (fun _ _ _ h => h) (by kernel_rfl) (v := .int .i64 i) (fun w' hS => ?_) ?_
        · go_simp
        refine RegT.seqM_quiet hS0 rfl (fun _ _ _ h => h) (by kernel_rfl) (v := .pointer (some ⟨p, 0, Option.none⟩)) (fun w' hS => ?_) ?_
        · go_simp
        refine RegT.seqM_quiet hS0 rfl (fun _ _ _ h => h) (by kernel_rfl) (v := .pointer (some ⟨p, 0, Option.none⟩)) (fun w' hS => ?_) ?_
        · go_simp
        refine RegT.seqM_quiet hS0 rfl (fun _ _ _ h => h) (by kernel_rfl) (v := .pointer (some ⟨p, 1, Option.none⟩)) (fun w' hS => ?_) ?_
        · go_simp
        refine RegT.seqM_quiet hS0 rfl (fun _ _ _ h => h) (by kernel_rfl) (v := .int .i64 j) (fun w' hS => ?_) ?_
        · have hS : Rdr w' p s j k := hS; have t0 := hS.cell 0 rfl; have t1 := hS.cell 1 rfl; go_simp
        refine RegT.seqM_quiet hS0 rfl (fun _ _ _ h => h) (by kernel_rfl) (v := .string (s.extract i j)) (fun w' hS => ?_) ?_
        · go_simp
        rw [← HX.out]
        refine RegT.seqM_held rfl ?_
        have C89 := Lib.hid (parseRun (w := W.drew) X false D HXL.out HXZ.out (by rw [HD.out]; exact tw_all _) HDE.out (by simpa using HZ.out) (HEP.out.on HUW.out.drew) hpW)
        clear e48 hye hS0
        go_wp2_with (first | (go_at_call 199; refine C89.out.mono ?_; rintro e w4 ⟨hb4, ⟨v, hnv, rfl⟩ | ⟨hnv, v, g, rfl⟩⟩))
        · have hS4 : Rdr w4 p s j k := (show Rdr W.drew p s j k from HRW.out).below hb4
          refine ⟨hS4, RegT.seqM_held rfl ?_⟩
          go_wp2_with fail
          refine ⟨hS4, ?_⟩
          refine RegT.seqM_quiet hS4 rfl (fun _ _ _ h => h) (by kernel_rfl) (v := .int .i64 v) (fun w' hS => ?_) ?_
          · go_simp
          refine RegT.seqM_quiet hS4 rfl (fun _ _ _ h => h) (by kernel_rfl) (v := .nilIface) (fun w' hS => ?_) ?_
          · go_simp
          refine RegT.seqM_held rfl ?_
          go_wp2_with fail
          refine ⟨hS4, RegT.seqM_free rfl rfl ?_⟩
          go_wp2_with fail
          refine RegT.seqM_end ?_
          simp only [RegT.NP]
          go_wp2_with fail
          go_quiet (fail)
          go_wp2_with fail
          go_ret2
          refine ⟨(HUW.out.drew.below hb4).drewN _, ?_, ?_⟩
          · rw [← HJD.out]; exact hS4.below (belowN (Below.refl _ _) _)
          · rw [hnv]; exact DigR.yes _
        · have hS4 : Rdr w4 p s j k := (show Rdr W.drew p s j k from HRW.out).below hb4
          refine ⟨hS4, RegT.seqM_held rfl ?_⟩
          go_wp2_with fail
          refine ⟨hS4, ?_⟩
          refine RegT.seqM_quiet hS4 rfl (fun _ _ _ h => h) (by kernel_rfl) (v := .int .i64 v) (fun w' hS => ?_) ?_
          · go_simp
          refine RegT.seqM_quiet hS4 rfl (fun _ _ _ h => h) (by kernel_rfl) (v := .iface 285 (.pointer (some ⟨g, 0, Option.none⟩))) (fun w' hS => ?_) ?_
          · go_simp
          refine RegT.seqM_held rfl ?_
          go_wp2_with fail
          refine ⟨hS4, RegT.seqM_free rfl rfl ?_⟩
          go_wp2_with fail
          refine RegT.seqM_end ?_
          simp only [RegT.NP]
          go_wp2_with fail
          go_quiet (fail)
          go_wp2_with fail
          go_ret2
          refine ⟨(HUW.out.drew.below hb4).drewN _, ?_, ?_⟩
          · rw [← HJD.out]; exact hS4.below (belowN (Below.refl _ _) _)
          · rw [hnv]; exact DigR.no _
    · have hjd : decide ((j : Int) < (s.size : Nat)) = false := decide_eq_false (by omega)
      clear hdig
      go_wp2_with fail
      go_quiet (fail)
      obtain ⟨nq0, hnq0⟩ : ∃ n, n = nq := ⟨_, rfl⟩
      rw [← hnq0]
      clear hnq0
      go_wp2_with fail
      go_quiet (fail)
      rw [← HY.out]
      obtain ⟨W, hW⟩ : ∃ W, W = (wr.drewN nq0).drewN nq := ⟨_, rfl⟩
      have hrW : Rdr W p s j k := by rw [hW]; exact HRJ.out.below (belowN (belowN (Below.refl _ _) _) _)
      have HUW : Hid (Upd p w W) := Lib.hid (by rw [hW]; exact HUJ.out.below (belowN (belowN (Below.refl _ _) _) _))
      have HRW := Lib.hid hrW
      rw [← hW]
      clear hW c0 c1 f1
      by_cases hDe : D = []
      · have hye : Y.toList = [] := by rw [HYL.out, hDe]
        have HN : Hid (numO false D = Option.none) := Lib.hid (by rw [hDe]; rfl)
        go_wp2_with fail
        go_ret2
        refine ⟨HUW.out, by rw [← HJD.out]; exact HRW.out, ?_⟩
        rw [HN.out]; exact DigR.no _
      have HDE := Lib.hid hDe
      obtain ⟨d, t, hDe⟩ : ∃ d t, D = d :: t := by cases hd : D with | nil => exact absurd hd hDe | cons d t => exact ⟨d, t, rfl⟩
      obtain ⟨hy1, he0, hsz⟩ := str_head (HYL.out.trans hDe)
      have hye : Y.toList.isEmpty = false := by rw [HYL.out, hDe]; rfl
      by_cases hbad : d = 48 ∧ t ≠ []
      · have e48 : ((Y[0]'hy1).toNat : Int) = 48 := by rw [he0, hbad.1]; rfl
        have ht1 : ¬ ((Y.size : Nat) : Int) ≤ 1 := by cases t with | nil => exact absurd rfl hbad.2 | cons => simp at hsz; omega
        have HN : Hid (numO false D = Option.none) := Lib.hid (by rw [hDe]; unfold numO; rw [if_pos (.inr ⟨by rw [hbad.1]; rfl, .inl (by cases t with | nil => exact absurd rfl hbad.2 | cons => simp)⟩)])
        clear he0 hsz hDe hbad
        go_wp2_with fail
        all_goals
          go_ret2
          refine ⟨HUW.out, by rw [← HJD.out]; exact HRW.out, ?_⟩
          rw [HN.out]; exact DigR.no _
      have HZ : Hid (¬ (D.head? = some 48 ∧ (1 < D.length ∨ false = true))) := Lib.hid (by rw [hDe]; rintro ⟨h1, h2 | h2⟩; exact hbad ⟨by simpa using h1, by rintro rfl; simp at h2⟩; cases h2)
      have e48 : ¬ (((Y[0]'hy1).toNat : Int) = 48 ∧ ¬ ((Y.size : Nat) : Int) ≤ 1) := by
        rintro ⟨h1, h2⟩
        refine hbad ⟨UInt8.toNat_inj.1 (by rw [he0] at h1; have : (48 : UInt8).toNat = 48 := rfl; omega), ?_⟩
        rintro rfl
        simp at hsz; omega

      have HDT := Lib.hid hDe
      clear hDe he0 hsz hbad
      have hpW := HRW.out.lt
      have c0 := HRW.out.cell 0 rfl
      have c1 := HRW.out.cell 1 rfl
      have hij1 : (i : Int) ≤ j := by omega
      have hij2 : (j : Int) ≤ s.size := by omega
      go_wp2_with fail
      all_goals
        refine RegT.region_mix (fun i => Nat.ble i 14) (fun V => Rdr V p s j k) [(true, 0), (true, 1), (true, 2), (true, 3), (true, 4), (true, 5), (true, 6), (true, 7), (true, 8), (true, 9), (false, 10), (false, 11), (true, 12), (true, 13), (false, 14), (false, 15)] rfl (by kernel_rfl) (by kernel_rfl) (by decide) ?_
        have hS0 : Rdr W.drew p s j k := HRW.out
        refine RegT.seqM_quiet hS0 rfl (fun _ _ _ h => h) (by kernel_rfl) (v := .pointer (some ⟨p, 0, Option.none⟩)) (fun w' hS => ?_) ?_
        · go_simp
        refine RegT.seqM_quiet hS0 rfl (fun _ _ _ h => h) (by kernel_rfl) (v := .pointer (some ⟨p, 0, Option.none⟩)) (fun w' hS => ?_) ?_
        · go_simp
        refine RegT.seqM_quiet hS0 rfl (fun _ _ _ h => h) (by kernel_rfl) (v := .pointer (some ⟨p, 0, Option.none⟩)) (fun w' hS => ?_) ?_
        · go_simp
        refine RegT.seqM_quiet hS0 rfl (fun _ _ _ h => h) (by kernel_rfl) (v := .string s) (fun w' hS => ?_) ?_
        · have hS : Rdr w' p s j k := hS; have t0 := hS.cell 0 rfl; have t1 := hS.cell 1 rfl; go_simp
        refine RegT.seqM_quiet hS0 rfl (fun _ _ _ h => h) (by kernel_rfl) (v := .int .i64 i) (fun w' hS => ?_) ?_
        · go_simp
        refine RegT.seqM_quiet hS0 rfl (fun _ _ _ h => h) (by kernel_rfl) (v := .pointer (some ⟨p, 0, Option.none⟩)) (fun w' hS => ?_) ?_
        · go_simp
        refine RegT.seqM_quiet hS0 rfl (fun _ _ _ h => h) (by kernel_rfl) (v := .pointer (some ⟨p, 0, Option.none⟩)) (fun w' hS => ?_) ?_
        · go_simp
        refine RegT.seqM_quiet hS0 rfl (fun _ _ _ h => h) (by kernel_rfl) (v := .pointer (some ⟨p, 1, Option.none⟩)) (fun w' hS => ?_) ?_
        · go_simp
        refine RegT.seqM_quiet hS0 rfl (fun _ _ _ h => h) (by kernel_rfl) (v := .int .i64 j) (fun w' hS => ?_) ?_
        · have hS : Rdr w' p s j k := hS; have t0 := hS.cell 0 rfl; have t1 := hS.cell 1 rfl; go_simp
        refine RegT.seqM_quiet hS0 rfl (fun _ _ _ h => h) (by kernel_rfl) (v := .string (s.extract i j)) (fun w' hS => ?_) ?_
        · go_simp
        rw [← HX.out]
        refine RegT.seqM_held rfl ?_
        have C89 := Lib.hid (parseRun (w := W.drew) X false D HXL.out HXZ.out (by rw [HD.out]; exact tw_all _) HDE.out (by simpa using HZ.out) (HEP.out.on HUW.out.drew) hpW)
        clear e48 hye hS0
        go_wp2_with (first | (go_at_call 199; refine C89.out.mono ?_; rintro e w4 ⟨hb4, ⟨v, hnv, rfl⟩ | ⟨hnv, v, g, rfl⟩⟩))
        · have hS4 : Rdr w4 p s j k := (show Rdr W.drew p s j k from HRW.out).below hb4
          refine ⟨hS4, RegT.seqM_held rfl ?_⟩
          go_wp2_with fail
          refine ⟨hS4, ?_⟩
          refine RegT.seqM_quiet hS4 rfl (fun _ _ _ h => h) (by kernel_rfl) (v := .int .i64 v) (fun w' hS => ?_) ?_
          · go_simp
          refine RegT.seqM_quiet hS4 rfl (fun _ _ _ h => h) (by kernel_rfl) (v := .nilIface) (fun w' hS => ?_) ?_
          · go_simp
          refine RegT.seqM_held rfl ?_
          go_wp2_with fail
          refine ⟨hS4, RegT.seqM_free rfl rfl ?_⟩
          go_wp2_with fail
          refine RegT.seqM_end ?_
          simp only [RegT.NP]
          go_wp2_with fail
          go_quiet (fail)
          go_wp2_with fail
          go_ret2
          refine ⟨(HUW.out.drew.below hb4).drewN _, ?_, ?_⟩
          · rw [← HJD.out]; exact hS4.below (belowN (Below.refl _ _) _)
          · rw [hnv]; exact DigR.yes _
        · have hS4 : Rdr w4 p s j k := (show Rdr W.drew p s j k from HRW.out).below hb4
          refine ⟨hS4, RegT.seqM_held rfl ?_⟩
          go_wp2_with fail
          refine ⟨hS4, ?_⟩
          refine RegT.seqM_quiet hS4 rfl (fun _ _ _ h => h) (by kernel_rfl) (v := .int .i64 v) (fun w' hS => ?_) ?_
          · go_simp
          refine RegT.seqM_quiet hS4 rfl (fun _ _ _ h => h) (by kernel_rfl) (v := .iface 285 (.pointer (some ⟨g, 0, Option.none⟩))) (fun w' hS => ?_) ?_
          · go_simp
          refine RegT.seqM_held rfl ?_
          go_wp2_with fail
          refine ⟨hS4, RegT.seqM_free rfl rfl ?_⟩
          go_wp2_with fail
          refine RegT.seqM_end ?_
          simp only [RegT.NP]
          go_wp2_with fail
          go_quiet (fail)
          go_wp2_with fail
          go_ret2
          refine ⟨(HUW.out.drew.below hb4).drewN _, ?_, ?_⟩
          · rw [← HJD.out]; exact hS4.below (belowN (Below.refl _ _) _)
          · rw [hnv]; exact DigR.no _
set_option maxRecDepth 100000 in
set_option maxHeartbeats 4000000 in
theorem digits_neg (s : ByteArray) (i k : Nat) (w : World) (p : Nat) (h : Rdr w p s i k) (hi : i < s.size) (hs : s.size ≤ 140737488351232) (h45 : s[i] = 45) (hE : ErrP p w) :
    Calls Tryz.prog 139 #[.pointer (some ⟨p, 0, Option.none⟩), .bool true] w fun e w' => Upd p w w' ∧ Rdr w' p s ((i + 1) + ((rest s (i + 1)).takeWhile digB).length) k ∧ DigR (numO true ((rest s (i + 1)).takeWhile digB)) e := by
  have hp := h.lt
  have c0 := h.cell 0 rfl
  have c1 := h.cell 1 rfl
  have f1 := h.free 1
  have HR := Lib.hid h
  have HEP := Lib.hid hE
  have H45 := Lib.hid h45
  clear h hE h45
  obtain ⟨D, hD⟩ : ∃ D, D = (rest s (i + 1)).takeWhile digB := ⟨_, rfl⟩
  rw [← hD]
  have HD := Lib.hid hD
  clear hD
  go_enter Tryz.func139, Tryz.ntmps139
  go_wp2_with fail
  obtain ⟨W0, hW0⟩ : ∃ W0, W0 = w.setCell ⟨p, 1, Option.none⟩ (.int .i64 ((i : Int) + 1)) := ⟨_, rfl⟩
  have HR0 : Hid (Rdr W0 p s (i + 1) k) := Lib.hid (by rw [hW0]; exact Rdr.adv HR.out)
  have HU0 : Hid (Upd p w W0) := Lib.hid (by rw [hW0]; exact (Upd.refl p w).set 1 _)
  rw [← hW0]
  clear hW0
  clear c0 c1 f1
  go_loopw [] (fun wr => ∃ j : Nat, (i + 1) ≤ j ∧ j ≤ s.size ∧ Rdr wr p s j k ∧ Upd p w wr ∧ j + ((rest s j).takeWhile digB).length = (i + 1) + D.length) (fun wr => s.size - posOf wr p)
  case atStart => exact ⟨(i + 1), Nat.le_refl _, hi, HR0.out, HU0.out, by rw [HD.out]⟩
  case round =>
    obtain ⟨j, hij, hj, hr, hu, hl⟩ := hrel
    have HRJ := Lib.hid hr
    have HUJ := Lib.hid hu
    have HL := Lib.hid hl
    clear hu hl
    have hpr := hr.lt
    have c0 := hr.cell 0 rfl
    have c1 := hr.cell 1 rfl
    have f1 := hr.free 1
    clear hr
    by_cases hdig : ∃ hjl : j < s.size, digB s[j] = true
    · obtain ⟨hjl, hdig⟩ := hdig
      have hjd : decide ((j : Int) < (s.size : Nat)) = true := decide_eq_true (by omega)
      have C73 : Hid (∀ w, Calls Tryz.prog 138 #[.int .u8 (s[j].toNat : Nat)] w fun e w' => e = .returned (.bool true) ∧ w' = w) := Lib.hid (fun w => by rw [← hdig]; exact digit_any s[j] w)
      have HDIG := Lib.hid hdig
      clear hdig
      go_wp2_with fail
      go_quiet (first | (go_at_call 138; exact Calls.quiet_of_same (C73.out _)))
      go_wp2_with fail
      go_roundw
      case rel => exact ⟨j + 1, by omega, by omega, Rdr.adv (HRJ.out.below (belowN (Below.refl _ _) _)), (HUJ.out.below (belowN (Below.refl _ _) _)).set 1 _, by have := HL.out; rw [rest_cons hjl, List.takeWhile_cons, if_pos HDIG.out, List.length_cons] at this; omega⟩
      case measure => rw [(Rdr.adv (HRJ.out.below (belowN (Below.refl _ _) _))).pos, HRJ.out.pos]; omega
    have hjD : j = (i + 1) + D.length := by
      have := HL.out
      by_cases hjl : j < s.size
      · rw [rest_cons hjl, List.takeWhile_cons, if_neg (fun h => hdig ⟨hjl, h⟩)] at this
        simpa using this
      · rw [rest_end (by omega)] at this
        simpa using this
    have HJD := Lib.hid hjD
    obtain ⟨X, hX⟩ : ∃ X, X = s.extract i j := ⟨_, rfl⟩
    have HXL : Hid (X.data.toList = (if true then [45] else []) ++ D) := Lib.hid (by
      rw [hX]; exact (by
        have e1 : (s.extract i j).data.toList = (rest s i).take (j - i) := extract_list s i j
        rw [e1, rest_cons hi, H45.out, show j - i = (j - (i + 1)) + 1 by omega, List.take_succ_cons, show j - (i + 1) = D.length by omega, HD.out, tw_take]; rfl))
    have HXZ : Hid (X.size ≤ 140737488351232) := Lib.hid (by
      have h1 := congrArg List.length HXL.out
      have h2 : X.data.toList.length = X.size := by simp
      rw [h2] at h1
      have h3 : D.length ≤ s.size := by omega
      rw [h1]
      simp
      omega)
    have HX := Lib.hid hX
    obtain ⟨Y, hY⟩ : ∃ Y, Y = s.extract (i + 1) j := ⟨_, rfl⟩
    have HYL : Hid (Y.toList = D) := Lib.hid (by
      have e1 : (s.extract (i + 1) j).data.toList = (rest s (i + 1)).take (j - (i + 1)) := extract_list s (i + 1) j
      rw [hY, Lib.toList_data, e1, show j - (i + 1) = D.length by omega, HD.out, tw_take])
    have HY := Lib.hid hY
    clear hX hjD hY
    by_cases hjl : j < s.size
    · have hnd : digB s[j] = false := by simpa using fun h => hdig ⟨hjl, h⟩
      have hjd : decide ((j : Int) < (s.size : Nat)) = true := decide_eq_true (by omega)
      have C73 : Hid (∀ w, Calls Tryz.prog 138 #[.int .u8 (s[j].toNat : Nat)] w fun e w' => e = .returned (.bool false) ∧ w' = w) := Lib.hid (fun w => by rw [← hnd]; exact digit_any s[j] w)
      clear hnd hdig
      go_wp2_with fail
      go_quiet (first | (go_at_call 138; exact Calls.quiet_of_same (C73.out _)))
      obtain ⟨nq0, hnq0⟩ : ∃ n, n = nq := ⟨_, rfl⟩
      rw [← hnq0]
      clear hnq0
      go_wp2_with fail
      go_quiet (fail)
      rw [← HY.out]
      obtain ⟨W, hW⟩ : ∃ W, W = (wr.drewN nq0).drewN nq := ⟨_, rfl⟩
      have hrW : Rdr W p s j k := by rw [hW]; exact HRJ.out.below (belowN (belowN (Below.refl _ _) _) _)
      have HUW : Hid (Upd p w W) := Lib.hid (by rw [hW]; exact HUJ.out.below (belowN (belowN (Below.refl _ _) _) _))
      have HRW := Lib.hid hrW
      rw [← hW]
      clear hW c0 c1 f1
      by_cases hDe : D = []
      · have hye : Y.toList = [] := by rw [HYL.out, hDe]
        have HN : Hid (numO true D = Option.none) := Lib.hid (by rw [hDe]; rfl)
        go_wp2_with fail
        go_ret2
        refine ⟨HUW.out, by rw [← HJD.out]; exact HRW.out, ?_⟩
        rw [HN.out]; exact DigR.no _
      have HDE := Lib.hid hDe
      obtain ⟨d, t, hDe⟩ : ∃ d t, D = d :: t := by cases hd : D with | nil => exact absurd hd hDe | cons d t => exact ⟨d, t, rfl⟩
      obtain ⟨hy1, he0, hsz⟩ := str_head (HYL.out.trans hDe)
      have hye : Y.toList.isEmpty = false := by rw [HYL.out, hDe]; rfl
      by_cases hd48 : d = 48
      · have e48 : ((Y[0]'hy1).toNat : Int) = 48 := by rw [he0, hd48]; rfl
        have HN : Hid (numO true D = Option.none) := Lib.hid (by rw [hDe]; unfold numO; rw [if_pos (.inr ⟨by rw [hd48]; rfl, .inr rfl⟩)])
        clear he0 hDe hd48 hsz
        go_wp2_with fail
        all_goals
          go_ret2
          refine ⟨HUW.out, by rw [← HJD.out]; exact HRW.out, ?_⟩
          rw [HN.out]; exact DigR.no _
      have HZ : Hid (¬ (D.head? = some 48 ∧ (1 < D.length ∨ true = true))) := Lib.hid (by rw [hDe]; intro h; exact hd48 (by simpa using h.1))
      have e48 : ¬ ((Y[0]'hy1).toNat : Int) = 48 := by rw [he0]; intro h; exact hd48 (UInt8.toNat_inj.1 (by have : (48 : UInt8).toNat = 48 := rfl; omega))

      have HDT := Lib.hid hDe
      clear hDe he0 hsz hd48
      have hpW := HRW.out.lt
      have c0 := HRW.out.cell 0 rfl
      have c1 := HRW.out.cell 1 rfl
      have hij1 : (i : Int) ≤ j := by omega
      have hij2 : (j : Int) ≤ s.size := by omega
      go_wp2_with fail
      all_goals
        refine RegT.region_mix (fun i => Nat.ble i 14) (fun V => Rdr V p s j k) [(true, 0), (true, 1), (true, 2), (true, 3), (true, 4), (true, 5), (true, 6), (true, 7), (true, 8), (true, 9), (false, 10), (false, 11), (true, 12), (true, 13), (false, 14), (false, 15)] rfl (by kernel_rfl) (by kernel_rfl) (by decide) ?_
        have hS0 : Rdr W.drew p s j k := HRW.out
        refine RegT.seqM_quiet hS0 rfl (fun _ _ _ h => h) (by kernel_rfl) (v := .pointer (some ⟨p, 0, Option.none⟩)) (fun w' hS => ?_) ?_
        · go_simp
        refine RegT.seqM_quiet hS0 rfl (fun _ _ _ h => h) (by kernel_rfl) (v := .pointer (some ⟨p, 0, Option.none⟩)) (fun w' hS => ?_) ?_
        · go_simp
        refine RegT.seqM_quiet hS0 rfl (fun _ _ _ h => h) (by kernel_rfl) (v := .pointer (some ⟨p, 0, Option.none⟩)) (fun w' hS => ?_) ?_
        · go_simp
        refine RegT.seqM_quiet hS0 rfl (fun _ _ _ h => h) (by kernel_rfl) (v := .string s) (fun w' hS => ?_) ?_
        · have hS : Rdr w' p s j k := hS; have t0 := hS.cell 0 rfl; have t1 := hS.cell 1 rfl; go_simp
        refine RegT.seqM_quiet hS0 rfl (fun _ _ _ h => h) (by kernel_rfl) (v := .int .i64 i) (fun w' hS => ?_) ?_
        · go_simp
        refine RegT.seqM_quiet hS0 rfl (fun _ _ _ h => h) (by kernel_rfl) (v := .pointer (some ⟨p, 0, Option.none⟩)) (fun w' hS => ?_) ?_
        · go_simp
        refine RegT.seqM_quiet hS0 rfl (fun _ _ _ h => h) (by kernel_rfl) (v := .pointer (some ⟨p, 0, Option.none⟩)) (fun w' hS => ?_) ?_
        · go_simp
        refine RegT.seqM_quiet hS0 rfl (fun _ _ _ h => h) (by kernel_rfl) (v := .pointer (some ⟨p, 1, Option.none⟩)) (fun w' hS => ?_) ?_
        · go_simp
        refine RegT.seqM_quiet hS0 rfl (fun _ _ _ h => h) (by kernel_rfl) (v := .int .i64 j) (fun w' hS => ?_) ?_
        · have hS : Rdr w' p s j k := hS; have t0 := hS.cell 0 rfl; have t1 := hS.cell 1 rfl; go_simp
        refine RegT.seqM_quiet hS0 rfl (fun _ _ _ h => h) (by kernel_rfl) (v := .string (s.extract i j)) (fun w' hS => ?_) ?_
        · go_simp
        rw [← HX.out]
        refine RegT.seqM_held rfl ?_
        have C89 := Lib.hid (parseRun (w := W.drew) X true D HXL.out HXZ.out (by rw [HD.out]; exact tw_all _) HDE.out (by simpa using HZ.out) (HEP.out.on HUW.out.drew) hpW)
        clear e48 hye hS0
        go_wp2_with (first | (go_at_call 199; refine C89.out.mono ?_; rintro e w4 ⟨hb4, ⟨v, hnv, rfl⟩ | ⟨hnv, v, g, rfl⟩⟩))
        · have hS4 : Rdr w4 p s j k := (show Rdr W.drew p s j k from HRW.out).below hb4
          refine ⟨hS4, RegT.seqM_held rfl ?_⟩
          go_wp2_with fail
          refine ⟨hS4, ?_⟩
          refine RegT.seqM_quiet hS4 rfl (fun _ _ _ h => h) (by kernel_rfl) (v := .int .i64 v) (fun w' hS => ?_) ?_
          · go_simp
          refine RegT.seqM_quiet hS4 rfl (fun _ _ _ h => h) (by kernel_rfl) (v := .nilIface) (fun w' hS => ?_) ?_
          · go_simp
          refine RegT.seqM_held rfl ?_
          go_wp2_with fail
          refine ⟨hS4, RegT.seqM_free rfl rfl ?_⟩
          go_wp2_with fail
          refine RegT.seqM_end ?_
          simp only [RegT.NP]
          go_wp2_with fail
          go_quiet (fail)
          go_wp2_with fail
          go_ret2
          refine ⟨(HUW.out.drew.below hb4).drewN _, ?_, ?_⟩
          · rw [← HJD.out]; exact hS4.below (belowN (Below.refl _ _) _)
          · rw [hnv]; exact DigR.yes _
        · have hS4 : Rdr w4 p s j k := (show Rdr W.drew p s j k from HRW.out).below hb4
          refine ⟨hS4, RegT.seqM_held rfl ?_⟩
          go_wp2_with fail
          refine ⟨hS4, ?_⟩
          refine RegT.seqM_quiet hS4 rfl (fun _ _ _ h => h) (by kernel_rfl) (v := .int .i64 v) (fun w' hS => ?_) ?_
          · go_simp
          refine RegT.seqM_quiet hS4 rfl (fun _ _ _ h => h) (by kernel_rfl) (v := .iface 285 (.pointer (some ⟨g, 0, Option.none⟩))) (fun w' hS => ?_) ?_
          · go_simp
          refine RegT.seqM_held rfl ?_
          go_wp2_with fail
          refine ⟨hS4, RegT.seqM_free rfl rfl ?_⟩
          go_wp2_with fail
          refine RegT.seqM_end ?_
          simp only [RegT.NP]
          go_wp2_with fail
          go_quiet (fail)
          go_wp2_with fail
          go_ret2
          refine ⟨(HUW.out.drew.below hb4).drewN _, ?_, ?_⟩
          · rw [← HJD.out]; exact hS4.below (belowN (Below.refl _ _) _)
          · rw [hnv]; exact DigR.no _
    · have hjd : decide ((j : Int) < (s.size : Nat)) = false := decide_eq_false (by omega)
      clear hdig
      go_wp2_with fail
      go_quiet (fail)
      obtain ⟨nq0, hnq0⟩ : ∃ n, n = nq := ⟨_, rfl⟩
      rw [← hnq0]
      clear hnq0
      go_wp2_with fail
      go_quiet (fail)
      rw [← HY.out]
      obtain ⟨W, hW⟩ : ∃ W, W = (wr.drewN nq0).drewN nq := ⟨_, rfl⟩
      have hrW : Rdr W p s j k := by rw [hW]; exact HRJ.out.below (belowN (belowN (Below.refl _ _) _) _)
      have HUW : Hid (Upd p w W) := Lib.hid (by rw [hW]; exact HUJ.out.below (belowN (belowN (Below.refl _ _) _) _))
      have HRW := Lib.hid hrW
      rw [← hW]
      clear hW c0 c1 f1
      by_cases hDe : D = []
      · have hye : Y.toList = [] := by rw [HYL.out, hDe]
        have HN : Hid (numO true D = Option.none) := Lib.hid (by rw [hDe]; rfl)
        go_wp2_with fail
        go_ret2
        refine ⟨HUW.out, by rw [← HJD.out]; exact HRW.out, ?_⟩
        rw [HN.out]; exact DigR.no _
      have HDE := Lib.hid hDe
      obtain ⟨d, t, hDe⟩ : ∃ d t, D = d :: t := by cases hd : D with | nil => exact absurd hd hDe | cons d t => exact ⟨d, t, rfl⟩
      obtain ⟨hy1, he0, hsz⟩ := str_head (HYL.out.trans hDe)
      have hye : Y.toList.isEmpty = false := by rw [HYL.out, hDe]; rfl
      by_cases hd48 : d = 48
      · have e48 : ((Y[0]'hy1).toNat : Int) = 48 := by rw [he0, hd48]; rfl
        have HN : Hid (numO true D = Option.none) := Lib.hid (by rw [hDe]; unfold numO; rw [if_pos (.inr ⟨by rw [hd48]; rfl, .inr rfl⟩)])
        clear he0 hDe hd48 hsz
        go_wp2_with fail
        all_goals
          go_ret2
          refine ⟨HUW.out, by rw [← HJD.out]; exact HRW.out, ?_⟩
          rw [HN.out]; exact DigR.no _
      have HZ : Hid (¬ (D.head? = some 48 ∧ (1 < D.length ∨ true = true))) := Lib.hid (by rw [hDe]; intro h; exact hd48 (by simpa using h.1))
      have e48 : ¬ ((Y[0]'hy1).toNat : Int) = 48 := by rw [he0]; intro h; exact hd48 (UInt8.toNat_inj.1 (by have : (48 : UInt8).toNat = 48 := rfl; omega))

      have HDT := Lib.hid hDe
      clear hDe he0 hsz hd48
      have hpW := HRW.out.lt
      have c0 := HRW.out.cell 0 rfl
      have c1 := HRW.out.cell 1 rfl
      have hij1 : (i : Int) ≤ j := by omega
      have hij2 : (j : Int) ≤ s.size := by omega
      go_wp2_with fail
      all_goals
        refine RegT.region_mix (fun i => Nat.ble i 14) (fun V => Rdr V p s j k) [(true, 0), (true, 1), (true, 2), (true, 3), (true, 4), (true, 5), (true, 6), (true, 7), (true, 8), (true, 9), (false, 10), (false, 11), (true, 12), (true, 13), (false, 14), (false, 15)] rfl (by kernel_rfl) (by kernel_rfl) (by decide) ?_
        have hS0 : Rdr W.drew p s j k := HRW.out
        refine RegT.seqM_quiet hS0 rfl (fun _ _ _ h => h) (by kernel_rfl) (v := .pointer (some ⟨p, 0, Option.none⟩)) (fun w' hS => ?_) ?_
        · go_simp
        refine RegT.seqM_quiet hS0 rfl (fun _ _ _ h => h) (by kernel_rfl) (v := .pointer (some ⟨p, 0, Option.none⟩)) (fun w' hS => ?_) ?_
        · go_simp
        refine RegT.seqM_quiet hS0 rfl (fun _ _ _ h => h) (by kernel_rfl) (v := .pointer (some ⟨p, 0, Option.none⟩)) (fun w' hS => ?_) ?_
        · go_simp
        refine RegT.seqM_quiet hS0 rfl (fun _ _ _ h => h) (by kernel_rfl) (v := .string s) (fun w' hS => ?_) ?_
        · have hS : Rdr w' p s j k := hS; have t0 := hS.cell 0 rfl; have t1 := hS.cell 1 rfl; go_simp
        refine RegT.seqM_quiet hS0 rfl (fun _ _ _ h => h) (by kernel_rfl) (v := .int .i64 i) (fun w' hS => ?_) ?_
        · go_simp
        refine RegT.seqM_quiet hS0 rfl (fun _ _ _ h => h) (by kernel_rfl) (v := .pointer (some ⟨p, 0, Option.none⟩)) (fun w' hS => ?_) ?_
        · go_simp
        refine RegT.seqM_quiet hS0 rfl (fun _ _ _ h => h) (by kernel_rfl) (v := .pointer (some ⟨p, 0, Option.none⟩)) (fun w' hS => ?_) ?_
        · go_simp
        refine RegT.seqM_quiet hS0 rfl (fun _ _ _ h => h) (by kernel_rfl) (v := .pointer (some ⟨p, 1, Option.none⟩)) (fun w' hS => ?_) ?_
        · go_simp
        refine RegT.seqM_quiet hS0 rfl (fun _ _ _ h => h) (by kernel_rfl) (v := .int .i64 j) (fun w' hS => ?_) ?_
        · have hS : Rdr w' p s j k := hS; have t0 := hS.cell 0 rfl; have t1 := hS.cell 1 rfl; go_simp
        refine RegT.seqM_quiet hS0 rfl (fun _ _ _ h => h) (by kernel_rfl) (v := .string (s.extract i j)) (fun w' hS => ?_) ?_
        · go_simp
        rw [← HX.out]
        refine RegT.seqM_held rfl ?_
        have C89 := Lib.hid (parseRun (w := W.drew) X true D HXL.out HXZ.out (by rw [HD.out]; exact tw_all _) HDE.out (by simpa using HZ.out) (HEP.out.on HUW.out.drew) hpW)
        clear e48 hye hS0
        go_wp2_with (first | (go_at_call 199; refine C89.out.mono ?_; rintro e w4 ⟨hb4, ⟨v, hnv, rfl⟩ | ⟨hnv, v, g, rfl⟩⟩))
        · have hS4 : Rdr w4 p s j k := (show Rdr W.drew p s j k from HRW.out).below hb4
          refine ⟨hS4, RegT.seqM_held rfl ?_⟩
          go_wp2_with fail
          refine ⟨hS4, ?_⟩
          refine RegT.seqM_quiet hS4 rfl (fun _ _ _ h => h) (by kernel_rfl) (v := .int .i64 v) (fun w' hS => ?_) ?_
          · go_simp
          refine RegT.seqM_quiet hS4 rfl (fun _ _ _ h => h) (by kernel_rfl) (v := .nilIface) (fun w' hS => ?_) ?_
          · go_simp
          refine RegT.seqM_held rfl ?_
          go_wp2_with fail
          refine ⟨hS4, RegT.seqM_free rfl rfl ?_⟩
          go_wp2_with fail
          refine RegT.seqM_end ?_
          simp only [RegT.NP]
          go_wp2_with fail
          go_quiet (fail)
          go_wp2_with fail
          go_ret2
          refine ⟨(HUW.out.drew.below hb4).drewN _, ?_, ?_⟩
          · rw [← HJD.out]; exact hS4.below (belowN (Below.refl _ _) _)
          · rw [hnv]; exact DigR.yes _
        · have hS4 : Rdr w4 p s j k := (show Rdr W.drew p s j k from HRW.out).below hb4
          refine ⟨hS4, RegT.seqM_held rfl ?_⟩
          go_wp2_with fail
          refine ⟨hS4, ?_⟩
          refine RegT.seqM_quiet hS4 rfl (fun _ _ _ h => h) (by kernel_rfl) (v := .int .i64 v) (fun w' hS => ?_) ?_
          · go_simp
          refine RegT.seqM_quiet hS4 rfl (fun _ _ _ h => h) (by kernel_rfl) (v := .iface 285 (.pointer (some ⟨g, 0, Option.none⟩))) (fun w' hS => ?_) ?_
          · go_simp
          refine RegT.seqM_held rfl ?_
          go_wp2_with fail
          refine ⟨hS4, RegT.seqM_free rfl rfl ?_⟩
          go_wp2_with fail
          refine RegT.seqM_end ?_
          simp only [RegT.NP]
          go_wp2_with fail
          go_quiet (fail)
          go_wp2_with fail
          go_ret2
          refine ⟨(HUW.out.drew.below hb4).drewN _, ?_, ?_⟩
          · rw [← HJD.out]; exact hS4.below (belowN (Below.refl _ _) _)
          · rw [hnv]; exact DigR.no _
end Go.Proofs.YtjmelamllapmiaaGreatDoor
