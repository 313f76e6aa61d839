/- The document's row of tokens: value. -/
import Derived.Test.YtjmelamllapmiaaGreatDoorNa
import Derived.Test.YtjmelamllapmiaaGreatDoorXv
import Derived.Test.YtjmelamllapmiaaGreatDoorV
namespace Go.Proofs.YtjmelamllapmiaaGreatDoor
open Go.RowKit Go.Sort

theorem DRw.adv {w : World} {p : Nat} {v : Value} {i : Nat} {st : Bool} {room : Int} (h : DRw w p v i st room) : DRw (w.setCell ⟨p, 1, Option.none⟩ (.int .i64 ((i : Int) + 1))) p v (i + 1) st room := by
  have := BlkN.set h 1 (.int .i64 ((i : Int) + 1))
  unfold DRw
  simpa using this
theorem DRw.stop {w : World} {p : Nat} {v : Value} {i : Nat} {st : Bool} {room : Int} (h : DRw w p v i st room) : DRw (w.setCell ⟨p, 2, Option.none⟩ (.bool true)) p v i true room := by
  have := BlkN.set h 2 (.bool true)
  unfold DRw
  simpa using this
theorem DRw.dec {w : World} {p : Nat} {v : Value} {i : Nat} {st : Bool} {room : Int} (h : DRw w p v i st room) : DRw (w.setCell ⟨p, 3, Option.none⟩ (.int .i64 (room - 1))) p v i st (room - 1) := by
  have := BlkN.set h 3 (.int .i64 (room - 1))
  unfold DRw
  simpa using this
theorem DRw.pos {w : World} {p : Nat} {v : Value} {i : Nat} {st : Bool} {room : Int} (h : DRw w p v i st room) (n : Nat) : offOf w p n = if st then 0 else n - i + 1 := by
  have h1 := BlkN.cell h 1 (v := .int .i64 i) rfl
  have h2 := BlkN.cell h 2 (v := .bool st) rfl
  cases st <;> simp [offOf, posOf, h1, h2]
theorem DRw.below {w w' : World} {p : Nat} {v : Value} {i : Nat} {st : Bool} {room : Int} (h : DRw w p v i st room) (hb : Below w.heap.size w w') : DRw w' p v i st room := BlkN.below h hb
theorem DRw.but {w w' : World} {p b : Nat} {v : Value} {i : Nat} {st : Bool} {room : Int} (h : DRw w p v i st room) (hb : But b w w') (hn : p ≠ b) : DRw w' p v i st room := (hb.other p hn).trans h
theorem DRw.grown {w w' : World} {p : Nat} {v : Value} {i : Nat} {st : Bool} {room : Int} {row : Option Nat} (h : DRw w p v i st room) (hg : w.grownBy w' row) (hne : ∀ g, row = some g → p < g) : DRw w' p v i st room :=
  (hg.block p (BlkN.lt h) (fun e => by have := hne p e.symm; omega)).trans h
/-- What the document's value does. -/
def rdT (nest : Nat) (t : List Tk) (k : Nat) : TRs (Va × Nat) := if 512 ≤ k then .no t else tkV nest t k
def DRs (r : TRs (Va × Nat)) (l : List Tk) (i : Nat) (p : Nat) (v : Value) (n : Nat) (e : Ending) (w' : World) : Prop := match r with
  | .ok x t => ∃ j, i < j ∧ j ≤ l.length ∧ t = l.drop j ∧ ∃ u, e = .returned u ∧ IsVaR w' (Own34 w' n) u x.1 ∧ DRw w' p v j false (512 - x.2)
  | .no t => ∃ j, i ≤ j ∧ j ≤ l.length ∧ t = l.drop j ∧ ∃ u y room, e = .returned u ∧ IsVaR w' (Own34 w' n) u y ∧ DRw w' p v j true room
def DVC (nest : Nat) : Prop := ∀ (l : List Tk) (i k : Nat) (w : World) (B p : Nat) (v : Value), DRw w p v i false (512 - k) → IsTks w B v l → B ≤ p → i ≤ l.length → (∀ t ∈ l, TkL t) → k ≤ 512 →
  Calls Tryz.prog 50 #[.pointer (some ⟨p, 0, Option.none⟩), .int .i64 nest] w fun e w' => Upd p w w' ∧ DRs (rdT nest (l.drop i) k) l i p v w.heap.size e w'
theorem isB_yes {c : Tk} {t : List Tk} {x : UInt8} (h : tokMay c = true) (h5 : c.k = 5 ∧ c.s = [x]) : isB false (c :: t) x = true := by simp [isB, h, h5.1, h5.2]
theorem isB_not {c : Tk} {t : List Tk} {x : UInt8} (h5 : ¬ (c.k = 5 ∧ c.s = [x])) : isB false (c :: t) x = false := by
  by_cases h : c.k = 5
  · have h2 : c.s ≠ [x] := fun e => h5 ⟨h, e⟩
    simp [isB, h2]
  · simp [isB, h]
theorem isB_inv {t : List Tk} {x : UInt8} (h : isB false t x = true) : ∃ c t', t = c :: t' ∧ tokMay c = true ∧ c.k = 5 ∧ c.s = [x] := by
  cases t with
  | nil => simp [isB] at h
  | cons c t' => simp [isB] at h; exact ⟨c, t', rfl, h⟩
theorem tkV_no (nest : Nat) (c : Tk) (t : List Tk) (p : Nat) (h : tokMay c = true) (h2 : c.k ≠ 2) (h3 : ¬ (c.k = 3 ∧ c.s.length ≤ 256)) (h4 : c.k ≠ 4) (h95 : ¬ (c.k = 5 ∧ c.s = [95])) (h91 : ¬ (c.k = 5 ∧ c.s = [91]) ∨ nest = 0) : tkV nest (c :: t) p = .no (c :: t) := by
  cases nest with
  | zero =>
    unfold tkV
    rw [if_neg (by rw [h]; decide), if_neg h2, if_neg h3, if_neg h4, if_neg h95]
    split <;> rfl
  | succ n =>
    unfold tkV
    rw [if_neg (by rw [h]; decide), if_neg h2, if_neg h3, if_neg h4, if_neg h95, if_neg (by rcases h91 with h | h; exact h; omega)]
theorem tkLs_rd (n k : Nat) (t : List Tk) (p : Nat) (l : List Va) (h : isB false t 93 = false) : tkLs (tkV n) (k + 1) t p l = match rdT n t p with | .ok (v, q) r => tkLs (tkV n) k r q (l ++ [v]) | .no r => .no r := by
  cases t with
  | nil =>
    have e : rdT n [] p = .no [] := by unfold rdT; split; rfl; cases n <;> rfl
    rw [e]; rfl
  | cons c t =>
    unfold rdT
    cases hm : tokMay c with
    | false =>
      have e : (if 512 ≤ p then .no (c :: t) else tkV n (c :: t) p) = .no (c :: t) := by
        split
        · rfl
        · cases n <;> (unfold tkV; rw [if_pos hm])
      rw [tkLs_bad _ _ _ _ _ _ hm, e]
    | true =>
      have hc : ¬ (c.k = 5 ∧ c.s = [93]) := fun e => by rw [isB_yes hm e] at h; cases h
      by_cases h5 : 512 ≤ p
      · rw [tkLs_full _ _ _ _ _ _ hm hc h5, if_pos h5]
      · rw [tkLs_on _ _ _ _ _ _ hm hc h5, if_neg h5]
        cases tkV n (c :: t) p <;> rfl
theorem tkLs_cl (f : List Tk → Nat → TRs (Va × Nat)) (k : Nat) (t : List Tk) (p : Nat) (l : List Va) (h : isB false t 93 = true) : tkLs f (k + 1) t p l = .ok (l, p) (t.drop 1) := by
  obtain ⟨c, t', rfl, hm, h5⟩ := isB_inv h
  exact tkLs_close _ _ _ _ _ _ hm h5
theorem rdT_part {n : Nat} {t : List Tk} {m : Nat} {x : Va × Nat} {r : List Tk} (h : rdT n t m = .ok x r) : m < x.2 ∧ x.2 ≤ 512 := by
  unfold rdT at h
  by_cases h5 : 512 ≤ m
  · rw [if_pos h5] at h; cases h
  · rw [if_neg h5] at h; exact tkV_part n t m x r (by omega) h
theorem DRs.any {r : TRs (Va × Nat)} {l : List Tk} {j p n : Nat} {v : Value} {e : Ending} {w' : World} (h : DRs r l j p v n e w') : ∃ (j2 : Nat) (y : Va) (u : Value) (st : Bool) (room : Int) (m2 : Nat), e = .returned u ∧ IsVaR w' (Own34 w' n) u y ∧ DRw w' p v j2 st room ∧ j ≤ j2 ∧ j2 ≤ l.length ∧ (st = false → j < j2 ∧ room = 512 - m2 ∧ r = .ok (y, m2) (l.drop j2)) ∧ (st = true → r = .no (l.drop j2)) := by
  cases r with
  | ok x t =>
    obtain ⟨j2, h1, h2, rfl, u, rfl, h3, h4⟩ := h
    exact ⟨j2, x.1, u, false, _, x.2, rfl, h3, h4, by omega, h2, fun _ => ⟨h1, rfl, rfl⟩, fun e => by cases e⟩
  | no t =>
    obtain ⟨j2, h1, h2, rfl, u, y, room, rfl, h3, h4⟩ := h
    exact ⟨j2, y, u, true, room, 0, rfl, h3, h4, h1, h2, fun e => (by cases e), fun _ => rfl⟩
attribute [local irreducible] wpQuiet wpList
set_option maxRecDepth 100000 in
set_option maxHeartbeats 8000000 in
theorem dval_step (nest : Nat) (hn : nest ≤ 16) (hL : ∀ m, nest = m + 1 → DVC m) : DVC nest := by
  intro l i k w B p v h hv hBp hi hok hk
  obtain ⟨dp, hdp⟩ : ∃ dp : Int, dp = nest := ⟨_, rfl⟩
  obtain ⟨rm, hrm⟩ : ∃ rm : Int, rm = 512 - k := ⟨_, rfl⟩
  rw [← hdp]
  rw [← hrm] at h
  have HDP := Lib.hid hdp
  have HRM := Lib.hid hrm
  clear hdp
  obtain ⟨i0, hi0, hz0, hz1, hz2⟩ := info_parts info34
  have HL := Lib.hid hL
  have HOK := Lib.hid hok
  have hp0 : p < w.heap.size := BlkN.lt h
  have hlen := hv.1
  have hib : i ≤ 2932031007317 := by omega
  have HLEN := Lib.hid (show l.length ≤ 2932031007317 by omega)
  clear hlen
  obtain ⟨A0, cap0, hcap0, rfl⟩ : ∃ A cap, l.length ≤ cap ∧ v = .slice A l.length cap := by
    obtain ⟨_, A, cap, h1, h2, _⟩ := hv
    exact ⟨A, cap, h1, h2⟩
  obtain ⟨N, hN⟩ : ∃ N, N = w.heap.size := ⟨_, rfl⟩
  obtain ⟨W, hW⟩ : ∃ W, W = w.alloc (.cells #[.int .u8 0, .int .i64 0, .string ⟨#[]⟩, .slice Option.none 0 0, .int .i64 0] 27) := ⟨_, rfl⟩
  have HT : Hid (DRw W p (.slice A0 l.length cap0) i false rm) := Lib.hid (by rw [hW]; exact BlkN.alloc h _)
  have HZ : Hid (BlkN W N 27 #[.int .u8 0, .int .i64 0, .string ⟨#[]⟩, .slice Option.none 0 0, .int .i64 0]) := Lib.hid (by rw [hW, hN]; exact BlkN.at_ rfl _ _)
  have HU : Hid (Upd p w W) := Lib.hid (by rw [hW]; exact (Upd.refl p w).alloc _)
  have HVK : Hid (∀ w', Upd p w w' → IsTks w' B (.slice A0 l.length cap0) l) := Lib.hid (fun w' hu => hv.keep fun b hb => hu.block b (by omega) (by omega))
  have HN := Lib.hid hN
  have hpN : p < N := by rw [hN]; exact hp0
  clear hL hok
  go_enter Tryz.func50, Tryz.ntmps50
  go_upto_region 1 with fail
  rw [← hW, ← hN]
  clear hW hN h hv
  have hBW : B ≤ W.heap.size := by have := HU.out.size; omega
  have c0 := cellR (BlkN.cell HT.out 0 (v := .slice A0 l.length cap0) rfl)
  have c1 := cellR (BlkN.cell HT.out 1 (v := .int .i64 i) rfl)
  have c2 := cellR (BlkN.cell HT.out 2 (v := .bool false) rfl)
  have c3 := cellR (BlkN.cell HT.out 3 (v := .int .i64 rm) rfl)
  by_cases hk5 : 512 ≤ k
  · have hr1 : decide (rm < 1) = true := by rw [decide_eq_true_iff]; omega
    have HBAD : Hid (rdT nest (l.drop i) k = .no (l.drop i)) := Lib.hid (by unfold rdT; rw [if_pos hk5])
    clear hk5 hrm
    refine wp_region_quiet_below (by kernel_rfl) (by kernel_rfl) ?_
    repeat (quiet_step (fail))
    refine wpQuiet_nil ?_
    intro _ hw'
    obtain ⟨pr, hw''⟩ := hw'
    subst hw''
    obtain ⟨X, hX⟩ : ∃ X, X = grow (redrawn W pr.d) pr.os := ⟨_, rfl⟩
    have hbx : Below W.heap.size W X := by rw [hX]; exact below_regrown _ _ _
    have HTX := Lib.hid (HT.out.below hbx)
    have HZX := Lib.hid (BlkN.below HZ.out hbx)
    have HUX := Lib.hid (HU.out.below hbx)
    rw [← hX]
    clear hX hbx
    have hpX := BlkN.lt HTX.out
    have hNX := HZX.out.lt
    have f2 := BlkN.free HTX.out 2
    have x2 := BlkN.cell HTX.out 2 rfl
    have z0 := HZX.out.cell 0 rfl
    have y0 := HZX.out.free 0
    have z1 := HZX.out.cell 1 rfl
    have y1 := HZX.out.free 1
    have z2 := HZX.out.cell 2 rfl
    have y2 := HZX.out.free 2
    have z3 := HZX.out.cell 3 rfl
    have y3 := HZX.out.free 3
    have z4 := HZX.out.cell 4 rfl
    have y4 := HZX.out.free 4
    go_wp2_with fail
    obtain ⟨V', hV', hB3, hbut⟩ := set5_done (BlkN.setOther HZX.out (q := ⟨p, 2, Option.none⟩) (by show N ≠ p; omega) (.bool true)) (.int .u8 0) (.int .i64 0) (.string ⟨#[]⟩) (.slice Option.none 0 0) (.int .i64 0)
    rw [hV']
    refine bodyPost_ret (results_cell1 (s := 4) (b := N) rfl Tryz.underlying27 hi0 rfl hB3 (by rw [hz1]; rfl)) rfl ⟨hbut.upd (Nat.le_of_eq HN.out.symm) (HUX.out.set 2 _), ?_⟩
    rw [HBAD.out]
    exact ⟨i, Nat.le_refl _, hi, rfl, _, zeroVa, _, rfl, IsVaR.zero _ _, HTX.out.stop.but hbut (by omega)⟩
  have hr1 : decide (rm < 1) = false := by rw [decide_eq_false_iff_not]; omega
  have HRT : Hid (rdT nest (l.drop i) k = tkV nest (l.drop i) k) := Lib.hid (by unfold rdT; rw [if_neg hk5])
  have hk4 : k < 512 := by omega
  have hrm0 : 1 ≤ rm := by omega
  have hrm1 : rm ≤ 512 := by omega
  clear hk5 hrm
  by_cases hh : i < l.length
  rotate_left
  · have hge : decide ((l.length : Int) ≤ i) = true := by rw [decide_eq_true_iff]; omega
    have hgn : decide (l.length ≤ i) = true := by rw [decide_eq_true_iff]; omega
    have hni : (l.length : Int) ≤ i := by omega
    have HBAD : Hid (rdT nest (l.drop i) k = .no (l.drop i)) := Lib.hid (by rw [HRT.out, List.drop_eq_nil_of_le (by omega)]; cases nest <;> rfl)
    clear hh
    refine wp_region_quiet_below (by kernel_rfl) (by kernel_rfl) ?_
    repeat (quiet_step (fail))
    refine wpQuiet_nil ?_
    intro _ hw'
    obtain ⟨pr, hw''⟩ := hw'
    subst hw''
    obtain ⟨X, hX⟩ : ∃ X, X = grow (redrawn W pr.d) pr.os := ⟨_, rfl⟩
    have hbx : Below W.heap.size W X := by rw [hX]; exact below_regrown _ _ _
    have HTX := Lib.hid (HT.out.below hbx)
    have HZX := Lib.hid (BlkN.below HZ.out hbx)
    have HUX := Lib.hid (HU.out.below hbx)
    rw [← hX]
    clear hX hbx
    have hpX := BlkN.lt HTX.out
    have hNX := HZX.out.lt
    have f2 := BlkN.free HTX.out 2
    have x2 := BlkN.cell HTX.out 2 rfl
    have z0 := HZX.out.cell 0 rfl
    have y0 := HZX.out.free 0
    have z1 := HZX.out.cell 1 rfl
    have y1 := HZX.out.free 1
    have z2 := HZX.out.cell 2 rfl
    have y2 := HZX.out.free 2
    have z3 := HZX.out.cell 3 rfl
    have y3 := HZX.out.free 3
    have z4 := HZX.out.cell 4 rfl
    have y4 := HZX.out.free 4
    go_wp2_with fail
    obtain ⟨V', hV', hB3, hbut⟩ := set5_done (BlkN.setOther HZX.out (q := ⟨p, 2, Option.none⟩) (by show N ≠ p; omega) (.bool true)) (.int .u8 0) (.int .i64 0) (.string ⟨#[]⟩) (.slice Option.none 0 0) (.int .i64 0)
    rw [hV']
    refine bodyPost_ret (results_cell1 (s := 4) (b := N) rfl Tryz.underlying27 hi0 rfl hB3 (by rw [hz1]; rfl)) rfl ⟨hbut.upd (Nat.le_of_eq HN.out.symm) (HUX.out.set 2 _), ?_⟩
    rw [HBAD.out]
    exact ⟨i, Nat.le_refl _, hi, rfl, _, zeroVa, _, rfl, IsVaR.zero _ _, HTX.out.stop.but hbut (by omega)⟩
  have hge : decide ((l.length : Int) ≤ i) = false := by rw [decide_eq_false_iff_not]; omega
  have hii : (i : Int) < l.length := by omega
  obtain ⟨_, A', cap', hcap', hA', h7⟩ := HVK.out W HU.out
  injection hA' with e1 e2 e3
  subst e1 e3
  obtain ⟨b, o, hbB, hAb, hx⟩ := h7 (by rintro rfl; simp at hh)
  subst hAb
  obtain ⟨t, ht⟩ : ∃ t, t = l[i] := ⟨_, rfl⟩
  have hat := hx i hh
  have hTO := HOK.out l[i] (List.getElem_mem hh)
  rw [← ht] at hat hTO
  have HD : Hid (l.drop i = t :: l.drop (i + 1)) := Lib.hid (by rw [List.drop_eq_getElem_cons hh, ht])
  have cM : ∀ pr : Regrown, Calls Tryz.prog 100 #[.agg t.arr] (grow (redrawn W pr.d) pr.os) fun e w'' => e = .returned (.bool (tokMay t)) ∧ ∃ q : Regrown, w'' = grow (redrawn W q.d) q.os := fun pr => Calls.regrown_of ((rtmay_any t (by have := hTO.1; omega) _).mono fun e w' h => ⟨h.2, h.1⟩)
  clear hTO hx ht h7 hcap'
  obtain ⟨tk, ta, tn, ts, tr⟩ := t
  have HAT : Hid (At W b (o + i * 5) [.int .u8 tk, .int .i64 ta, .int .i64 tn, .string (txtV ts), .int .i64 tr]) := Lib.hid hat
  obtain ⟨t0, t1, t2, t3, t4⟩ := At.five' HAT.out
  have t0 := cellR t0
  have t1 := cellR t1
  have t2 := cellR t2
  have t3 := cellR t3
  have t4 := cellR t4
  have cM : ∀ pr : Regrown, Calls Tryz.prog 100 #[.agg #[.int .u8 tk, .int .i64 ta, .int .i64 tn, .string (txtV ts), .int .i64 tr]] (grow (redrawn W pr.d) pr.os) fun e w'' => e = .returned (.bool (tokMay ⟨tk, ta, tn, ts, tr⟩)) ∧ ∃ q : Regrown, w'' = grow (redrawn W q.d) q.os := cM
  clear hat
  cases hm : tokMay ⟨tk, ta, tn, ts, tr⟩ with
  | false =>
    rw [hm] at cM
    have HBAD : Hid (rdT nest (l.drop i) k = .no (l.drop i)) := Lib.hid (by rw [HRT.out, HD.out]; cases nest <;> (unfold tkV; rw [if_pos hm]))
    clear hm
    refine wp_region_quiet_below (by kernel_rfl) (by kernel_rfl) ?_
    repeat (quiet_step (exact cM _))
    refine wpQuiet_nil ?_
    intro _ hw'
    obtain ⟨pr, hw''⟩ := hw'
    subst hw''
    obtain ⟨X, hX⟩ : ∃ X, X = grow (redrawn W pr.d) pr.os := ⟨_, rfl⟩
    have hbx : Below W.heap.size W X := by rw [hX]; exact below_regrown _ _ _
    have HTX := Lib.hid (HT.out.below hbx)
    have HZX := Lib.hid (BlkN.below HZ.out hbx)
    have HUX := Lib.hid (HU.out.below hbx)
    rw [← hX]
    clear hX hbx
    have hpX := BlkN.lt HTX.out
    have hNX := HZX.out.lt
    have f2 := BlkN.free HTX.out 2
    have x2 := BlkN.cell HTX.out 2 rfl
    have z0 := HZX.out.cell 0 rfl
    have y0 := HZX.out.free 0
    have z1 := HZX.out.cell 1 rfl
    have y1 := HZX.out.free 1
    have z2 := HZX.out.cell 2 rfl
    have y2 := HZX.out.free 2
    have z3 := HZX.out.cell 3 rfl
    have y3 := HZX.out.free 3
    have z4 := HZX.out.cell 4 rfl
    have y4 := HZX.out.free 4
    go_wp2_with fail
    obtain ⟨V', hV', hB3, hbut⟩ := set5_done (BlkN.setOther HZX.out (q := ⟨p, 2, Option.none⟩) (by show N ≠ p; omega) (.bool true)) (.int .u8 0) (.int .i64 0) (.string ⟨#[]⟩) (.slice Option.none 0 0) (.int .i64 0)
    rw [hV']
    refine bodyPost_ret (results_cell1 (s := 4) (b := N) rfl Tryz.underlying27 hi0 rfl hB3 (by rw [hz1]; rfl)) rfl ⟨hbut.upd (Nat.le_of_eq HN.out.symm) (HUX.out.set 2 _), ?_⟩
    rw [HBAD.out]
    exact ⟨i, Nat.le_refl _, hi, rfl, _, zeroVa, _, rfl, IsVaR.zero _ _, HTX.out.stop.but hbut (by omega)⟩
  | true =>
    rw [hm] at cM
    have HM := Lib.hid hm
    clear hm
    refine wp_region_quiet_below (by kernel_rfl) (by kernel_rfl) ?_
    repeat (quiet_step (exact cM _))
    refine wpQuiet_nil ?_
    intro _ hw'
    obtain ⟨pr, hw''⟩ := hw'
    subst hw''
    obtain ⟨X, hX⟩ : ∃ X, X = grow (redrawn W pr.d) pr.os := ⟨_, rfl⟩
    have hbx : Below W.heap.size W X := by rw [hX]; exact below_regrown _ _ _
    have HTX : Hid (BlkN X p 103 #[.slice (some ⟨b, o, Option.none⟩) l.length cap0, .int .i64 i, .bool false, .int .i64 rm]) := Lib.hid (HT.out.below hbx)
    have HZX := Lib.hid (BlkN.below HZ.out hbx)
    have HUX := Lib.hid (HU.out.below hbx)
    have HATX : Hid (At X b (o + i * 5) [.int .u8 tk, .int .i64 ta, .int .i64 tn, .string (txtV ts), .int .i64 tr]) := Lib.hid (HAT.out.keep (show b < W.heap.size by omega) (fun b hb => hbx.block b hb))
    have hBX : B ≤ X.heap.size := by have := hbx.size; omega
    rw [← hX]
    clear hX hbx c0 c1 c2 c3 t0 t1 t2 t3 t4 cM hr1 hge HT HZ HU HAT hBW
    go_upto_region 4 with fail
    refine RegT.region_mix (fun i => Nat.ble i 10) (fun V => BlkN V p 103 #[.slice (some ⟨b, o, Option.none⟩) l.length cap0, .int .i64 i, .bool false, .int .i64 rm] ∧ At V b (o + i * 5) [.int .u8 tk, .int .i64 ta, .int .i64 tn, .string (txtV ts), .int .i64 tr]) [(true, 0), (true, 1), (true, 2), (true, 3), (true, 4), (true, 5), (true, 6), (true, 7), (true, 8), (true, 9), (false, 10), (false, 11)] rfl (by kernel_rfl) (by kernel_rfl) (by decide) ?_
    have hS0 : BlkN X.drew p 103 #[.slice (some ⟨b, o, Option.none⟩) l.length cap0, .int .i64 i, .bool false, .int .i64 rm] ∧ At X.drew b (o + i * 5) [.int .u8 tk, .int .i64 ta, .int .i64 tn, .string (txtV ts), .int .i64 tr] := ⟨HTX.out, HATX.out⟩
    refine RegT.seqM_quiet hS0 rfl (fun _ _ _ h => h) (by kernel_rfl) (v := .pointer (some ⟨p, 0, Option.none⟩)) (fun w' hS => ?_) ?_
    · go_simp
    refine RegT.seqM_quiet hS0 rfl (fun _ _ _ h => h) (by kernel_rfl) (v := .pointer (some ⟨p, 0, Option.none⟩)) (fun w' hS => ?_) ?_
    · go_simp
    refine RegT.seqM_quiet hS0 rfl (fun _ _ _ h => h) (by kernel_rfl) (v := .pointer (some ⟨p, 0, Option.none⟩)) (fun w' hS => ?_) ?_
    · go_simp
    refine RegT.seqM_quiet hS0 rfl (fun _ _ _ h => h) (by kernel_rfl) (v := .slice (some ⟨b, o, Option.none⟩) l.length cap0) (fun w' hS => ?_) ?_
    · have u0 := hS.1.cell 0 rfl; go_simp
    refine RegT.seqM_quiet hS0 rfl (fun _ _ _ h => h) (by kernel_rfl) (v := .pointer (some ⟨p, 0, Option.none⟩)) (fun w' hS => ?_) ?_
    · go_simp
    refine RegT.seqM_quiet hS0 rfl (fun _ _ _ h => h) (by kernel_rfl) (v := .pointer (some ⟨p, 0, Option.none⟩)) (fun w' hS => ?_) ?_
    · go_simp
    refine RegT.seqM_quiet hS0 rfl (fun _ _ _ h => h) (by kernel_rfl) (v := .pointer (some ⟨p, 1, Option.none⟩)) (fun w' hS => ?_) ?_
    · go_simp
    refine RegT.seqM_quiet hS0 rfl (fun _ _ _ h => h) (by kernel_rfl) (v := .int .i64 i) (fun w' hS => ?_) ?_
    · have u1 := hS.1.cell 1 rfl; go_simp
    refine RegT.seqM_quiet hS0 rfl (fun _ _ _ h => h) (by kernel_rfl) (v := .pointer (some ⟨b, o + i * 5, Option.none⟩)) (fun w' hS => ?_) ?_
    · go_simp
    refine RegT.seqM_quiet hS0 rfl (fun _ _ _ h => h) (by kernel_rfl) (v := .agg #[.int .u8 tk, .int .i64 ta, .int .i64 tn, .string (txtV ts), .int .i64 tr]) (fun w' hS => ?_) ?_
    · obtain ⟨t0, t1, t2, t3, t4⟩ := At.five' hS.2; go_simp
    clear hS0
    refine RegT.seqM_held rfl ?_
    go_wp2_with fail
    refine ⟨⟨BlkN.alloc HTX.out _, HATX.out.keep (show b < X.heap.size by omega) (fun b hb => ((Below.refl X.heap.size X).alloc (Nat.le_refl _) _).block b hb)⟩, ?_⟩
    refine RegT.seqM_free rfl rfl ?_
    go_wp2_with fail
    refine RegT.seqM_end ?_
    simp only [RegT.NP]
    obtain ⟨g, hg⟩ : ∃ g, g = X.heap.size := ⟨_, rfl⟩
    obtain ⟨W2, hW2⟩ : ∃ W2, W2 = (X.alloc (.cells #[.int .u8 tk, .int .i64 ta, .int .i64 tn, .string (txtV ts), .int .i64 tr] 58)).drew := ⟨_, rfl⟩
    have hax : Below X.heap.size X W2 := by rw [hW2]; exact ((Below.refl _ _).alloc (Nat.le_refl _) _).drew
    have HT2 : Hid (DRw W2 p (.slice (some ⟨b, o, Option.none⟩) l.length cap0) i false rm) := Lib.hid (BlkN.below HTX.out hax)
    have HZ2 := Lib.hid (BlkN.below HZX.out hax)
    have HU2 := Lib.hid (HUX.out.below hax)
    have HK2 : Hid (BlkN W2 g 58 #[.int .u8 tk, .int .i64 ta, .int .i64 tn, .string (txtV ts), .int .i64 tr]) := Lib.hid (by rw [hW2, hg]; exact BlkN.at_ rfl _ _)
    have hNg : N < g := by rw [hg]; exact HZX.out.lt
    have hBV : B ≤ W2.heap.size := by have := hax.size; omega
    rw [← hW2, ← hg]
    clear hW2 hg hax HTX HZX HUX HATX hBX
    have hp2 := BlkN.lt HT2.out
    have c3 := BlkN.cell HT2.out 3 (v := .int .i64 rm) rfl
    have f3 := BlkN.free HT2.out 3
    go_upto_region 6 with fail
    obtain ⟨V, hV⟩ : ∃ V, V = W2.setCell ⟨p, 3, Option.none⟩ (.int .i64 (rm - 1)) := ⟨_, rfl⟩
    have HTV : Hid (DRw V p (.slice (some ⟨b, o, Option.none⟩) l.length cap0) i false (rm - 1)) := Lib.hid (by rw [hV]; exact HT2.out.dec)
    have HZV := Lib.hid (show BlkN V N 27 #[.int .u8 0, .int .i64 0, .string ⟨#[]⟩, .slice Option.none 0 0, .int .i64 0] by rw [hV]; exact HZ2.out.setOther (by show N ≠ p; omega) _)
    have HKV := Lib.hid (show BlkN V g 58 #[.int .u8 tk, .int .i64 ta, .int .i64 tn, .string (txtV ts), .int .i64 tr] by rw [hV]; exact HK2.out.setOther (by show g ≠ p; omega) _)
    have HUV := Lib.hid (show Upd p w V by rw [hV]; exact HU2.out.set 3 _)
    have hBV2 : B ≤ V.heap.size := by rw [hV]; simpa [World.setCell] using hBV
    rw [← hV]
    clear hV c3 f3 hp2 hBV HT2 HZ2 HK2 HU2
    have hgV := HKV.out.lt
    have hpV := BlkN.lt HTV.out
    have hNV := HZV.out.lt
    have g0 := HKV.out.cell 0 rfl
    have g2 := HKV.out.cell 2 rfl
    have g3 := HKV.out.cell 3 rfl
    have g4 := HKV.out.cell 4 rfl
    have c1 := BlkN.cell HTV.out 1 (v := .int .i64 i) rfl
    have f1 := BlkN.free HTV.out 1
    have HRK : Hid (rm - 1 = 512 - ((k + 1 : Nat) : Int)) := Lib.hid (by have := HRM.out; omega)
    have CIS : Hid (∀ c, Calls Tryz.prog 101 #[.pointer (some ⟨p, 0, Option.none⟩), .string ⟨#[c]⟩] V fun e w' => Below V.heap.size V w' ∧ e = .returned (.bool (isB false (l.drop i) c))) := Lib.hid (fun c => is_any c l V B p i false (rm - 1) _ HTV.out (HVK.out V HUV.out) hBV2 HOK.out hi)
    by_cases k2 : tk = 2
    · subst k2
      go_upto_region 8 with fail
      obtain ⟨U, hU⟩ : ∃ U, U = V.setCell ⟨p, 1, Option.none⟩ (.int .i64 ((i : Int) + 1)) := ⟨_, rfl⟩
      have HTU : Hid (DRw U p (.slice (some ⟨b, o, Option.none⟩) l.length cap0) (i + 1) false (rm - 1)) := Lib.hid (by rw [hU]; exact HTV.out.adv)
      have HZU := Lib.hid (show BlkN U N 27 #[.int .u8 0, .int .i64 0, .string ⟨#[]⟩, .slice Option.none 0 0, .int .i64 0] by rw [hU]; exact HZV.out.setOther (by show N ≠ p; omega) _)
      have HKU := Lib.hid (show BlkN U g 58 #[.int .u8 2, .int .i64 ta, .int .i64 tn, .string (txtV ts), .int .i64 tr] by rw [hU]; exact HKV.out.setOther (by show g ≠ p; omega) _)
      have HUU := Lib.hid (show Upd p w U by rw [hU]; exact HUV.out.set 1 _)
      rw [← hU]
      clear hU c1 f1 g0 g2 g3 g4 hgV hpV hNV
      have hgU := HKU.out.lt
      have hNU := HZU.out.lt
      have g2 := HKU.out.cell 2 rfl
      have g3 := HKU.out.cell 3 rfl
      have g4 := HKU.out.cell 4 rfl
      have z0 := HZU.out.cell 0 rfl
      have y0 := HZU.out.free 0
      have z1 := HZU.out.cell 1 rfl
      have y1 := HZU.out.free 1
      have z2 := HZU.out.cell 2 rfl
      have y2 := HZU.out.free 2
      have z3 := HZU.out.cell 3 rfl
      have y3 := HZU.out.free 3
      have z4 := HZU.out.cell 4 rfl
      have y4 := HZU.out.free 4
      go_wp2_with fail
      obtain ⟨V', hV', hB3, hbut⟩ := set5_done HZU.out (.int .u8 1) (.int .i64 tn) (.string ⟨#[]⟩) (.slice Option.none 0 0) (.int .i64 0)
      rw [hV']
      refine bodyPost_ret (results_cell1 (s := 4) (b := N) rfl Tryz.underlying27 hi0 rfl hB3 (by rw [hz1]; rfl)) rfl ⟨hbut.upd (Nat.le_of_eq HN.out.symm) HUU.out, ?_⟩
      have e : tkV nest (l.drop i) k = .ok (.mk 1 tn ⟨#[]⟩ [] 0, k + 1) (l.drop (i + 1)) := by rw [HD.out]; cases nest <;> (unfold tkV; rw [if_neg (by rw [HM.out]; decide), if_pos rfl])
      rw [HRT.out, e]
      exact ⟨i + 1, by omega, by omega, rfl, _, rfl, leafV _ _ _ _ _ _ (by decide) (by decide) (by first | decide | omega | (simp; omega)), by have := HTU.out.but hbut (by omega); rw [HRK.out] at this; exact this⟩
    have hk2 : ((tk : Int) == 2) = false := by rw [beq_eq_false_iff_ne]; exact k2
    by_cases k3 : tk = 3 ∧ ts.length ≤ 256
    · obtain ⟨rfl, hts⟩ := k3
      have hsz : (txtV ts).size ≤ 256 := hts
      have hszi : ((txtV ts).size : Int) ≤ 256 := by omega
      have HTS := Lib.hid hts
      clear hk2 hts
      go_upto_region 11 with fail
      obtain ⟨U, hU⟩ : ∃ U, U = V.setCell ⟨p, 1, Option.none⟩ (.int .i64 ((i : Int) + 1)) := ⟨_, rfl⟩
      have HTU : Hid (DRw U p (.slice (some ⟨b, o, Option.none⟩) l.length cap0) (i + 1) false (rm - 1)) := Lib.hid (by rw [hU]; exact HTV.out.adv)
      have HZU := Lib.hid (show BlkN U N 27 #[.int .u8 0, .int .i64 0, .string ⟨#[]⟩, .slice Option.none 0 0, .int .i64 0] by rw [hU]; exact HZV.out.setOther (by show N ≠ p; omega) _)
      have HKU := Lib.hid (show BlkN U g 58 #[.int .u8 3, .int .i64 ta, .int .i64 tn, .string (txtV ts), .int .i64 tr] by rw [hU]; exact HKV.out.setOther (by show g ≠ p; omega) _)
      have HUU := Lib.hid (show Upd p w U by rw [hU]; exact HUV.out.set 1 _)
      rw [← hU]
      clear hU c1 f1 g0 g2 g3 g4 hgV hpV hNV
      have hgU := HKU.out.lt
      have hNU := HZU.out.lt
      have g2 := HKU.out.cell 2 rfl
      have g3 := HKU.out.cell 3 rfl
      have g4 := HKU.out.cell 4 rfl
      have z0 := HZU.out.cell 0 rfl
      have y0 := HZU.out.free 0
      have z1 := HZU.out.cell 1 rfl
      have y1 := HZU.out.free 1
      have z2 := HZU.out.cell 2 rfl
      have y2 := HZU.out.free 2
      have z3 := HZU.out.cell 3 rfl
      have y3 := HZU.out.free 3
      have z4 := HZU.out.cell 4 rfl
      have y4 := HZU.out.free 4
      go_wp2_with fail
      obtain ⟨V', hV', hB3, hbut⟩ := set5_done HZU.out (.int .u8 2) (.int .i64 0) (.string (txtV ts)) (.slice Option.none 0 0) (.int .i64 0)
      rw [hV']
      refine bodyPost_ret (results_cell1 (s := 4) (b := N) rfl Tryz.underlying27 hi0 rfl hB3 (by rw [hz1]; rfl)) rfl ⟨hbut.upd (Nat.le_of_eq HN.out.symm) HUU.out, ?_⟩
      have e : tkV nest (l.drop i) k = .ok (.mk 2 0 (txtV ts) [] 0, k + 1) (l.drop (i + 1)) := by rw [HD.out]; cases nest <;> (unfold tkV; rw [if_neg (by rw [HM.out]; decide), if_neg (by simp), if_pos ⟨rfl, HTS.out⟩])
      rw [HRT.out, e]
      exact ⟨i + 1, by omega, by omega, rfl, _, rfl, leafV _ _ _ _ _ _ (by decide) (by decide) (by first | decide | omega | (simp; omega)), by have := HTU.out.but hbut (by omega); rw [HRK.out] at this; exact this⟩
    by_cases k33 : tk = 3
    · subst k33
      have hts : ¬ ts.length ≤ 256 := fun e => k3 ⟨rfl, e⟩
      have hszi : ¬ ((txtV ts).size : Int) ≤ 256 := by show ¬ ((ts.length : Nat) : Int) ≤ 256; omega
      have HTS := Lib.hid hts
      have h95 : isB false (l.drop i) 95 = false := by rw [HD.out]; exact isB_not (by simp)
      have h91 : isB false (l.drop i) 91 = false := by rw [HD.out]; exact isB_not (by simp)
      have HE : Hid (tkV nest (l.drop i) k = .no (l.drop i)) := Lib.hid (by rw [HD.out]; exact tkV_no nest _ _ k HM.out (by simp) (fun e => HTS.out e.2) (by simp) (by simp) (.inl (by simp)))
      have C95 : Hid (Calls Tryz.prog 101 #[.pointer (some ⟨p, 0, Option.none⟩), .string ⟨#[95]⟩] V fun e w' => Below V.heap.size V w' ∧ e = .returned (.bool false)) := Lib.hid ((CIS.out 95).mono fun e w' h => ⟨h.1, by rw [h.2, h95]⟩)
      clear hts h95
      go_upto_region 18 with (first | (go_at_call 101; refine C95.out.mono ?_; rintro e w3 ⟨hb3, rfl⟩; have HT3 := Lib.hid (HTV.out.below hb3); have HZ3 := Lib.hid (HZV.out.below hb3); have HU3 := Lib.hid (HUV.out.below hb3); have HB3 := Lib.hid hb3; clear hb3))
      have hBw3 : B ≤ w3.heap.size := by have := HB3.out.size; omega
      have hpw3 := BlkN.lt HT3.out
      have hNw3 := BlkN.lt HZ3.out
      clear c1 f1 g0 g2 g3 g4 hgV hpV hNV HTV HZV HKV HUV CIS C95
      have C91 : Hid (Calls Tryz.prog 101 #[.pointer (some ⟨p, 0, Option.none⟩), .string ⟨#[91]⟩] w3 fun e w' => Below w3.heap.size w3 w' ∧ e = .returned (.bool false)) := Lib.hid ((is_any 91 l w3 B p i false (rm - 1) _ HT3.out (HVK.out w3 HU3.out) hBw3 HOK.out hi).mono fun e w' h => ⟨h.1, by rw [h.2, h91]⟩)
      clear h91
      go_wp2_with (first | (go_at_call 101; refine C91.out.mono ?_; rintro e w4 ⟨hb4, rfl⟩; have HT4 := Lib.hid (HT3.out.below hb4); have HZ4 := Lib.hid (HZ3.out.below hb4); have HU4 := Lib.hid (HU3.out.below hb4); clear hb4; have hpT := BlkN.lt HT4.out; have hNT := BlkN.lt HZ4.out; have f2 := BlkN.free HT4.out 2; have x2 := BlkN.cell HT4.out 2 (v := .bool false) rfl; have z0 := HZ4.out.cell 0 rfl; have y0 := HZ4.out.free 0; have z1 := HZ4.out.cell 1 rfl; have y1 := HZ4.out.free 1; have z2 := HZ4.out.cell 2 rfl; have y2 := HZ4.out.free 2; have z3 := HZ4.out.cell 3 rfl; have y3 := HZ4.out.free 3; have z4 := HZ4.out.cell 4 rfl; have y4 := HZ4.out.free 4))
      obtain ⟨V', hV', hB3, hbut⟩ := set5_done (BlkN.setOther HZ4.out (q := ⟨p, 2, Option.none⟩) (by show N ≠ p; omega) (.bool true)) (.int .u8 0) (.int .i64 0) (.string ⟨#[]⟩) (.slice Option.none 0 0) (.int .i64 0)
      rw [hV']
      refine bodyPost_ret (results_cell1 (s := 4) (b := N) rfl Tryz.underlying27 hi0 rfl hB3 (by rw [hz1]; rfl)) rfl ⟨hbut.upd (Nat.le_of_eq HN.out.symm) (HU4.out.set 2 _), ?_⟩
      rw [HRT.out, HE.out]
      exact ⟨i, Nat.le_refl _, hi, rfl, _, zeroVa, _, rfl, IsVaR.zero _ _, HT4.out.stop.but hbut (by omega)⟩
    have hk3 : ((tk : Int) == 3) = false := by rw [beq_eq_false_iff_ne]; exact k33
    by_cases k4 : tk = 4
    · subst k4
      clear hk2 hk3
      go_upto_region 14 with fail
      obtain ⟨U, hU⟩ : ∃ U, U = V.setCell ⟨p, 1, Option.none⟩ (.int .i64 ((i : Int) + 1)) := ⟨_, rfl⟩
      have HTU : Hid (DRw U p (.slice (some ⟨b, o, Option.none⟩) l.length cap0) (i + 1) false (rm - 1)) := Lib.hid (by rw [hU]; exact HTV.out.adv)
      have HZU := Lib.hid (show BlkN U N 27 #[.int .u8 0, .int .i64 0, .string ⟨#[]⟩, .slice Option.none 0 0, .int .i64 0] by rw [hU]; exact HZV.out.setOther (by show N ≠ p; omega) _)
      have HKU := Lib.hid (show BlkN U g 58 #[.int .u8 4, .int .i64 ta, .int .i64 tn, .string (txtV ts), .int .i64 tr] by rw [hU]; exact HKV.out.setOther (by show g ≠ p; omega) _)
      have HUU := Lib.hid (show Upd p w U by rw [hU]; exact HUV.out.set 1 _)
      rw [← hU]
      clear hU c1 f1 g0 g2 g3 g4 hgV hpV hNV
      have hgU := HKU.out.lt
      have hNU := HZU.out.lt
      have g2 := HKU.out.cell 2 rfl
      have g3 := HKU.out.cell 3 rfl
      have g4 := HKU.out.cell 4 rfl
      have z0 := HZU.out.cell 0 rfl
      have y0 := HZU.out.free 0
      have z1 := HZU.out.cell 1 rfl
      have y1 := HZU.out.free 1
      have z2 := HZU.out.cell 2 rfl
      have y2 := HZU.out.free 2
      have z3 := HZU.out.cell 3 rfl
      have y3 := HZU.out.free 3
      have z4 := HZU.out.cell 4 rfl
      have y4 := HZU.out.free 4
      go_wp2_with fail
      obtain ⟨V', hV', hB3, hbut⟩ := set5_done HZU.out (.int .u8 4) (.int .i64 0) (.string ⟨#[]⟩) (.slice Option.none 0 0) (.int .i64 tr)
      rw [hV']
      refine bodyPost_ret (results_cell1 (s := 4) (b := N) rfl Tryz.underlying27 hi0 rfl hB3 (by rw [hz1]; rfl)) rfl ⟨hbut.upd (Nat.le_of_eq HN.out.symm) HUU.out, ?_⟩
      have e : tkV nest (l.drop i) k = .ok (.mk 4 0 ⟨#[]⟩ [] tr, k + 1) (l.drop (i + 1)) := by rw [HD.out]; cases nest <;> (unfold tkV; rw [if_neg (by rw [HM.out]; decide), if_neg (by simp), if_neg (by simp), if_pos rfl])
      rw [HRT.out, e]
      exact ⟨i + 1, by omega, by omega, rfl, _, rfl, leafV _ _ _ _ _ _ (by decide) (by decide) (by first | decide | omega | (simp; omega)), by have := HTU.out.but hbut (by omega); rw [HRK.out] at this; exact this⟩
    have hk4 : ((tk : Int) == 4) = false := by rw [beq_eq_false_iff_ne]; exact k4
    by_cases k5 : tk = 5 ∧ ts = [95]
    · obtain ⟨rfl, rfl⟩ := k5
      have h95 : isB false (l.drop i) 95 = true := by rw [HD.out]; exact isB_yes HM.out ⟨rfl, rfl⟩
      have C95 : Hid (Calls Tryz.prog 101 #[.pointer (some ⟨p, 0, Option.none⟩), .string ⟨#[95]⟩] V fun e w' => Below V.heap.size V w' ∧ e = .returned (.bool true)) := Lib.hid ((CIS.out 95).mono fun e w' h => ⟨h.1, by rw [h.2, h95]⟩)
      clear hk2 hk3 hk4 k3 h95
      go_upto_region 17 with (first | (go_at_call 101; refine C95.out.mono ?_; rintro e w3 ⟨hb3, rfl⟩; have HT3 := Lib.hid (HTV.out.below hb3); have HZ3 := Lib.hid (HZV.out.below hb3); have HK3 := Lib.hid (HKV.out.below hb3); have HU3 := Lib.hid (HUV.out.below hb3); clear hb3 c1 f1; have hp3 := BlkN.lt HT3.out; have c1 := BlkN.cell HT3.out 1 (v := .int .i64 i) rfl; have f1 := BlkN.free HT3.out 1))
      obtain ⟨U, hU⟩ : ∃ U, U = w3.setCell ⟨p, 1, Option.none⟩ (.int .i64 ((i : Int) + 1)) := ⟨_, rfl⟩
      have HTU : Hid (DRw U p (.slice (some ⟨b, o, Option.none⟩) l.length cap0) (i + 1) false (rm - 1)) := Lib.hid (by rw [hU]; exact HT3.out.adv)
      have HZU := Lib.hid (show BlkN U N 27 #[.int .u8 0, .int .i64 0, .string ⟨#[]⟩, .slice Option.none 0 0, .int .i64 0] by rw [hU]; exact HZ3.out.setOther (by show N ≠ p; omega) _)
      have HKU := Lib.hid (show BlkN U g 58 #[.int .u8 5, .int .i64 ta, .int .i64 tn, .string (txtV [95]), .int .i64 tr] by rw [hU]; exact HK3.out.setOther (by show g ≠ p; omega) _)
      have HUU := Lib.hid (show Upd p w U by rw [hU]; exact HU3.out.set 1 _)
      rw [← hU]
      clear hU c1 f1 g0 g2 g3 g4 hgV hpV hNV
      have hgU := HKU.out.lt
      have hNU := HZU.out.lt
      have g2 := HKU.out.cell 2 rfl
      have g3 := HKU.out.cell 3 rfl
      have g4 := HKU.out.cell 4 rfl
      have z0 := HZU.out.cell 0 rfl
      have y0 := HZU.out.free 0
      have z1 := HZU.out.cell 1 rfl
      have y1 := HZU.out.free 1
      have z2 := HZU.out.cell 2 rfl
      have y2 := HZU.out.free 2
      have z3 := HZU.out.cell 3 rfl
      have y3 := HZU.out.free 3
      have z4 := HZU.out.cell 4 rfl
      have y4 := HZU.out.free 4
      go_wp2_with fail
      obtain ⟨V', hV', hB3, hbut⟩ := set5_done HZU.out (.int .u8 0) (.int .i64 0) (.string ⟨#[]⟩) (.slice Option.none 0 0) (.int .i64 0)
      rw [hV']
      refine bodyPost_ret (results_cell1 (s := 4) (b := N) rfl Tryz.underlying27 hi0 rfl hB3 (by rw [hz1]; rfl)) rfl ⟨hbut.upd (Nat.le_of_eq HN.out.symm) HUU.out, ?_⟩
      have e : tkV nest (l.drop i) k = .ok (.mk 0 0 ⟨#[]⟩ [] 0, k + 1) (l.drop (i + 1)) := by rw [HD.out]; cases nest <;> (unfold tkV; rw [if_neg (by rw [HM.out]; decide), if_neg (by simp), if_neg (by simp), if_neg (by simp), if_pos ⟨rfl, rfl⟩])
      rw [HRT.out, e]
      exact ⟨i + 1, by omega, by omega, rfl, _, rfl, leafV _ _ _ _ _ _ (by decide) (by decide) (by first | decide | omega | (simp; omega)), by have := HTU.out.but hbut (by omega); rw [HRK.out] at this; exact this⟩
    have h95 : isB false (l.drop i) 95 = false := by rw [HD.out]; exact isB_not k5
    have C95 : Hid (Calls Tryz.prog 101 #[.pointer (some ⟨p, 0, Option.none⟩), .string ⟨#[95]⟩] V fun e w' => Below V.heap.size V w' ∧ e = .returned (.bool false)) := Lib.hid ((CIS.out 95).mono fun e w' h => ⟨h.1, by rw [h.2, h95]⟩)
    have HK5 := Lib.hid k5
    clear h95 k5
    go_upto_region 18 with (first | (go_at_call 101; refine C95.out.mono ?_; rintro e w3 ⟨hb3, rfl⟩; have HT3 := Lib.hid (HTV.out.below hb3); have HZ3 := Lib.hid (HZV.out.below hb3); have HU3 := Lib.hid (HUV.out.below hb3); have HB3 := Lib.hid hb3; clear hb3))
    have hBw3 : B ≤ w3.heap.size := by have := HB3.out.size; omega
    have hpw3 := BlkN.lt HT3.out
    have hNw3 := BlkN.lt HZ3.out
    clear c1 f1 g0 g2 g3 g4 hgV hpV hNV HTV HZV HKV HUV CIS C95
    by_cases k6 : tk = 5 ∧ ts = [91]
    rotate_left
    · have h91 : isB false (l.drop i) 91 = false := by rw [HD.out]; exact isB_not k6
      have HE : Hid (tkV nest (l.drop i) k = .no (l.drop i)) := Lib.hid (by rw [HD.out]; exact tkV_no nest _ _ k HM.out k2 k3 k4 HK5.out (.inl k6))
      have C91 : Hid (Calls Tryz.prog 101 #[.pointer (some ⟨p, 0, Option.none⟩), .string ⟨#[91]⟩] w3 fun e w' => Below w3.heap.size w3 w' ∧ e = .returned (.bool false)) := Lib.hid ((is_any 91 l w3 B p i false (rm - 1) _ HT3.out (HVK.out w3 HU3.out) hBw3 HOK.out hi).mono fun e w' h => ⟨h.1, by rw [h.2, h91]⟩)
      clear h91 k6
      go_wp2_with (first | (go_at_call 101; refine C91.out.mono ?_; rintro e w4 ⟨hb4, rfl⟩; have HT4 := Lib.hid (HT3.out.below hb4); have HZ4 := Lib.hid (HZ3.out.below hb4); have HU4 := Lib.hid (HU3.out.below hb4); clear hb4; have hpT := BlkN.lt HT4.out; have hNT := BlkN.lt HZ4.out; have f2 := BlkN.free HT4.out 2; have x2 := BlkN.cell HT4.out 2 (v := .bool false) rfl; have z0 := HZ4.out.cell 0 rfl; have y0 := HZ4.out.free 0; have z1 := HZ4.out.cell 1 rfl; have y1 := HZ4.out.free 1; have z2 := HZ4.out.cell 2 rfl; have y2 := HZ4.out.free 2; have z3 := HZ4.out.cell 3 rfl; have y3 := HZ4.out.free 3; have z4 := HZ4.out.cell 4 rfl; have y4 := HZ4.out.free 4))
      obtain ⟨V', hV', hB3, hbut⟩ := set5_done (BlkN.setOther HZ4.out (q := ⟨p, 2, Option.none⟩) (by show N ≠ p; omega) (.bool true)) (.int .u8 0) (.int .i64 0) (.string ⟨#[]⟩) (.slice Option.none 0 0) (.int .i64 0)
      rw [hV']
      refine bodyPost_ret (results_cell1 (s := 4) (b := N) rfl Tryz.underlying27 hi0 rfl hB3 (by rw [hz1]; rfl)) rfl ⟨hbut.upd (Nat.le_of_eq HN.out.symm) (HU4.out.set 2 _), ?_⟩
      rw [HRT.out, HE.out]
      exact ⟨i, Nat.le_refl _, hi, rfl, _, zeroVa, _, rfl, IsVaR.zero _ _, HT4.out.stop.but hbut (by omega)⟩
    have h91 : isB false (l.drop i) 91 = true := by rw [HD.out]; exact isB_yes HM.out k6
    have C91 : Hid (Calls Tryz.prog 101 #[.pointer (some ⟨p, 0, Option.none⟩), .string ⟨#[91]⟩] w3 fun e w' => Below w3.heap.size w3 w' ∧ e = .returned (.bool true)) := Lib.hid ((is_any 91 l w3 B p i false (rm - 1) _ HT3.out (HVK.out w3 HU3.out) hBw3 HOK.out hi).mono fun e w' h => ⟨h.1, by rw [h.2, h91]⟩)
    clear h91
    cases nest with
    | zero =>
      have hlt : dp < 1 := by have := HDP.out; omega
      have HE : Hid (tkV 0 (l.drop i) k = .no (l.drop i)) := Lib.hid (by rw [HD.out]; exact tkV_no 0 _ _ k HM.out k2 k3 k4 HK5.out (.inr rfl))
      go_wp2_with (first | (go_at_call 101; refine C91.out.mono ?_; rintro e w4 ⟨hb4, rfl⟩; have HT4 := Lib.hid (HT3.out.below hb4); have HZ4 := Lib.hid (HZ3.out.below hb4); have HU4 := Lib.hid (HU3.out.below hb4); clear hb4; have hpT := BlkN.lt HT4.out; have hNT := BlkN.lt HZ4.out; have f2 := BlkN.free HT4.out 2; have x2 := BlkN.cell HT4.out 2 (v := .bool false) rfl; have z0 := HZ4.out.cell 0 rfl; have y0 := HZ4.out.free 0; have z1 := HZ4.out.cell 1 rfl; have y1 := HZ4.out.free 1; have z2 := HZ4.out.cell 2 rfl; have y2 := HZ4.out.free 2; have z3 := HZ4.out.cell 3 rfl; have y3 := HZ4.out.free 3; have z4 := HZ4.out.cell 4 rfl; have y4 := HZ4.out.free 4))
      obtain ⟨V', hV', hB3, hbut⟩ := set5_done (BlkN.setOther HZ4.out (q := ⟨p, 2, Option.none⟩) (by show N ≠ p; omega) (.bool true)) (.int .u8 0) (.int .i64 0) (.string ⟨#[]⟩) (.slice Option.none 0 0) (.int .i64 0)
      rw [hV']
      refine bodyPost_ret (results_cell1 (s := 4) (b := N) rfl Tryz.underlying27 hi0 rfl hB3 (by rw [hz1]; rfl)) rfl ⟨hbut.upd (Nat.le_of_eq HN.out.symm) (HU4.out.set 2 _), ?_⟩
      rw [HRT.out, HE.out]
      exact ⟨i, Nat.le_refl _, hi, rfl, _, zeroVa, _, rfl, IsVaR.zero _ _, HT4.out.stop.but hbut (by omega)⟩
    | succ n =>
    have hlt : ¬ dp < 1 := by have := HDP.out; omega
    have HIH := Lib.hid (HL.out n rfl)
    obtain ⟨R, hR⟩ : ∃ R, R = tkLs (tkV n) 514 (l.drop (i + 1)) (k + 1) [] := ⟨_, rfl⟩
    have HRD : Hid (tkV (n + 1) (l.drop i) k = listR R) := Lib.hid (by rw [HD.out, hR]; exact tkV_listR n _ _ _ HM.out k6)
    have HR0 := Lib.hid hR.symm
    clear hR k2 k3 k33 k4 k6 hk2 hk3 hk4
    go_upto_region 22 with (first | (go_at_call 101; refine C91.out.mono ?_; rintro e w4 ⟨hb4, rfl⟩; have HT4 := Lib.hid (HT3.out.below hb4); have HZ4 := Lib.hid (HZ3.out.below hb4); have HU4 := Lib.hid (HU3.out.below hb4); clear hb4; have hpT := BlkN.lt HT4.out; have hNT := BlkN.lt HZ4.out; have c1 := BlkN.cell HT4.out 1 (v := .int .i64 i) rfl; have f1 := BlkN.free HT4.out 1))
    obtain ⟨U, hU⟩ : ∃ U, U = w4.setCell ⟨p, 1, Option.none⟩ (.int .i64 ((i : Int) + 1)) := ⟨_, rfl⟩
    have HTU : Hid (DRw U p (.slice (some ⟨b, o, Option.none⟩) l.length cap0) (i + 1) false (rm - 1)) := Lib.hid (by rw [hU]; exact HT4.out.adv)
    have HZU := Lib.hid (show BlkN U N 27 #[.int .u8 0, .int .i64 0, .string ⟨#[]⟩, .slice Option.none 0 0, .int .i64 0] by rw [hU]; exact HZ4.out.setOther (by show N ≠ p; omega) _)
    have HUU := Lib.hid (show Upd p w U by rw [hU]; exact HU4.out.set 1 _)
    rw [← hU]
    clear hU c1 f1 hpT hNT HT4 HZ4 HU4 hlt HT3 HZ3 HU3 hpw3 hNw3 C91 hBw3 HB3
    obtain ⟨b1, hb1⟩ : ∃ b1, b1 = U.heap.size := ⟨_, rfl⟩
    obtain ⟨X6, hX6⟩ : ∃ X6, X6 = U.alloc (.cells #[.int .u8 3, .int .i64 0, .string ⟨#[]⟩, .slice Option.none 0 0, .int .i64 0] 27) := ⟨_, rfl⟩
    have HT6 : Hid (DRw X6 p (.slice (some ⟨b, o, Option.none⟩) l.length cap0) (i + 1) false (rm - 1)) := Lib.hid (by rw [hX6]; exact BlkN.alloc HTU.out _)
    have HZ6 : Hid (BlkN X6 N 27 #[.int .u8 0, .int .i64 0, .string ⟨#[]⟩, .slice Option.none 0 0, .int .i64 0]) := Lib.hid (by rw [hX6]; exact BlkN.alloc HZU.out _)
    have HL6 : Hid (LvT X6 b1 Option.none 0 0) := Lib.hid (by rw [hX6]; exact BlkN.at_ hb1 _ _)
    have HU6 : Hid (Upd p w X6) := Lib.hid (by rw [hX6]; exact HUU.out.alloc _)
    have hNb : N < b1 := by rw [hb1]; exact HZU.out.lt
    have hs6 : b1 + 1 ≤ X6.heap.size := by rw [hX6, hb1]; exact Nat.le_of_eq (World.size_alloc _ _).symm
    clear HTU HZU HUU
    go_upto_region 23 with fail
    rw [← hX6, ← hb1]
    clear hX6 hb1
    go_loopw [] (fun wr => ∃ (j m : Nat) (st : Bool) (room : Int) (vs : List Va) (xs : List Value) (A : Option Addr) (cap1 : Nat), i < j ∧ j ≤ l.length ∧ b1 + 1 ≤ wr.heap.size ∧ DRw wr p (.slice (some ⟨b, o, Option.none⟩) l.length cap0) j st room ∧ BlkN wr N 27 #[.int .u8 0, .int .i64 0, .string ⟨#[]⟩, .slice Option.none 0 0, .int .i64 0] ∧ LvT wr b1 A vs.length cap1 ∧ VRow wr (b1 + 1) (.slice A vs.length cap1) vs xs ∧ Upd p w wr ∧ vs.length ≤ 512 ∧ (st = false → room = 512 - (m : Int) ∧ vs.length < m ∧ m ≤ 512 ∧ tkLs (tkV n) (514 - vs.length) (l.drop j) m vs = R) ∧ (st = true → R = .no (l.drop j))) (fun wr => offOf wr p l.length)
    case atStart => exact ⟨i + 1, k + 1, false, rm - 1, [], [], Option.none, 0, by omega, by omega, hs6, HT6.out, HZ6.out, HL6.out, VRow.nil _ _, HU6.out, by simp, fun _ => ⟨HRK.out, by simp, by omega, HR0.out⟩, fun e => by cases e⟩
    case round =>
      obtain ⟨j, m, st, room, vs, xs, A, cap1, hij, hj, hsz, hr, hz, hl, hv, hu, hvl, hst, hsf⟩ := hrel
      have HRJ := Lib.hid hr
      have HZJ := Lib.hid hz
      have HLJ := Lib.hid hl
      have HVJ := Lib.hid hv
      have HUJ := Lib.hid hu
      have hpr := BlkN.lt HRJ.out
      have hjb : j ≤ 2932031007317 := by have := HLEN.out; omega
      have hBr : B ≤ wr.heap.size := by omega
      clear hr hz hl hv hu
      cases st with
      | true =>
        have HR1 := Lib.hid (hsf rfl)
        clear hst hsf
        have C93 : Hid (Calls Tryz.prog 101 #[.pointer (some ⟨p, 0, Option.none⟩), .string ⟨#[93]⟩] wr fun e w' => Below wr.heap.size wr w' ∧ e = .returned (.bool false)) := Lib.hid ((is_any 93 l wr B p j true room _ HRJ.out (HVK.out wr HUJ.out) hBr HOK.out hj).mono fun e w' h => ⟨h.1, by rw [h.2]; rfl⟩)
        go_wp2_with (first | (go_at_call 101; refine C93.out.mono ?_; rintro e w7 ⟨hb7, rfl⟩; have HT7 := Lib.hid (HRJ.out.below hb7); have hz7 := BlkN.below HZJ.out hb7; have hl7 : BlkN w7 b1 27 #[.int .u8 3, .int .i64 0, .string ⟨#[]⟩, .slice A vs.length cap1, .int .i64 0] := BlkN.below HLJ.out hb7; have HV7 := Lib.hid (HVJ.out.below hb7); have HU7 := Lib.hid (HUJ.out.below hb7); clear hb7; have hp7 := BlkN.lt HT7.out; have hn7 := hz7.lt; have hb7 := hl7.lt; have c1 := BlkN.cell HT7.out 1 (v := .int .i64 j) rfl; have f1 := BlkN.free HT7.out 1; have c2 := BlkN.cell HT7.out 2 (v := .bool true) rfl; have d0 := hz7.cell 0 rfl; have x0 := hz7.free 0; have e0 := hl7.cell 0 rfl; have d1 := hz7.cell 1 rfl; have x1 := hz7.free 1; have e1 := hl7.cell 1 rfl; have d2 := hz7.cell 2 rfl; have x2 := hz7.free 2; have e2 := hl7.cell 2 rfl; have d3 := hz7.cell 3 rfl; have x3 := hz7.free 3; have e3 := hl7.cell 3 rfl; have d4 := hz7.cell 4 rfl; have x4 := hz7.free 4; have e4 := hl7.cell 4 rfl; have HZ7 := Lib.hid hz7; clear hz7 hl7))
        obtain ⟨V', hV', hB3, hbut3⟩ := set5_done HZ7.out (.int .u8 3) (.int .i64 0) (.string ⟨#[]⟩) (.slice A vs.length cap1) (.int .i64 0)
        rw [hV']
        refine bodyPost_ret (results_cell1 (s := 4) (b := N) rfl Tryz.underlying27 hi0 rfl hB3 (by rw [hz1]; rfl)) rfl ⟨hbut3.upd (Nat.le_of_eq HN.out.symm) HU7.out, ?_⟩
        rw [HRT.out, HRD.out, HR1.out]
        exact ⟨j, by omega, hj, rfl, _, _, _, rfl, list_tk HV7.out hbut3 (by omega) (by have := HN.out; omega) (by omega), HT7.out.but hbut3 (by omega)⟩
      | false =>
        obtain ⟨hroom, hvm, hm5, hls⟩ := hst rfl
        subst hroom
        obtain ⟨f, hf⟩ : ∃ f, 514 - vs.length = f + 1 := ⟨513 - vs.length, by omega⟩
        rw [hf] at hls
        have HLS := Lib.hid hls
        have HF := Lib.hid hf
        clear hst hsf hls hf
        cases h93 : isB false (l.drop j) 93 with
        | true =>
          have hjl : j < l.length := by
            obtain ⟨c, t', e, _⟩ := isB_inv h93
            refine Nat.lt_of_not_le fun hle => ?_
            rw [List.drop_eq_nil_of_le hle] at e
            cases e
          have HR1 : Hid (R = .ok (vs, m) (l.drop (j + 1))) := Lib.hid (by rw [← HLS.out, tkLs_cl _ _ _ _ _ h93, List.drop_drop])
          have C93 : Hid (Calls Tryz.prog 101 #[.pointer (some ⟨p, 0, Option.none⟩), .string ⟨#[93]⟩] wr fun e w' => Below wr.heap.size wr w' ∧ e = .returned (.bool true)) := Lib.hid ((is_any 93 l wr B p j false (512 - (m : Int)) _ HRJ.out (HVK.out wr HUJ.out) hBr HOK.out hj).mono fun e w' h => ⟨h.1, by rw [h.2, h93]⟩)
          clear h93
          go_wp2_with (first | (go_at_call 101; refine C93.out.mono ?_; rintro e w7 ⟨hb7, rfl⟩; have HT7 := Lib.hid (HRJ.out.below hb7); have hz7 := BlkN.below HZJ.out hb7; have hl7 : BlkN w7 b1 27 #[.int .u8 3, .int .i64 0, .string ⟨#[]⟩, .slice A vs.length cap1, .int .i64 0] := BlkN.below HLJ.out hb7; have HV7 := Lib.hid (HVJ.out.below hb7); have HU7 := Lib.hid (HUJ.out.below hb7); clear hb7; have hp7 := BlkN.lt HT7.out; have hn7 := hz7.lt; have hb7 := hl7.lt; have c1 := BlkN.cell HT7.out 1 (v := .int .i64 j) rfl; have f1 := BlkN.free HT7.out 1; have c2 := BlkN.cell HT7.out 2 (v := .bool false) rfl; have d0 := hz7.cell 0 rfl; have x0 := hz7.free 0; have e0 := hl7.cell 0 rfl; have d1 := hz7.cell 1 rfl; have x1 := hz7.free 1; have e1 := hl7.cell 1 rfl; have d2 := hz7.cell 2 rfl; have x2 := hz7.free 2; have e2 := hl7.cell 2 rfl; have d3 := hz7.cell 3 rfl; have x3 := hz7.free 3; have e3 := hl7.cell 3 rfl; have d4 := hz7.cell 4 rfl; have x4 := hz7.free 4; have e4 := hl7.cell 4 rfl; have HZ7 := Lib.hid hz7; clear hz7 hl7))
          obtain ⟨V', hV', hB3, hbut3⟩ := set5_done (BlkN.setOther HZ7.out (q := ⟨p, 1, Option.none⟩) (by show N ≠ p; omega) (.int .i64 ((j : Int) + 1))) (.int .u8 3) (.int .i64 0) (.string ⟨#[]⟩) (.slice A vs.length cap1) (.int .i64 0)
          rw [hV']
          refine bodyPost_ret (results_cell1 (s := 4) (b := N) rfl Tryz.underlying27 hi0 rfl hB3 (by rw [hz1]; rfl)) rfl ⟨hbut3.upd (Nat.le_of_eq HN.out.symm) (HU7.out.set 1 _), ?_⟩
          rw [HRT.out, HRD.out, HR1.out]
          exact ⟨j + 1, by omega, by omega, rfl, _, rfl, list_tk (HV7.out.upd ((Upd.refl p w7).set 1 _) (by omega)) hbut3 (by omega) (by have := HN.out; omega) (by omega), HT7.out.adv.but hbut3 (by omega)⟩
        | false =>
          have hon : R = match rdT n (l.drop j) m with | .ok (v, q) r => tkLs (tkV n) f r q (vs ++ [v]) | .no r => .no r := by rw [← HLS.out, tkLs_rd _ _ _ _ _ h93]
          have C93 : Hid (Calls Tryz.prog 101 #[.pointer (some ⟨p, 0, Option.none⟩), .string ⟨#[93]⟩] wr fun e w' => Below wr.heap.size wr w' ∧ e = .returned (.bool false)) := Lib.hid ((is_any 93 l wr B p j false (512 - (m : Int)) _ HRJ.out (HVK.out wr HUJ.out) hBr HOK.out hj).mono fun e w' h => ⟨h.1, by rw [h.2, h93]⟩)
          clear h93
          go_upto_region 24 with (first | (go_at_call 101; refine C93.out.mono ?_; rintro e w7 ⟨hb7, rfl⟩; have HB7 := Lib.hid hb7; clear hb7; have c2 := BlkN.cell (HRJ.out.below HB7.out) 2 (v := .bool false) rfl))
          have HTY := Lib.hid (HRJ.out.below HB7.out)
          have HZY := Lib.hid (BlkN.below HZJ.out HB7.out)
          have HLY : Hid (LvT w7 b1 A vs.length cap1) := Lib.hid (BlkN.below HLJ.out HB7.out)
          have HVY := Lib.hid (HVJ.out.below HB7.out)
          have HUY := Lib.hid (HUJ.out.below HB7.out)
          have hsY : b1 + 1 ≤ w7.heap.size := by have := HB7.out.size; omega
          have CI := HIH.out l j m w7.drew B p _ HTY.out (HVK.out w7.drew (HUY.out.drewN 1)) hBp hj HOK.out hm5
          have hpt : ∀ x r, rdT n (l.drop j) m = .ok x r → m < x.2 ∧ x.2 ≤ 512 := fun x r h => rdT_part h
          have hob : ∀ g', (Value.slice A vs.length cap1).ownBlock = some g' → b1 + 1 ≤ g' ∧ g' < w7.heap.size := fun g' hg => HVY.out.blk hg
          obtain ⟨Y, hY⟩ : ∃ Y, Y = rdT n (l.drop j) m := ⟨_, rfl⟩
          rw [← hY] at CI hon hpt
          have HCI := Lib.hid (CI.mono fun e w' h => (⟨h.1, h.2.any⟩ : _ ∧ _))
          have HON := Lib.hid hon
          have HPT := Lib.hid hpt
          clear c2 CI hon hpt hY C93 HB7 hpr hBr
          refine RegT.region_mix (fun i => Nat.ble i 8) (fun V => LvT V b1 A vs.length cap1) [(true, 0), (true, 1), (true, 2), (true, 3), (true, 4), (false, 5), (false, 6), (false, 7), (true, 8), (false, 9)] rfl (by kernel_rfl) (by kernel_rfl) (by decide) ?_
          have hS0 : LvT w7.drew b1 A vs.length cap1 := HLY.out
          refine RegT.seqM_quiet hS0 rfl (fun _ _ _ h => h) (by kernel_rfl) (v := .pointer (some ⟨b1, 3, Option.none⟩)) (fun w' hS => ?_) ?_
          · go_simp
          refine RegT.seqM_quiet hS0 rfl (fun _ _ _ h => h) (by kernel_rfl) (v := .slice A vs.length cap1) (fun w' hS => ?_) ?_
          · have hS : BlkN w' b1 27 #[.int .u8 3, .int .i64 0, .string ⟨#[]⟩, .slice A vs.length cap1, .int .i64 0] := hS; have t3 := hS.cell 3 rfl; go_simp
          refine RegT.seqM_quiet hS0 rfl (fun _ _ _ h => h) (by kernel_rfl) (v := .pointer (some ⟨p, 0, Option.none⟩)) (fun w' hS => ?_) ?_
          · go_simp
          refine RegT.seqM_quiet hS0 rfl (fun _ _ _ h => h) (by kernel_rfl) (v := .int .i64 dp) (fun w' hS => ?_) ?_
          · go_simp
          refine RegT.seqM_quiet hS0 rfl (fun _ _ _ h => h) (by kernel_rfl) (v := .int .i64 (n : Nat)) (fun w' hS => ?_) ?_
          · go_simp
            have hdp := HDP.out; rw [IntKind.wrap_i64]; omega
          refine RegT.seqM_held rfl ?_
          clear hS0
          go_wp2_with (first | (go_at_call 50; refine HCI.out.mono ?_; rintro e w4 ⟨hu4, j2, y, u4, st2, room2, m2, rfl, hv4, hr4, hjj, hj2, hy0, hy1⟩))
          obtain ⟨k3, n3, s3, A3, len3, cap3, r3, rfl⟩ := hv4.shape
          have HL4 : Hid (LvT w4 b1 A vs.length cap1) := Lib.hid (BlkN.upd hu4 HLY.out (by omega))
          have hu4' : Upd p w7 w4 := ((Upd.refl p w7).drewN 1).trans hu4
          have hs4 : w7.heap.size ≤ w4.heap.size := hu4'.size
          have HV4 := Lib.hid (HVY.out.upd hu4' (by omega))
          have HX4 := Lib.hid hv4
          have HR4 := Lib.hid hr4
          have HZ4 := Lib.hid (BlkN.upd hu4' HZY.out (by omega))
          have HU4 := Lib.hid (HUY.out.trans hu4')
          have HY0 := Lib.hid hy0
          have HY1 := Lib.hid hy1
          have hg4 := BlkN.lt HL4.out
          clear hu4 hu4' hv4 hr4 HCI hy0 hy1
          refine ⟨HL4.out, RegT.seqM_held rfl ?_⟩
          go_wp2_with fail
          refine ⟨BlkN.alloc HL4.out _, RegT.seqM_held rfl ?_⟩
          go_wp2_with (first
            | (refine wpList_append_va _ rfl (.tmp 154) (.tmp 159) rfl (b1 + 1) w7.heap.size (.slice A vs.length cap1) vs xs rfl (HV4.out.below ((Below.refl _ w4).alloc (Nat.le_refl _) (.cells #[.int .u8 k3, .int .i64 n3, .string s3, .slice A3 len3 cap3, .int .i64 r3] 27))) w4.heap.size (.int .u8 k3) (.int .i64 n3) (.string s3) (.slice A3 len3 cap3) (.int .i64 r3) y rfl (BlkN.at_ rfl 27 _) (HX4.out.below ((Below.refl _ w4).alloc (Nat.le_refl _) _)) hsY (fun g' hg => (hob g' hg).2) (by omega) (by simp; omega) ?_
               intro v5 w5 xs5 hv5 hg5
               obtain ⟨ws, hws⟩ : ∃ ws, ws = vs ++ [y] := ⟨_, rfl⟩
               rw [← hws] at hv5
               obtain ⟨A5, cap5, hsl5, hcap5, _⟩ := hv5.list
               subst hsl5
               have HWS := Lib.hid hws
               clear hws
               have HR5 := Lib.hid (DRw.grown (BlkN.alloc HR4.out (.cells #[.int .u8 k3, .int .i64 n3, .string s3, .slice A3 len3 cap3, .int .i64 r3] 27)) hg5 (fun g' hg => by have := (hob g' hg).1; omega))
               have HZ5 : Hid (BlkN w5 N 27 #[.int .u8 0, .int .i64 0, .string ⟨#[]⟩, .slice Option.none 0 0, .int .i64 0]) := Lib.hid ((hg5.block _ (by have := BlkN.lt HZ4.out; simp; omega) (fun e => by have := (hob _ e.symm).1; omega)).trans (BlkN.alloc HZ4.out _))
               have HL5 : Hid (LvT w5 b1 A vs.length cap1) := Lib.hid ((hg5.block _ (by simp; omega) (fun e => by have := (hob _ e.symm).1; omega)).trans (BlkN.alloc HL4.out _))
               have HV5 := Lib.hid hv5
               have hs5 : w4.heap.size + 1 ≤ w5.heap.size := by have := hg5.size; simpa using this
               have HU5 := Lib.hid (Upd.grown (HU4.out.alloc (.cells #[.int .u8 k3, .int .i64 n3, .string s3, .slice A3 len3 cap3, .int .i64 r3] 27)) hg5 (fun g' hg => by have := (hob g' hg).1; have := HN.out; omega))
               clear hv5 hg5))
          refine ⟨HL5.out, ?_⟩
          refine RegT.seqM_quiet HL5.out rfl (fun _ _ _ h => h) (by kernel_rfl) (v := .pointer (some ⟨b1, 3, Option.none⟩)) (fun w' hS => ?_) ?_
          · go_simp
          refine RegT.seqM_free rfl rfl ?_
          have hl5 : BlkN w5 b1 27 #[.int .u8 3, .int .i64 0, .string ⟨#[]⟩, .slice A vs.length cap1, .int .i64 0] := HL5.out
          have e3 := hl5.cell 3 rfl
          have y3 := hl5.free 3
          have hg5 := hl5.lt
          go_wp2_with fail
          refine RegT.seqM_end ?_
          simp only [RegT.NP]
          obtain ⟨W6, hW6⟩ : ∃ W6, W6 = w5.setCell ⟨b1, 3, Option.none⟩ (.slice A5 ws.length cap5) := ⟨_, rfl⟩
          have HRW : Hid (DRw W6 p (.slice (some ⟨b, o, Option.none⟩) l.length cap0) j2 st2 room2) := Lib.hid (by rw [hW6]; exact BlkN.setOther HR5.out (q := ⟨b1, 3, Option.none⟩) (by show p ≠ b1; omega) _)
          have HZW : Hid (BlkN W6 N 27 #[.int .u8 0, .int .i64 0, .string ⟨#[]⟩, .slice Option.none 0 0, .int .i64 0]) := Lib.hid (by rw [hW6]; exact BlkN.setOther HZ5.out (q := ⟨b1, 3, Option.none⟩) (by show N ≠ b1; omega) _)
          have HLW : Hid (LvT W6 b1 A5 ws.length cap5) := Lib.hid (by rw [hW6]; have := BlkN.set hl5 3 (.slice A5 ws.length cap5); unfold LvT; simpa using this)
          have HVW : Hid (VRow W6 (b1 + 1) (.slice A5 ws.length cap5) ws xs5) := Lib.hid (by rw [hW6]; exact HV5.out.upd ((Upd.refl b1 w5).set 3 _) (by omega))
          have hbw : But b1 w5 W6 := by rw [hW6]; exact ⟨rfl, rfl, rfl, by simp [World.setCell], fun k hk => Below.heap_setCell _ _ _ _ hk⟩
          have HUW : Hid (Upd p w W6) := Lib.hid (hbw.upd (by have := HN.out; omega) HU5.out)
          have hsW : b1 + 1 ≤ W6.heap.size := by rw [hbw.size]; omega
          rw [← hW6]
          clear hW6 hbw hl5 e3 y3 hg5
          have hwl : ws.length = vs.length + 1 := by rw [HWS.out]; simp
          have HWL := Lib.hid hwl
          clear hwl
          go_wp2_with fail
          go_roundw
          case rel =>
            refine ⟨j2, m2, st2, room2, ws, xs5, A5, cap5, by omega, hj2, hsW, HRW.out, HZW.out, HLW.out, HVW.out, HUW.out, by have := HWL.out; omega, fun e => ?_, fun e => ?_⟩
            · obtain ⟨h1, h2, h3⟩ := HY0.out e
              have hp2 := HPT.out _ _ h3
              simp only at hp2
              have hw2 := HWL.out
              have hf2 := HF.out
              refine ⟨h2, by omega, hp2.2, ?_⟩
              rw [HON.out, h3, show 514 - ws.length = f by omega, HWS.out]
            · rw [HON.out, HY1.out e]
          case measure =>
            rw [HRW.out.pos, HRJ.out.pos]
            cases st2 with
            | true => simp
            | false => have := (HY0.out rfl).1; simp; omega
theorem dval_any : ∀ (nest : Nat), nest ≤ 16 → DVC nest
  | 0, h => dval_step 0 h (fun m e => by omega)
  | n + 1, h => dval_step (n + 1) h (fun m e => by
    obtain rfl : n = m := by omega
    exact dval_any n (by omega))
end Go.Proofs.YtjmelamllapmiaaGreatDoor
