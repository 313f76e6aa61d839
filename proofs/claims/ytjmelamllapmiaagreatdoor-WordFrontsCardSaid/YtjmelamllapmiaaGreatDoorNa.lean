/- The document's row of tokens: is. -/
import Derived.Test.YtjmelamllapmiaaGreatDoorXf
import Derived.Test.YtjmelamllapmiaaGreatDoorXu
import Derived.Lib.QuietBelow
namespace Go.Proofs.YtjmelamllapmiaaGreatDoor
open Go.RowKit Go.Sort

/-- The document's row: the tokens, how far it is, is it stuck, how many parts may come. -/
def DRw (w : World) (p : Nat) (v : Value) (i : Nat) (st : Bool) (room : Int) : Prop := BlkN w p 103 #[v, .int .i64 i, .bool st, .int .i64 room]
/-- Does that sign come? -/
def isB (st : Bool) (t : List Tk) (c : UInt8) : Bool := !st && match t with | [] => false | x :: _ => tokMay x && (decide (x.k = 5) && (x.s == [c]))
theorem one_sign' {s : L8} (h : oneSign s = true) : ∃ c, s = [c] := by
  unfold oneSign at h
  match s, h with
  | [c], _ => exact ⟨c, rfl⟩
theorem cellR {w : World} {b o : Nat} {v : Value} (h : w.cell? ⟨b, o, Option.none⟩ = some v) : ∀ p : Regrown, (grow (redrawn w p.d) p.os).cell? ⟨b, o, Option.none⟩ = some v := fun p => cell_regrown h p.d p.os
attribute [local irreducible] wpQuiet wpList
set_option maxRecDepth 100000 in
set_option maxHeartbeats 8000000 in
theorem is_any (c : UInt8) (l : List Tk) (w : World) (B p i : Nat) (st : Bool) (room : Int) (v : Value) (h : DRw w p v i st room) (hv : IsTks w B v l) (_hB : B ≤ w.heap.size) (hok : ∀ t ∈ l, TkL t) (hi : i ≤ l.length) :
    Calls Tryz.prog 101 #[.pointer (some ⟨p, 0, Option.none⟩), .string ⟨#[c]⟩] w fun e w' => Below w.heap.size w w' ∧ e = .returned (.bool (isB st (l.drop i) c)) := by
  obtain ⟨hl48, A, cap, hcap, rfl, h7⟩ := hv
  have hpl := BlkN.lt h
  have c0 := cellR (BlkN.cell h 0 (v := .slice A l.length cap) rfl)
  have c1 := cellR (BlkN.cell h 1 (v := .int .i64 i) rfl)
  have c2 := cellR (BlkN.cell h 2 (v := .bool st) rfl)
  clear h
  cases st with
  | true =>
    go_enter Tryz.func101, Tryz.ntmps101
    go_upto_region 1 with fail
    refine wp_region_quiet_below (by kernel_rfl) (by kernel_rfl) ?_
    repeat (quiet_step (fail))
    refine wpQuiet_nil ?_
    intro _ hw'
    obtain ⟨pr, hw''⟩ := hw'
    subst hw''
    go_wp2_with fail
    go_ret
    exact ⟨below_regrown _ _ _, rfl⟩
  | false =>
    by_cases hh : i < l.length
    rotate_left
    · have hge : decide ((i : Int) < l.length) = false := by rw [decide_eq_false_iff_not]; omega
      have hgn : decide (i < l.length) = false := by rw [decide_eq_false_iff_not]; omega
      have hni : ¬ (i : Int) < l.length := by omega
      have e : isB false (l.drop i) c = false := by rw [List.drop_eq_nil_of_le (by omega)]; rfl
      rw [e]
      clear e hh hi h7
      go_enter Tryz.func101, Tryz.ntmps101
      go_upto_region 1 with fail
      refine wp_region_quiet_below (by kernel_rfl) (by kernel_rfl) ?_
      repeat (quiet_step (fail))
      refine wpQuiet_nil ?_
      intro _ hw'
      obtain ⟨pr, hw''⟩ := hw'
      subst hw''
      go_wp2_with fail
      go_ret
      exact ⟨below_regrown _ _ _, rfl⟩
    have hge : decide ((i : Int) < l.length) = true := by rw [decide_eq_true_iff]; omega
    have hii : (i : Int) < l.length := by omega
    obtain ⟨b, o, hbB, rfl, hx⟩ := h7 (by rintro rfl; simp at hh)
    obtain ⟨t, ht⟩ : ∃ t, t = l[i] := ⟨_, rfl⟩
    have hat := hx i hh
    have hTO := hok l[i] (List.getElem_mem hh)
    rw [← ht] at hat hTO
    have hD : l.drop i = t :: l.drop (i + 1) := by rw [List.drop_eq_getElem_cons hh, ht]
    have cM : ∀ pr : Regrown, Calls Tryz.prog 100 #[.agg t.arr] (grow (redrawn w pr.d) pr.os) fun e w'' => e = .returned (.bool (tokMay t)) ∧ ∃ q : Regrown, w'' = grow (redrawn w q.d) q.os := fun pr => Calls.regrown_of ((rtmay_any t (by have := hTO.1; omega) _).mono fun e w' h => ⟨h.2, h.1⟩)
    rw [hD]
    clear hD hTO hx ht hok
    obtain ⟨tk, ta, tn, ts, tr⟩ := t
    obtain ⟨t0, t1, t2, t3, t4⟩ := At.five' (c0 := .int .u8 tk) (c1 := .int .i64 ta) (c2 := .int .i64 tn) (c3 := .string (txtV ts)) (c4 := .int .i64 tr) hat
    have t0 := cellR t0
    have t1 := cellR t1
    have t2 := cellR t2
    have t3 := cellR t3
    have t4 := cellR t4
    have cM : ∀ pr : Regrown, Calls Tryz.prog 100 #[.agg #[.int .u8 tk, .int .i64 ta, .int .i64 tn, .string (txtV ts), .int .i64 tr]] (grow (redrawn w pr.d) pr.os) fun e w'' => e = .returned (.bool (tokMay ⟨tk, ta, tn, ts, tr⟩)) ∧ ∃ q : Regrown, w'' = grow (redrawn w q.d) q.os := cM
    clear hat
    obtain ⟨mb, hmb⟩ : ∃ mb, mb = tokMay ⟨tk, ta, tn, ts, tr⟩ := ⟨_, rfl⟩
    rw [← hmb] at cM
    have e1 : isB false ((⟨tk, ta, tn, ts, tr⟩ : Tk) :: l.drop (i + 1)) c = (mb && (decide (tk = 5) && (ts == [c]))) := by rw [hmb]; rfl
    rw [e1]
    clear e1
    have HMB := Lib.hid hmb
    clear hmb
    cases mb with
    | false =>
      go_enter Tryz.func101, Tryz.ntmps101
      go_upto_region 1 with fail
      refine wp_region_quiet_below (by kernel_rfl) (by kernel_rfl) ?_
      repeat (quiet_step (exact cM _))
      refine wpQuiet_nil ?_
      intro _ hw'
      obtain ⟨pr, hw''⟩ := hw'
      subst hw''
      go_wp2_with fail
      go_ret
      exact ⟨below_regrown _ _ _, rfl⟩
    | true =>
      by_cases k5 : tk = 5
      rotate_left
      · have hk5 : ((tk : Int) == 5) = false := by rw [beq_eq_false_iff_ne]; exact k5
        rw [decide_eq_false k5, Bool.true_and, Bool.false_and]
        clear k5
        go_enter Tryz.func101, Tryz.ntmps101
        go_upto_region 1 with fail
        refine wp_region_quiet_below (by kernel_rfl) (by kernel_rfl) ?_
        repeat (quiet_step (exact cM _))
        refine wpQuiet_nil ?_
        intro _ hw'
        obtain ⟨pr, hw''⟩ := hw'
        subst hw''
        go_wp2_with fail
        go_ret
        exact ⟨below_regrown _ _ _, rfl⟩
      subst k5
      obtain ⟨d, rfl⟩ : ∃ d, ts = [d] := by
        have h := HMB.out.symm
        unfold tokMay at h
        rw [if_neg (show ¬ (5 : Int) = 1 by decide), if_neg (show ¬ (5 : Int) = 2 by decide), if_neg (show ¬ (5 : Int) = 3 by decide), if_neg (show ¬ (5 : Int) = 4 by decide), if_pos rfl] at h
        simp only [Bool.and_eq_true] at h
        exact one_sign' h.2
      have hcs : txtV [d] = (⟨#[d]⟩ : ByteArray) := rfl
      rw [hcs] at cM t3
      obtain ⟨q, hq⟩ : ∃ q, q = (d == c) := ⟨_, rfl⟩
      have e2 : (true && (decide ((5 : Int) = 5) && ([d] == [c]))) = q := by rw [hq]; simp
      rw [e2]
      clear e2 hcs
      cases q
      · have hq' : (d == c) = false := hq.symm
        clear hq
        go_enter Tryz.func101, Tryz.ntmps101
        go_upto_region 1 with fail
        refine wp_region_quiet_below (by kernel_rfl) (by kernel_rfl) ?_
        repeat (quiet_step (exact cM _))
        refine wpQuiet_nil ?_
        intro _ hw'
        obtain ⟨pr, hw''⟩ := hw'
        subst hw''
        go_wp2_with fail
        go_ret
        exact ⟨below_regrown _ _ _, rfl⟩
      · have hq' : (d == c) = true := hq.symm
        clear hq
        go_enter Tryz.func101, Tryz.ntmps101
        go_upto_region 1 with fail
        refine wp_region_quiet_below (by kernel_rfl) (by kernel_rfl) ?_
        repeat (quiet_step (exact cM _))
        refine wpQuiet_nil ?_
        intro _ hw'
        obtain ⟨pr, hw''⟩ := hw'
        subst hw''
        go_wp2_with fail
        go_ret
        exact ⟨below_regrown _ _ _, rfl⟩
end Go.Proofs.YtjmelamllapmiaaGreatDoor
