/- What kinds can; what a thing can. -/
import Derived.Test.YthafojadcodkoaaTe
namespace Go.Proofs.Ythafojadcodkoaa
open Go.RowKit

set_option maxRecDepth 100000 in
set_option maxHeartbeats 2000000 in
theorem can_any (k : Int) (w : World) : Calls Try.prog 22 #[.int .u8 k] w fun e w' => Below w.heap.size w w' ∧ e = .returned (.int .u8 (canN k)) := by
  by_cases h1 : k = 1
  · subst h1
    go_enter Try.func22, Try.ntmps22
    go_wp2_with (first | (go_at_call 47; refine (joinS_any _ [1, 2] _ (row_u8 (by decide) (by decide) (by decide) (BlkN.at_ rfl 35 _) _)).mono ?_; rintro e w' ⟨rfl, rfl⟩))
    go_ret
    exact ⟨(Below.refl _ _).alloc (Nat.le_refl _) _, rfl⟩
  by_cases h2 : k = 2
  · subst h2
    go_enter Try.func22, Try.ntmps22
    go_wp2_with (first | (go_at_call 47; refine (joinS_any _ [1, 8] _ (row_u8 (by decide) (by decide) (by decide) (BlkN.at_ rfl 35 _) _)).mono ?_; rintro e w' ⟨rfl, rfl⟩))
    go_ret
    exact ⟨(Below.refl _ _).alloc (Nat.le_refl _) _, rfl⟩
  by_cases h3 : k = 3
  · subst h3
    go_enter Try.func22, Try.ntmps22
    go_wp2_with (first | (go_at_call 47; refine (joinS_any _ [1, 8] _ (row_u8 (by decide) (by decide) (by decide) (BlkN.at_ rfl 35 _) _)).mono ?_; rintro e w' ⟨rfl, rfl⟩))
    go_ret
    exact ⟨(Below.refl _ _).alloc (Nat.le_refl _) _, rfl⟩
  by_cases h4 : k = 4
  · subst h4
    go_enter Try.func22, Try.ntmps22
    go_wp2_with (first | (go_at_call 47; refine (joinS_any _ [8, 4] _ (row_u8 (by decide) (by decide) (by decide) (BlkN.at_ rfl 35 _) _)).mono ?_; rintro e w' ⟨rfl, rfl⟩))
    go_ret
    exact ⟨(Below.refl _ _).alloc (Nat.le_refl _) _, rfl⟩
  by_cases h9 : k = 9
  · subst h9
    go_enter Try.func22, Try.ntmps22
    go_wp2_with (first | (go_at_call 47; refine (joinS_any _ [1, 4, 8] _ (row_u8 (by decide) (by decide) (by decide) (BlkN.at_ rfl 35 _) _)).mono ?_; rintro e w' ⟨rfl, rfl⟩))
    go_ret
    exact ⟨(Below.refl _ _).alloc (Nat.le_refl _) _, rfl⟩
  by_cases h13 : k = 13
  · subst h13
    go_enter Try.func22, Try.ntmps22
    go_wp2_with (first | (go_at_call 47; refine (joinS_any _ [1, 32] _ (row_u8 (by decide) (by decide) (by decide) (BlkN.at_ rfl 35 _) _)).mono ?_; rintro e w' ⟨rfl, rfl⟩))
    go_ret
    exact ⟨(Below.refl _ _).alloc (Nat.le_refl _) _, rfl⟩
  by_cases h5 : k = 5
  · subst h5
    go_enter Try.func22, Try.ntmps22
    go_wp2_with fail
    go_ret
    exact ⟨Below.refl _ _, rfl⟩
  by_cases h6 : k = 6
  · subst h6
    go_enter Try.func22, Try.ntmps22
    go_wp2_with fail
    go_ret
    exact ⟨Below.refl _ _, rfl⟩
  by_cases h8 : k = 8
  · subst h8
    go_enter Try.func22, Try.ntmps22
    go_wp2_with fail
    go_ret
    exact ⟨Below.refl _ _, rfl⟩
  by_cases h12 : k = 12
  · subst h12
    go_enter Try.func22, Try.ntmps22
    go_wp2_with fail
    go_ret
    exact ⟨Below.refl _ _, rfl⟩
  by_cases h10 : k = 10
  · subst h10
    go_enter Try.func22, Try.ntmps22
    go_wp2_with fail
    go_ret
    exact ⟨Below.refl _ _, rfl⟩
  by_cases h11 : k = 11
  · subst h11
    go_enter Try.func22, Try.ntmps22
    go_wp2_with fail
    go_ret
    exact ⟨Below.refl _ _, rfl⟩
  have e1 : ((k : Int) == 1) = false := by rw [beq_eq_false_iff_ne]; exact h1
  have e2 : ((k : Int) == 2) = false := by rw [beq_eq_false_iff_ne]; exact h2
  have e3 : ((k : Int) == 3) = false := by rw [beq_eq_false_iff_ne]; exact h3
  have e4 : ((k : Int) == 4) = false := by rw [beq_eq_false_iff_ne]; exact h4
  have e5 : ((k : Int) == 5) = false := by rw [beq_eq_false_iff_ne]; exact h5
  have e6 : ((k : Int) == 6) = false := by rw [beq_eq_false_iff_ne]; exact h6
  have e8 : ((k : Int) == 8) = false := by rw [beq_eq_false_iff_ne]; exact h8
  have e9 : ((k : Int) == 9) = false := by rw [beq_eq_false_iff_ne]; exact h9
  have e10 : ((k : Int) == 10) = false := by rw [beq_eq_false_iff_ne]; exact h10
  have e11 : ((k : Int) == 11) = false := by rw [beq_eq_false_iff_ne]; exact h11
  have e12 : ((k : Int) == 12) = false := by rw [beq_eq_false_iff_ne]; exact h12
  have e13 : ((k : Int) == 13) = false := by rw [beq_eq_false_iff_ne]; exact h13
  go_enter Try.func22, Try.ntmps22
  go_wp2_with fail
  go_ret
  exact ⟨Below.refl _ _, by unfold canN; simp only [h1, h2, h3, h4, h5, h6, h8, h9, h10, h11, h12, h13, or_self, if_false]; rfl⟩
theorem canN_lt (k : Int) : canN k < 64 := by
  unfold canN
  repeat (first | split | omega)
/-- How many steps r's way has. -/
def stepsF (G : Gr) : Nat → Int → Nat
  | 0, _ => 0
  | n + 1, r => match G r with
    | none => 0
    | some t => if wrapK t.k then stepsF G n t.of_ + 1 else 0
theorem steps_le {G : Gr} : ∀ {n m : Nat} {r : Int}, endsF G n r = true → n ≤ m → stepsF G m r = stepsF G n r
  | 0, _, r, h, _ => by cases h
  | n + 1, 0, r, h, hm => by omega
  | n + 1, m + 1, r, h, hm => by
    rw [endsF] at h
    rw [stepsF, stepsF]
    cases hg : G r with
    | none => rfl
    | some t =>
      rw [hg] at h
      simp only at h ⊢
      by_cases hw : wrapK t.k = true
      · rw [if_pos hw] at h
        rw [if_pos hw, if_pos hw, steps_le h (by omega)]
      · rw [if_neg hw, if_neg hw]
theorem able_lt {G : Gr} : ∀ {n : Nat} {r : Int}, endsF G n r = true → ableF G n r < 64
  | 0, r, h => by cases h
  | n + 1, r, h => by
    rw [endsF] at h
    rw [ableF]
    cases hg : G r with
    | none => rw [hg] at h; cases h
    | some t =>
      rw [hg] at h
      simp only at h ⊢
      by_cases hw : wrapK t.k = true
      · rw [if_pos hw] at h
        have := able_lt h
        by_cases hk : t.k = 14
        · rw [if_pos hk]; exact Nat.lt_of_le_of_lt Nat.and_le_right this
        · rw [if_neg hk, if_pos hw]; exact this
      · have hn : t.k ≠ 14 := fun e => hw (wrap14 e)
        rw [if_neg hn, if_neg hw]
        exact canN_lt _
theorem gr_some {L : List Ent} {r : Int} {t : Th} (h : gr L r = some t) : ∃ e, entE L r = some e ∧ t = ⟨e.s.k, e.s.of_, e.s.set⟩ := by
  unfold gr at h
  cases hE : entE L r with
  | none => rw [hE] at h; cases h
  | some e => rw [hE] at h; exact ⟨e, rfl, (Option.some.inj h).symm⟩
theorem gr_ent {L : List Ent} {r : Int} {e : Ent} (h : entE L r = some e) : gr L r = some ⟨e.s.k, e.s.of_, e.s.set⟩ := by
  unfold gr; rw [h]; rfl
theorem meet2 {a b : Nat} (ha : a < 64) : meetN [a, b] = a &&& b := by
  show (63 &&& a) &&& b = a &&& b
  rw [show 63 &&& a = a by rw [Nat.and_comm]; exact Nat.and_two_pow_sub_one_of_lt_two_pow (n := 6) ha]
section
variable {w : World} {hi p tm fm : Nat} {ps cs ms : Value} {L : List Ent} {FL : List ((Int × Nat) × Int)} {lt : Int}
set_option maxRecDepth 100000 in
set_option maxHeartbeats 2000000 in
theorem able_any (h : Wd w hi p tm fm ps cs ms L FL lt) (r : Int) (a : Nat) (hc : Can (gr L) r a) : Calls Try.prog 7 #[.pointer (some ⟨p, 0, Option.none⟩), .int .i64 r] w fun e w' => Below w.heap.size w w' ∧ e = .returned (.int .u8 a) := by
  obtain ⟨N, hN, hA⟩ := hc
  have HN := Lib.hid hN
  have HA := Lib.hid hA
  have HW := Lib.hid h
  clear h hN hA
  go_enter Try.func7, Try.ntmps7
  go_wp2_with fail
  go_step3
  go_wp2_with fail
  go_step3
  go_wp2_with fail
  go_loopw [1, 5, 6, 29, 38] (fun rv mv _ _ _ wr => ∃ (q : Int) (n m : Nat), rv = .int .i64 q ∧ mv = .int .u8 m ∧ m < 64 ∧ n ≤ N ∧ endsF (gr L) n q = true ∧ m &&& ableF (gr L) n q = a ∧ Below w.heap.size w wr) (fun rv _ _ _ _ _ => stepsF (gr L) N (intOf rv))
  case atStart => exact ⟨r, N, 63, rfl, rfl, by omega, Nat.le_refl _, HN.out, by rw [Nat.and_comm]; exact (Nat.and_two_pow_sub_one_of_lt_two_pow (n := 6) (able_lt HN.out)).trans HA.out, Below.refl _ _⟩
  case round =>
    obtain ⟨q, n, m, rfl, rfl, hm, hn, he, ha, hb⟩ := hrel
    have HWr := Lib.hid (HW.out.below hb)
    have HB := Lib.hid hb
    have HE := Lib.hid he
    have HAA := Lib.hid ha
    clear hb ha
    cases n with
    | zero => cases he
    | succ n =>
    rw [endsF] at he
    cases hg : gr L q with
    | none => rw [hg] at he; cases he
    | some t =>
    rw [hg] at he
    simp only at he
    have HG := Lib.hid hg
    obtain ⟨e, hE, rfl⟩ := gr_some hg
    simp only at he
    have HEN := Lib.hid hE
    have hl := HWr.out.look q
    rw [hE] at hl
    have C6 := is_any HWr.out q
    rw [hE] at C6
    have C6 := Lib.hid C6
    have c2 := HWr.out.blk.cell 2 rfl
    obtain ⟨-, hblk, x, hwh⟩ := HWr.out.each e (entE_mem hE).1
    have k0 := hblk.cell 0 e.s.at0
    have k10 := hblk.cell 10 e.s.at10
    have k12 := hblk.cell 12 e.s.at12
    have hset := hwh.1.2.2
    have hbl := hblk.lt
    obtain ⟨er, b, s⟩ := e
    simp only at k0 k10 k12 hset he hbl
    have hcl : canN s.k < 64 := canN_lt _
    clear hwh hblk hg hE
    by_cases k14 : s.k = 14
    · have hw : wrapK s.k = true := wrap14 k14
      rw [if_pos hw] at he
      have e14 : ((s.k : Int) == 14) = true := by rw [k14]; rfl
      go_wp2_with (first | (go_at_call 6; refine C6.out.mono ?_; rintro e w' ⟨rfl, rfl⟩) | (go_at_call 21; refine (meet_any _ [m, s.set] _ (row_u8 (by simp; omega) (by simp) (by simp) (BlkN.at_ rfl 35 _) _)).mono ?_; rintro e w' ⟨rfl, rfl⟩))
      go_roundw
      case rel =>
        refine ⟨s.of_, n, meetN [m, s.set], rfl, rfl, meet_lt _, by omega, he, ?_, HB.out.alloc HB.out.size _⟩
        rw [meet2 hm, Nat.and_assoc, ← HAA.out, ableF, HG.out]
        simp only [if_pos k14]
      case measure =>
        simp only [intOf]
        rw [steps_le HE.out hn, steps_le he (by omega), stepsF, HG.out]
        simp only [if_pos hw]
        omega
    have e14 : ((s.k : Int) == 14) = false := by rw [beq_eq_false_iff_ne]; exact k14
    by_cases k15 : s.k = 15 ∨ s.k = 16
    · have hw : wrapK s.k = true := by rcases k15 with h | h <;> (rw [h]; rfl)
      rw [if_pos hw] at he
      have hq : ((s.k : Int) == 15) = true ∨ (((s.k : Int) == 15) = false ∧ ((s.k : Int) == 16) = true) := by rcases k15 with h | h <;> (rw [h]; decide)
      clear k15
      rcases hq with e15 | ⟨e15, e16⟩
      all_goals
        go_wp2_with (first | (go_at_call 6; refine C6.out.mono ?_; rintro e w' ⟨rfl, rfl⟩))
        go_roundw
        case rel =>
          refine ⟨s.of_, n, m, rfl, rfl, hm, by omega, he, ?_, HB.out⟩
          rw [← HAA.out, ableF, HG.out]
          simp only [if_neg k14, if_pos hw]
        case measure =>
          simp only [intOf]
          rw [steps_le HE.out hn, steps_le he (by omega), stepsF, HG.out]
          simp only [if_pos hw]
          omega
    have k16 : s.k ≠ 16 := fun e => k15 (.inr e)
    have k15 : s.k ≠ 15 := fun e => k15 (.inl e)
    have e15 : ((s.k : Int) == 15) = false := by rw [beq_eq_false_iff_ne]; exact k15
    have e16 : ((s.k : Int) == 16) = false := by rw [beq_eq_false_iff_ne]; exact k16
    have hw : wrapK s.k = false := wrapK_not k14 k15 k16
    go_wp2_with (first | (go_at_call 6; refine C6.out.mono ?_; rintro e w' ⟨rfl, rfl⟩) | (go_at_call 22; refine (can_any s.k _).mono ?_; rintro e w2 ⟨hb2, rfl⟩; have HB2 := Lib.hid hb2; clear hb2) | (go_at_call 21; refine (meet_any _ [m, canN s.k] _ (row_u8 (by simp; omega) (by simp) (by simp) (BlkN.at_ rfl 35 _) _)).mono ?_; rintro e w' ⟨rfl, rfl⟩))
    try rw [Exit.noGoto_ret]
    go_ret
    refine ⟨bnext HB.out (HB2.out.alloc HB2.out.size _), ?_⟩
    rw [meet2 hm, ← HAA.out, ableF, HG.out]
    simp only [if_neg k14, hw, Bool.false_eq_true, if_false]
    rfl
end
end Go.Proofs.Ythafojadcodkoaa
