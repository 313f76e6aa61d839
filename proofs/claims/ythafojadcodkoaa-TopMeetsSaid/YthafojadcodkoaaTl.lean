/- Facet, narrow, Narrow. -/
import Derived.Test.YthafojadcodkoaaTk
namespace Go.Proofs.Ythafojadcodkoaa
open Go.RowKit

theorem gr_snoc {L : List Ent} {b : Nat} {f t : Int} {a : Nat} (h : entE L f = none) : gr (L ++ [⟨f, b, facetV t a⟩]) = addG (gr L) f t a := by
  funext r
  unfold gr addG
  rw [entE_snoc (e := ⟨f, b, facetV t a⟩) h]
  show (if r = f then some (⟨f, b, facetV t a⟩ : Ent) else entE L r).map _ = _
  by_cases hr : r = f
  · rw [if_pos hr, if_pos hr]; rfl
  · rw [if_neg hr, if_neg hr]
theorem andNot0 : ∀ a A : Fin 64, ((a : Nat) &&& (A : Nat)) = a → bits .andNot .u8 ((a : Nat) : Int) ((A : Nat) : Int) = 0 := by decide +kernel
section
variable {w : World} {hi p tm fm : Nat} {ps cs : Value} {mA : Option Addr} {ml mc : Nat} {L : List Ent} {FL : List ((Int × Nat) × Int)} {lt : Int}
attribute [local irreducible] wpList
set_option maxRecDepth 100000 in
set_option maxHeartbeats 4000000 in
theorem facet_any (h : Wd w hi p tm fm ps cs (.slice mA ml mc) L FL lt) (lo : Nat) (hlo : lo ≤ p ∧ lo ≤ tm ∧ lo ≤ fm) (hl0 : -9223372036854775808 ≤ lt) (hlt : lt ≤ 4611686018427387904) (hnew : ∀ e ∈ L, e.r ≤ lt) (t : Int) (a A : Nat) (e : Ent) (hE : entE L t = some e) (hk : e.s.k ≠ 14) (hA : Can (gr L) t A) (hne : a ≠ A) (haA : a &&& A = a) :
    Calls Try.prog 50 #[.pointer (some ⟨p, 0, Option.none⟩), .int .i64 t, .int .u8 a] w fun ee w' => Below lo w w' ∧ ((∃ q, fc FL t a = some q ∧ ee = .returned (.tuple #[.int .i64 q, .int .i64 0]) ∧ Wd w' hi p tm fm ps cs (.slice mA ml mc) L FL lt) ∨
      (fc FL t a = none ∧ ee = .returned (.tuple #[.int .i64 (lt + 1), .int .i64 0]) ∧ ∃ b, Wd w' hi p tm fm ps cs (.slice mA ml mc) (L ++ [⟨lt + 1, b, facetV t a⟩]) (FL ++ [((t, a), lt + 1)]) (lt + 1))) := by
  obtain ⟨n, hn1, hn2⟩ := hA
  have hA64 : A < 64 := hn2 ▸ able_lt hn1
  have ha64 : a < 64 := by rw [← haA]; exact Nat.lt_of_le_of_lt Nat.and_le_right hA64
  have hbit := andNot0 ⟨a, ha64⟩ ⟨A, hA64⟩ haA
  simp only at hbit
  have hab : ((a : Int) == A) = false := by rw [beq_eq_false_iff_ne]; omega
  have C20 := Lib.hid (none_any h)
  have C6 := is_any h t
  rw [hE] at C6
  have C6 := Lib.hid C6
  have C7 := Lib.hid (able_any h t A ⟨n, hn1, hn2⟩)
  have HW := Lib.hid h
  have HLN : lo ≤ w.heap.size := by have := h.low; omega
  have HHI := h.low.2.2.2.2
  have HNEW := Lib.hid hnew
  have HEE := Lib.hid hE
  have hkq : ((e.s.k : Int) == 14) = false := by rw [beq_eq_false_iff_ne]; exact hk
  clear h hE hn1 hn2 hnew
  go_enter Try.func50, Try.ntmps50
  go_upto_region 6 with (first
    | (go_at_call 20; refine C20.out.mono ?_; rintro e2 w' ⟨rfl, rfl⟩)
    | (go_at_call 6; refine C6.out.mono ?_; rintro e2 w' ⟨rfl, rfl⟩)
    | (go_at_call 7; refine C7.out.mono ?_; rintro e2 w1 ⟨hb1, rfl⟩; have HB1 := Lib.hid hb1; clear hb1))
  have HW1 := Lib.hid (HW.out.below HB1.out)
  have C55 := kind_any HW1.out t
  rw [HEE.out] at C55
  have C55 : Hid (Calls Try.prog 55 #[.pointer (some ⟨p, 0, Option.none⟩), .int .i64 t] w1 fun ee w' => ee = .returned (.int .u8 e.s.k) ∧ w1 = w') := Lib.hid C55
  have C66 := Lib.hid (find_any HW1.out t a)
  have hb0 : (bits .andNot .u8 (a : Int) (A : Int) != 0) = false := by rw [hbit]; rfl
  cases hF : fc FL t a with
  | some q =>
    rw [hF] at C66
    have C66 : Hid (Calls Try.prog 66 #[.pointer (some ⟨p, 0, Option.none⟩), .int .i64 t, .int .u8 a] w1 fun ee w' => ee = .returned (.tuple #[.int .i64 q, .bool true]) ∧ w1 = w') := Lib.hid C66.out
    go_wp2_with (first
      | (go_at_call 55; refine C55.out.mono ?_; rintro e2 w' ⟨rfl, rfl⟩)
      | (go_at_call 66; refine C66.out.mono ?_; rintro e2 w' ⟨rfl, rfl⟩))
    go_ret2
    exact ⟨HB1.out.mono HLN, .inl ⟨q, by trivial, rfl, HW1.out⟩⟩
  | none =>
    rw [hF] at C66
    have C66 : Hid (Calls Try.prog 66 #[.pointer (some ⟨p, 0, Option.none⟩), .int .i64 t, .int .u8 a] w1 fun ee w' => ee = .returned (.tuple #[.int .i64 0, .bool false]) ∧ w1 = w') := Lib.hid C66.out
    have C31 := Lib.hid (lay_any HW1.out lo hlo hl0 hlt HNEW.out t a (by omega) hF)
    go_wp2_with (first
      | (go_at_call 55; refine C55.out.mono ?_; rintro e2 w' ⟨rfl, rfl⟩)
      | (go_at_call 66; refine C66.out.mono ?_; rintro e2 w' ⟨rfl, rfl⟩)
      | (go_at_call 31; refine C31.out.mono ?_; rintro e2 w2 ⟨rfl, hb2, b2, hw2⟩; have HB2 := Lib.hid hb2; have HW2 := Lib.hid hw2; clear hb2 hw2))
    go_ret2
    exact ⟨(HB1.out.mono HLN).trans HB2.out, .inr ⟨by trivial, rfl, b2, HW2.out⟩⟩
/-- Narrowing, from one world to the next. -/
def NarW (w : World) (hi p tm fm : Nat) (ps cs : Value) (mA : Option Addr) (ml mc : Nat) (L : List Ent) (FL : List ((Int × Nat) × Int)) (lt : Int) (lo : Nat) (r : Int) (s : Nat) (q : Int) (w' : World) (L' : List Ent) (FL' : List ((Int × Nat) × Int)) (lt' : Int) : Prop :=
  Below lo w w' ∧ Wd w' hi p tm fm ps cs (.slice mA ml mc) L' FL' lt' ∧ NarR (gr L) (fc FL) lt r s q (gr L') (fc FL') lt' ∧ (lt' = lt → L' = L ∧ FL' = FL) ∧ (∀ e ∈ L', e.r ≤ lt') ∧ lt ≤ lt' ∧ lt' ≤ lt + 1
theorem ent_of_gr {L : List Ent} {r : Int} {t : Th} (h : gr L r = some t) : ∃ e, entE L r = some e ∧ t = ⟨e.s.k, e.s.of_, e.s.set⟩ := gr_some h
set_option maxRecDepth 100000 in
set_option maxHeartbeats 4000000 in
theorem narrow_any (H : OwnWhatC) (h : Wd w hi p tm fm ps cs (.slice mA ml mc) L FL lt) (hS : Sound (gr L) (fc FL)) (lo : Nat) (hlo : lo ≤ p ∧ lo ≤ tm ∧ lo ≤ fm) (hl0 : -9223372036854775808 ≤ lt) (hlt : lt ≤ 4611686018427387904) (hnew : ∀ e ∈ L, e.r ≤ lt) (r : Int) (s : Nat) (hs : s < 64) (e : Ent) (hE : entE L r = some e) :
    Calls Try.prog 24 #[.pointer (some ⟨p, 0, Option.none⟩), .int .i64 r, .int .u8 s] w fun ee w' => ∃ q L' FL' lt', ee = .returned (.tuple #[.int .i64 q, .int .i64 0]) ∧ NarW w hi p tm fm ps cs mA ml mc L FL lt lo r s q w' L' FL' lt' := by
  have hg := gr_ent hE
  obtain ⟨t, ht⟩ : ∃ t, t = rootG (gr L) r := ⟨_, rfl⟩
  obtain ⟨u, hu, huk⟩ := hS.root hg
  obtain ⟨a, ha⟩ := hS.can hg
  obtain ⟨A, hA⟩ := hS.can hu
  have hw1 := hS.within hg ha hA
  rw [← ht] at hu hA
  obtain ⟨et, hEt, rfl⟩ := gr_some hu
  simp only at huk
  have C49 := root_any H h r e hE
  rw [← ht] at C49
  have C49 := Lib.hid C49
  have ha64 : a < 64 := by obtain ⟨n, h1, h2⟩ := ha; exact h2 ▸ able_lt h1
  have hA64 : A < 64 := by obtain ⟨n, h1, h2⟩ := hA; exact h2 ▸ able_lt h1
  have hand := u8_and_nat s a (by omega) (by omega)
  have hw2 := and_within (s := s) hw1
  have HR : Hid (∀ q G' F' L', ((a &&& s = A ∧ q = t ∧ G' = gr L ∧ F' = fc FL ∧ L' = lt) ∨ (a &&& s ≠ A ∧ fc FL t (a &&& s) = some q ∧ G' = gr L ∧ F' = fc FL ∧ L' = lt) ∨ (a &&& s ≠ A ∧ fc FL t (a &&& s) = none ∧ q = lt + 1 ∧ G' = addG (gr L) q t (a &&& s) ∧ F' = addF (fc FL) q t (a &&& s) ∧ L' = lt + 1)) → NarR (gr L) (fc FL) lt r s q G' F' L') := Lib.hid (fun q G' F' L' hh => ⟨a, A, ha, by rw [← ht]; exact hA, by rw [← ht]; exact hh⟩)
  have HW := Lib.hid h
  have HLN : lo ≤ w.heap.size := by have := h.low; omega
  have HHI := h.low.2.2.2.2
  have HNEW := Lib.hid hnew
  have HA := Lib.hid hA
  have HAR := Lib.hid ha
  rw [Nat.and_comm s a] at hand
  obtain ⟨m, hm⟩ : ∃ m, m = a &&& s := ⟨_, rfl⟩
  rw [← hm] at hand hw2 HR
  have HEt := Lib.hid hEt
  clear h hE hnew hg hu hA ha ht hEt hm
  go_enter Try.func24, Try.ntmps24
  go_upto_region 4 with (first
    | (go_at_call 49; refine C49.out.mono ?_; rintro e2 w1 ⟨hb1, rfl⟩; have HB1 := Lib.hid hb1; clear hb1; have HW1 := Lib.hid (HW.out.below HB1.out); have CA := Lib.hid (able_any HW1.out t A HA.out))
    | (go_at_call 7; refine CA.out.mono ?_; rintro e2 w2 ⟨hb2, rfl⟩; have HB2 := Lib.hid hb2; clear hb2 CA; have HW2 := Lib.hid (HW1.out.below HB2.out); have CR := Lib.hid (able_any HW2.out r a HAR.out))
    | (go_at_call 7; refine CR.out.mono ?_; rintro e2 w3 ⟨hb3, rfl⟩; have HB3 := Lib.hid hb3; clear hb3; have HW3 := Lib.hid (HW2.out.below HB3.out)))
  have HB4 : Hid (Below lo w w3) := Lib.hid ((bnext (bnext HB1.out HB2.out) HB3.out).mono HLN)
  by_cases hmA : m = A
  · have hq : ((m : Int) == A) = true := by rw [hmA]; simp
    have HQ := Lib.hid hmA
    clear hmA
    go_wp2_with fail
    go_ret2
    exact ⟨t, L, FL, lt, by first | rfl | trivial, HB4.out, HW3.out, HR.out _ _ _ _ (.inl ⟨HQ.out, rfl, rfl, rfl, rfl⟩), fun _ => ⟨rfl, rfl⟩, HNEW.out, by omega, by omega⟩
  · have hq : ((m : Int) == A) = false := by rw [beq_eq_false_iff_ne]; omega
    have C50 := Lib.hid (facet_any HW3.out lo hlo hl0 hlt HNEW.out t m A et HEt.out huk HA.out hmA hw2)
    have HQ := Lib.hid hmA
    clear hmA
    go_wp2_with (first | (go_at_call 50; refine C50.out.mono ?_; rintro e2 w4 ⟨hb4, ⟨q, hq1, rfl, hw4⟩ | ⟨hq1, rfl, b4, hw4⟩⟩))
    · go_ret2
      exact ⟨q, L, FL, lt, by first | rfl | trivial, HB4.out.trans hb4, hw4, HR.out _ _ _ _ (.inr (.inl ⟨HQ.out, hq1, rfl, rfl, rfl⟩)), fun _ => ⟨rfl, rfl⟩, HNEW.out, by omega, by omega⟩
    · go_ret2
      have hn0 : entE L (lt + 1) = none := entE_none (fun e he => by have := HNEW.out e he; omega)
      refine ⟨lt + 1, _, _, lt + 1, by first | rfl | trivial, HB4.out.trans hb4, hw4, ?_, fun h => by omega, fun e he => ?_, by omega, by omega⟩
      · rw [gr_snoc hn0, fc_snoc hq1]
        exact HR.out _ _ _ _ (.inr (.inr ⟨HQ.out, hq1, rfl, rfl, rfl, rfl⟩))
      · rcases List.mem_append.1 he with he | he
        · have := HNEW.out e he; omega
        · rw [List.mem_singleton.1 he]; exact Int.le_refl _
end
end Go.Proofs.Ythafojadcodkoaa
