/- Plain laws: a value's text is cut into its tokens. -/
import Derived.Test.YtkhpfghehjcfoaaDoorZg
import Derived.Test.YtkhpfghehjcfoaaDoorZc
namespace Go.Proofs.YtkhpfghehjcfoaaDoor
open Go.RowKit

mutual
/-- A value's tokens, without their places. -/
def tksV : Va → List Tk
  | .mk k n s l r => if k = 1 then [⟨2, 0, n, [], 0⟩] else if k = 2 then [⟨3, 0, 0, s.data.toList, 0⟩] else if k = 4 then [⟨4, 0, 0, [], r⟩] else if k = 3 then ⟨5, 0, 0, [91], 0⟩ :: (tksVs l ++ [⟨5, 0, 0, [93], 0⟩]) else [⟨5, 0, 0, [95], 0⟩]
def tksVs : List Va → List Tk
  | [] => []
  | x :: l => tksV x ++ tksVs l
end
theorem PlR.app {U1 U : Int} : ∀ {m l : List Tk} {lo lo2 : Int} {m' l' : List Tk}, PlR U1 lo m l → PlR U lo2 m' l' → U1 ≤ lo2 → lo ≤ lo2 → U1 ≤ U → PlR U lo (m ++ m') (l ++ l')
  | [], [], lo, lo2, m', l', _, h2, _, h4, _ => h2.mono h4
  | x :: m, t :: l, lo, lo2, m', l', ⟨g1, g2, g3, g4⟩, h2, h3, h4, h5 => ⟨g1, by omega, g3, PlR.app g4 h2 h3 (by omega) h5⟩
  | [], _ :: _, _, _, _, _, h, _, _, _, _ => h.elim
  | _ :: _, [], _, _, _, _, h, _, _, _, _ => h.elim
theorem cut_sign (N f : Nat) (c : UInt8) (r : L8) (tight : Bool) (acc : List Tk) (hs : sgnB c = true) : cutL N (f + 1) (c :: r) tight acc = cutL N f r false (acc ++ [⟨5, ((N - (c :: r).length : Nat) : Int), 0, [c], 0⟩]) := by
  obtain ⟨f1, f2, f3, f4, f5, f6⟩ := sgn_not hs
  rw [cutL_tok N f c r tight acc f6 (by rw [hs]; simp)]
  have h : tokL N ((N - (c :: r).length : Nat) : Int) (c :: r) = .ok ⟨5, ((N - (c :: r).length : Nat) : Int), 0, [c], 0⟩ r := by
    simp only [tokL]
    rw [if_neg (by rw [f1]; decide), if_neg (by rw [f2]; decide), if_neg f3, if_neg f4, if_neg f5, if_pos hs]
  rw [h]
  rfl
/-- What is said of a cut of a text in front of R. -/
def CutsTo (N f : Nat) (T R : L8) (tight : Bool) (acc l : List Tk) : Prop :=
  ∃ m tight' g, cutL N f (T ++ R) tight acc = cutL N g R tight' (acc ++ m) ∧ R.length < g ∧ PlR ((N : Int) - R.length) ((N : Int) - (T ++ R).length) m l
theorem cuts_leaf (N f : Nat) (t : Tk) (T R : L8) (acc : List Tk) (hT : formL t = T) (hm : tokMay t = true) (hok : TkOk t) (hr : word0 R = false) (hN : (T ++ R).length ≤ N) (hf : (T ++ R).length < f) : CutsTo N f T R false acc [t] := by
  subst hT
  obtain ⟨c, u, e, -⟩ := form_hd t hm
  have hl : 1 ≤ (formL t).length := by rw [e]; simp
  have hs := form_s t hm
  have ha : (formL t ++ R).length = (formL t).length + R.length := List.length_append
  obtain ⟨f, rfl⟩ : ∃ g, f = g + 1 := ⟨f - 1, by omega⟩
  refine ⟨[{ t with at_ := ((N - (formL t ++ R).length : Nat) : Int) }], _, f, cut_one N f t R acc hm hok (by omega) hr, by omega, ?_⟩
  refine ⟨?_, ?_, ⟨rfl, rfl, rfl, rfl⟩, trivial⟩
  · show _ ≤ ((N - (formL t ++ R).length : Nat) : Int)
    omega
  · show ((N - (formL t ++ R).length : Nat) : Int) < _
    omega
theorem CutsTo.trans {N f : Nat} {T T' R : L8} {tight : Bool} {acc l l' : List Tk} (h : CutsTo N f T (T' ++ R) tight acc l) (h' : ∀ m t g, (T' ++ R).length < g → CutsTo N g T' R t (acc ++ m) l') : CutsTo N f (T ++ T') R tight acc (l ++ l') := by
  obtain ⟨m, t1, g, h1, h2, h3⟩ := h
  obtain ⟨m', t2, g', h4, h5, h6⟩ := h' m t1 g h2
  refine ⟨m ++ m', t2, g', ?_, h5, ?_⟩
  · rw [List.append_assoc, h1, h4, List.append_assoc]
  · have e : (T ++ T' ++ R) = T ++ (T' ++ R) := List.append_assoc _ _ _
    rw [e]
    have l1 : (T' ++ R).length = T'.length + R.length := List.length_append
    have l2 : (T ++ (T' ++ R)).length = T.length + (T' ++ R).length := List.length_append
    exact PlR.app h3 h6 (Int.le_refl _) (by omega) (by omega)
theorem cuts_sign (N f : Nat) (c : UInt8) (R : L8) (tight : Bool) (acc : List Tk) (hs : sgnB c = true) (hN : (c :: R).length ≤ N) (hf : (c :: R).length < f) : CutsTo N f [c] R tight acc [⟨5, 0, 0, [c], 0⟩] := by
  obtain ⟨f, rfl⟩ : ∃ g, f = g + 1 := ⟨f - 1, by omega⟩
  have hl : (c :: R).length = R.length + 1 := rfl
  refine ⟨_, _, f, cut_sign N f c R tight acc hs, by omega, ?_⟩
  refine ⟨?_, ?_, ⟨rfl, rfl, rfl, rfl⟩, trivial⟩
  · show ((N : Int) - (c :: R).length) ≤ ((N - (c :: R).length : Nat) : Int)
    omega
  · show ((N - (c :: R).length : Nat) : Int) < _
    omega
theorem textsT_word0 (l : List Va) (r : L8) : word0 (textsT l ++ 93 :: r) = false := by
  cases l with
  | nil => rfl
  | cons x l => simp [textsT]; rfl
theorem cuts_sign_then (N f : Nat) (c : UInt8) (T R : L8) (tight : Bool) (acc l : List Tk) (hs : sgnB c = true) (hN : (c :: T ++ R).length ≤ N) (h : CutsTo N f T R false (acc ++ [⟨5, ((N - (c :: (T ++ R)).length : Nat) : Int), 0, [c], 0⟩]) l) : CutsTo N (f + 1) (c :: T) R tight acc (⟨5, 0, 0, [c], 0⟩ :: l) := by
  obtain ⟨m, t, g, h1, h2, h3⟩ := h
  have hl : (c :: (T ++ R)).length = (T ++ R).length + 1 := rfl
  have hl2 : (c :: T ++ R).length = (T ++ R).length + 1 := rfl
  have hl3 : (T ++ R).length = T.length + R.length := List.length_append
  refine ⟨⟨5, ((N - (c :: (T ++ R)).length : Nat) : Int), 0, [c], 0⟩ :: m, t, g, ?_, h2, ?_⟩
  · show cutL N (f + 1) (c :: (T ++ R)) tight acc = _
    rw [cut_sign N f c (T ++ R) tight acc hs, h1]
    simp
  · refine ⟨?_, ?_, ⟨rfl, rfl, rfl, rfl⟩, h3.mono ?_⟩
    · show ((N : Int) - (c :: T ++ R).length) ≤ ((N - (c :: (T ++ R)).length : Nat) : Int)
      omega
    · show ((N - (c :: (T ++ R)).length : Nat) : Int) < _
      omega
    · show ((N - (c :: (T ++ R)).length : Nat) : Int) + 1 ≤ _
      omega
theorem cuts_blank_then (N f : Nat) (T R : L8) (tight : Bool) (acc l : List Tk) (h : CutsTo N f T R false acc l) : CutsTo N (f + 1) (32 :: T) R tight acc l := by
  obtain ⟨m, t, g, h1, h2, h3⟩ := h
  refine ⟨m, t, g, ?_, h2, h3.mono ?_⟩
  · show cutL N (f + 1) (32 :: (T ++ R)) tight acc = _
    rw [cutL_blank N f 32 (T ++ R) tight acc rfl, h1]
  · have hl2 : (32 :: T ++ R).length = (T ++ R).length + 1 := rfl
    omega
theorem cuts_nil (N f : Nat) (R : L8) (tight : Bool) (acc : List Tk) (hf : R.length < f) : CutsTo N f [] R tight acc [] := ⟨[], tight, f, by simp, hf, trivial⟩
mutual
theorem vcut : ∀ (x : Va) (q nest q' N f : Nat) (R : L8) (acc : List Tk), takeV x q nest = some q' → Fit x → word0 R = false → (textL x ++ R).length ≤ N → (textL x ++ R).length < f → CutsTo N f (textL x) R false acc (tksV x)
  | .mk k n s l r, q, nest, q', N, f, R, acc, h, hf, hR, hN, hff => by
    cases q with
    | zero => unfold takeV at h; cases h
    | succ q =>
    unfold Fit at hf
    by_cases k1 : k = 1
    · subst k1
      have e : textL (.mk 1 n s l r) = Lib.itoa n := by unfold textL; rfl
      have e2 : tksV (.mk 1 n s l r) = [⟨2, 0, n, [], 0⟩] := by unfold tksV; rfl
      rw [e] at hN hff ⊢
      rw [e2]
      exact cuts_leaf N f ⟨2, 0, n, [], 0⟩ _ R acc rfl rfl ⟨by simp, hf.1, by simp⟩ hR hN hff
    by_cases k2 : k = 2
    · subst k2
      have e : textL (.mk 2 n s l r) = quoteL s.data.toList := by unfold textL; rfl
      have e2 : tksV (.mk 2 n s l r) = [⟨3, 0, 0, s.data.toList, 0⟩] := by unfold tksV; rfl
      rw [e] at hN hff ⊢
      rw [e2]
      rw [takeV_2] at h
      by_cases hc : (decide ((s.size : Int) ≤ 256) && n == 0 && r == 0 && l.isEmpty) = true
      · simp only [Bool.and_eq_true, decide_eq_true_eq] at hc
        exact cuts_leaf N f ⟨3, 0, 0, s.data.toList, 0⟩ _ R acc rfl rfl ⟨by have := hc.1.1.1; simp; omega, by simp, by simp⟩ hR hN hff
      · rw [if_neg hc] at h; cases h
    by_cases k4 : k = 4
    · subst k4
      have e : textL (.mk 4 n s l r) = 35 :: Lib.itoa r := by unfold textL; rfl
      have e2 : tksV (.mk 4 n s l r) = [⟨4, 0, 0, [], r⟩] := by unfold tksV; rfl
      rw [e] at hN hff ⊢
      rw [e2]
      rw [takeV_4] at h
      by_cases hc : (decide (1 ≤ r) && n == 0 && s.toList.isEmpty && l.isEmpty) = true
      · simp only [Bool.and_eq_true, decide_eq_true_eq] at hc
        exact cuts_leaf N f ⟨4, 0, 0, [], r⟩ _ R acc rfl (by simp [tokMay, hc.1.1.1]) ⟨by simp, by simp, hf.2.1⟩ hR hN hff
      · rw [if_neg hc] at h; cases h
    by_cases k3 : k = 3
    · subst k3
      have e : textL (.mk 3 n s l r) = 91 :: (textsL l ++ [93]) := by unfold textL; rfl
      have e2 : tksV (.mk 3 n s l r) = ⟨5, 0, 0, [91], 0⟩ :: (tksVs l ++ [⟨5, 0, 0, [93], 0⟩]) := by unfold tksV; rfl
      rw [e] at hN hff ⊢
      rw [e2]
      cases nest with
      | zero => unfold takeV at h; cases h
      | succ nest =>
      obtain ⟨q2, h⟩ : ∃ q2, takeVs l q nest = some q2 := by
        rw [takeV_3] at h
        by_cases hc : q < l.length
        · rw [if_pos hc] at h; cases h
        · rw [if_neg hc] at h
          cases ht : takeVs l q nest with
          | none => rw [ht] at h; cases h
          | some q2 => exact ⟨q2, rfl⟩
      obtain ⟨f, rfl⟩ : ∃ g, f = g + 1 := ⟨f - 1, by omega⟩
      have hN' : (textsL l ++ [93] ++ R).length + 1 ≤ N := hN
      have hff' : (textsL l ++ [93] ++ R).length < f := by have : (91 :: (textsL l ++ [93]) ++ R).length = (textsL l ++ [93] ++ R).length + 1 := rfl; omega
      refine cuts_sign_then N f 91 _ R false acc _ (by decide) hN ?_
      have hr : [93] ++ R = 93 :: R := rfl
      have happ : textsL l ++ [93] ++ R = textsL l ++ 93 :: R := by simp
      rw [happ] at hN' hff'
      cases l with
      | nil => exact cuts_sign N f 93 R false _ (by decide) (by simp [textsL] at hN' ⊢; omega) (by simpa [textsL] using hff')
      | cons x l =>
        have e3 : textsL (x :: l) = textL x ++ textsT l := by unfold textsL; rfl
        rw [e3] at hN' hff' ⊢
        unfold takeVs at h
        unfold Fits at hf
        cases ht : takeV x q nest with
        | none => rw [ht] at h; cases h
        | some q1 =>
          rw [ht] at h
          have h : takeVs l q1 nest = some q2 := h
          have e4 : tksVs (x :: l) = tksV x ++ tksVs l := by rw [tksVs]
          rw [e4]
          have ha : textL x ++ textsT l ++ 93 :: R = textL x ++ (textsT l ++ 93 :: R) := by simp
          rw [ha] at hN' hff'
          refine CutsTo.trans (CutsTo.trans (vcut x q nest q1 N f _ _ ht hf.2.2.1 (textsT_word0 l R) (by rw [hr]; omega) (by rw [hr]; exact hff')) fun m t g hg => vscut l q1 nest q2 N g R t _ h hf.2.2.2 (by
            have : (textL x ++ (textsT l ++ 93 :: R)).length = (textL x).length + (textsT l ++ 93 :: R).length := List.length_append
            omega) hg) fun m t g hg => cuts_sign N g 93 R t _ (by decide) (by
            have h1 : (textL x ++ (textsT l ++ 93 :: R)).length = (textL x).length + (textsT l ++ 93 :: R).length := List.length_append
            have h2 : (textsT l ++ 93 :: R).length = (textsT l).length + (93 :: R).length := List.length_append
            omega) hg
    · have e : textL (.mk k n s l r) = [95] := by unfold textL; rw [if_neg k1, if_neg k2, if_neg k4, if_neg k3]
      have e2 : tksV (.mk k n s l r) = [⟨5, 0, 0, [95], 0⟩] := by unfold tksV; rw [if_neg k1, if_neg k2, if_neg k4, if_neg k3]
      rw [e] at hN hff ⊢
      rw [e2]
      exact cuts_sign N f 95 R false acc (by decide) hN hff
theorem vscut : ∀ (l : List Va) (q nest q' N f : Nat) (R : L8) (tight : Bool) (acc : List Tk), takeVs l q nest = some q' → Fits l → (textsT l ++ 93 :: R).length ≤ N → (textsT l ++ 93 :: R).length < f → CutsTo N f (textsT l) (93 :: R) tight acc (tksVs l)
  | [], q, nest, q', N, f, R, tight, acc, h, hf, hN, hff => by
    have e : textsT [] = [] := by unfold textsT; rfl
    have e2 : tksVs [] = [] := by unfold tksVs; rfl
    rw [e] at hff ⊢
    rw [e2]
    exact cuts_nil N f _ tight acc hff
  | x :: l, q, nest, q', N, f, R, tight, acc, h, hf, hN, hff => by
    have e : textsT (x :: l) = 32 :: (textL x ++ textsT l) := by rw [textsT]
    have e4 : tksVs (x :: l) = tksV x ++ tksVs l := by rw [tksVs]
    rw [e] at hN hff ⊢
    rw [e4]
    unfold takeVs at h
    unfold Fits at hf
    have hl0 : (32 :: (textL x ++ textsT l) ++ 93 :: R).length = (textL x).length + (textsT l ++ 93 :: R).length + 1 := by simp
    have hl1 : (textL x ++ (textsT l ++ 93 :: R)).length = (textL x).length + (textsT l ++ 93 :: R).length := List.length_append
    cases ht : takeV x q nest with
    | none => rw [ht] at h; cases h
    | some q1 =>
      rw [ht] at h
      have h : takeVs l q1 nest = some q' := h
      obtain ⟨f, rfl⟩ : ∃ g, f = g + 1 := ⟨f - 1, by omega⟩
      refine cuts_blank_then N f _ _ tight acc _ (CutsTo.trans (vcut x q nest q1 N f _ acc ht hf.1 (textsT_word0 l R) (by omega) (by omega)) fun m t g hg => vscut l q1 nest q' N g R t _ h hf.2 (by omega) hg)
end
end Go.Proofs.YtkhpfghehjcfoaaDoor
