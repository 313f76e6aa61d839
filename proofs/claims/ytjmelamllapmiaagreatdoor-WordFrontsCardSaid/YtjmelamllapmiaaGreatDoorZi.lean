/- Plain laws: a token's form is cut into the token. Plain laws: joined tokens are cut into them. Plain laws: the cut of a join; what is cut may be joined. Plain laws: what is cut may be joined, to a line no longer than the line and a blank a token. Plain laws: a value's text is cut into its tokens. Plain laws: the tokens of a value are cut out of its text; the taker makes the value of them. -/
import Derived.Test.YtjmelamllapmiaaGreatDoorZc
import Derived.Test.YtjmelamllapmiaaGreatDoorRa
import Derived.Test.YtjmelamllapmiaaGreatDoorXh
import Derived.Test.YtjmelamllapmiaaGreatDoorZt
namespace Go.Proofs.YtjmelamllapmiaaGreatDoor
open Go.RowKit

/-- Neither a letter nor a digit stands first. -/
def wordZ : L8 → Bool
  | [] => false
  | c :: _ => wordB c
/-- Does such a byte stand first? -/
def hd0 (q : UInt8 → Bool) : L8 → Bool
  | [] => false
  | c :: _ => q c
theorem tws (q : UInt8 → Bool) : ∀ (l r : L8), l.all q = true → hd0 q r = false → (l ++ r).takeWhile q = l ∧ (l ++ r).dropWhile q = r
  | [], [], _, _ => ⟨rfl, rfl⟩
  | [], c :: r, _, h => by
    have h : q c = false := h
    simp [h]
  | c :: l, r, h, hr => by
    simp only [List.all_cons, Bool.and_eq_true] at h
    obtain ⟨h1, h2⟩ := tws q l r h.2 hr
    simp only [List.cons_append, List.takeWhile, List.dropWhile, h.1]
    exact ⟨by rw [h1], h2⟩
theorem dig_wordZ {r : L8} (h : wordZ r = false) : hd0 digB r = false := by
  cases r with
  | nil => rfl
  | cons c t =>
    have h : wordB c = false := h
    unfold wordB at h
    simp only [Bool.or_eq_false_iff] at h
    exact h.2
theorem word_wordZ {r : L8} (h : wordZ r = false) : hd0 wordB r = false := by
  cases r with
  | nil => rfl
  | cons c t => exact h
theorem dec_numO (u : Nat) (neg : Bool) (h : u ≤ (if neg then 9223372036854775808 else 9223372036854775807)) (h0 : neg = true → 0 < u) : numO neg (Lib.decDigits u) = some (if neg then -(u : Int) else u) := by
  obtain ⟨h1, h2, h3, h4⟩ := dec_spec u u (Nat.le_refl _)
  unfold numO
  rw [if_neg, h1, if_pos h]
  intro hh
  rcases hh with hh | ⟨hh, hh2⟩
  · exact h3 hh
  · obtain ⟨c, ds, e1, e2, e3, e4, e5⟩ := dec_cons u
    rw [e1] at hh hh2
    simp only [List.head?_cons, Option.some.injEq] at hh
    obtain ⟨hu, hds⟩ := e4 hh
    subst hds
    rcases hh2 with hh2 | hh2
    · simp at hh2
    · have := h0 hh2; omega
theorem dig_lett {c : UInt8} (h : digB c = true) : lett c = false := by
  unfold digB at h
  unfold lett
  simp only [Bool.and_eq_true, decide_eq_true_eq] at h
  rw [Bool.and_eq_false_iff]
  left
  rw [decide_eq_false_iff_not]
  omega
theorem sgn_facts : ∀ c : Fin 256, sgnB (UInt8.ofNat c.val) = true → lett (UInt8.ofNat c.val) = false ∧ digB (UInt8.ofNat c.val) = false ∧ UInt8.ofNat c.val ≠ 45 ∧ UInt8.ofNat c.val ≠ 35 ∧ UInt8.ofNat c.val ≠ 34 ∧ UInt8.ofNat c.val ≠ 32 := by decide +kernel
theorem sgn_not {c : UInt8} (h : sgnB c = true) : lett c = false ∧ digB c = false ∧ c ≠ 45 ∧ c ≠ 35 ∧ c ≠ 34 ∧ c ≠ 32 := by
  have e : UInt8.ofNat c.toNat = c := by simp
  have := sgn_facts ⟨c.toNat, c.toNat_lt⟩
  simp only [e] at this
  exact this h
theorem tok_form (N : Nat) (a : Int) (t : Tk) (r : L8) (hm : tokMay t = true) (hok : TkOk t) (hN : t.s.length ≤ N) (hr : wordZ r = false) : tokL N a (formL t ++ r) = .ok { t with at_ := a } r := by
  obtain ⟨k, a0, n, s, q⟩ := t
  obtain ⟨hs, hn, hq⟩ := hok
  simp only at hs hn hq hN
  unfold tokMay at hm
  simp only at hm
  unfold formL
  simp only
  by_cases h1 : k = 1
  · subst h1
    rw [if_pos rfl] at hm
    rw [if_neg (by decide), if_neg (by decide), if_neg (by decide)]
    simp only [Bool.and_eq_true, beq_iff_eq] at hm
    obtain ⟨⟨rfl, rfl⟩, hnm⟩ := hm
    cases s with
    | nil => simp [nameB] at hnm
    | cons c u =>
      simp only [nameB, Bool.and_eq_true, decide_eq_true_eq] at hnm
      have hall : (c :: u).all wordB = true := by
        rw [List.all_cons, Bool.and_eq_true]
        refine ⟨by unfold wordB; rw [hnm.1.1]; rfl, hnm.1.2⟩
      obtain ⟨g1, g2⟩ := tws wordB (c :: u) r hall (word_wordZ hr)
      rw [tokL_letter N a (c :: u ++ r) c (u ++ r) rfl hnm.1.1, g1, g2, if_neg (by simp; omega)]
  by_cases h2 : k = 2
  · subst h2
    rw [if_neg (by decide), if_pos rfl] at hm
    rw [if_pos rfl]
    simp only [Bool.and_eq_true, beq_iff_eq, List.isEmpty_iff] at hm
    obtain ⟨rfl, rfl⟩ := hm
    by_cases hn0 : n < 0
    · obtain ⟨u, hu⟩ : ∃ u : Nat, n = -(u : Int) := ⟨n.natAbs, by omega⟩
      subst hu
      have hall := (dec_spec u u (Nat.le_refl _)).2.1
      obtain ⟨g1, g2⟩ := tws digB (Lib.decDigits u) r hall (dig_wordZ hr)
      rw [Lib.itoa_neg u (by omega), tokL_neg N a (45 :: Lib.decDigits u ++ r) 45 (Lib.decDigits u ++ r) rfl rfl, g1, g2, dec_numO u true (by simp; omega) (fun _ => by omega)]
      rfl
    · obtain ⟨u, hu⟩ : ∃ u : Nat, n = (u : Int) := ⟨n.toNat, by omega⟩
      subst hu
      have hall := (dec_spec u u (Nat.le_refl _)).2.1
      obtain ⟨g1, g2⟩ := tws digB (Lib.decDigits u) r hall (dig_wordZ hr)
      obtain ⟨c, ds, e1, e2, e3, e4, e5⟩ := dec_cons u
      rw [Lib.itoa_nonneg u]
      have hd : Lib.decDigits u ++ r = c :: (ds ++ r) := by rw [e1]; rfl
      rw [tokL_dig N a _ c (ds ++ r) hd (dig_lett e2) e2, g1, g2, dec_numO u false (by simp; omega) (fun h => by cases h)]
      rfl
  by_cases h3 : k = 3
  · subst h3
    rw [if_neg (by decide), if_neg (by decide), if_pos rfl] at hm
    rw [if_neg (by decide), if_pos rfl]
    simp only [Bool.and_eq_true, beq_iff_eq] at hm
    obtain ⟨rfl, rfl⟩ := hm
    have e : quoteL s ++ r = 34 :: (qbs s ++ 34 :: r) := by unfold quoteL; simp
    rw [e]
    have hq := qa_qbs N r s [] (by simpa using hN)
    simp only [tokL]
    rw [if_neg (by decide), if_neg (by decide), if_neg (by decide), if_neg (by decide), if_pos trivial, hq]
    rfl
  by_cases h4 : k = 4
  · subst h4
    rw [if_neg (by decide), if_neg (by decide), if_neg (by decide), if_pos rfl] at hm
    rw [if_neg (by decide), if_neg (by decide), if_pos rfl]
    simp only [Bool.and_eq_true, beq_iff_eq, List.isEmpty_iff, decide_eq_true_eq] at hm
    obtain ⟨⟨rfl, rfl⟩, hq1⟩ := hm
    obtain ⟨u, hu⟩ : ∃ u : Nat, q = (u : Int) := ⟨q.toNat, by omega⟩
    subst hu
    have hall := (dec_spec u u (Nat.le_refl _)).2.1
    obtain ⟨g1, g2⟩ := tws digB (Lib.decDigits u) r hall (dig_wordZ hr)
    rw [Lib.itoa_nonneg u]
    simp only [List.cons_append, tokL]
    rw [if_neg (by decide), if_neg (by decide), if_neg (by decide), if_pos trivial, g1, g2, dec_numO u false (by simp; omega) (fun h => by cases h)]
    have hu1 : ¬ ((u : Int) < 1) := by omega
    simp [hu1]
  by_cases h5 : k = 5
  · subst h5
    rw [if_neg (by decide), if_neg (by decide), if_neg (by decide), if_neg (by decide), if_pos rfl] at hm
    rw [if_neg (by decide), if_neg (by decide), if_neg (by decide)]
    simp only [Bool.and_eq_true, beq_iff_eq] at hm
    obtain ⟨⟨rfl, rfl⟩, hos⟩ := hm
    match s, hos with
    | [c], hos =>
      have hos : sgnB c = true := hos
      obtain ⟨f1, f2, f3, f4, f5, -⟩ := sgn_not hos
      simp only [List.cons_append, List.nil_append, tokL]
      rw [if_neg (by rw [f1]; decide), if_neg (by rw [f2]; decide), if_neg f3, if_neg f4, if_neg f5, if_pos hos]
  · rw [if_neg h1, if_neg h2, if_neg h3, if_neg h4, if_neg h5] at hm
    cases hm
end Go.Proofs.YtjmelamllapmiaaGreatDoor
namespace Go.Proofs.YtjmelamllapmiaaGreatDoor
open Go.RowKit


/-- The tokens m are l's but for their places, which rise and lie below n. -/
def Placed (m l : List Tk) (n : Nat) : Prop :=
  m.length = l.length ∧ (∀ (i : Nat) (hi : i < m.length), 0 ≤ m[i].at_ ∧ m[i].at_ < n) ∧ (∀ (i : Nat) (hi : i + 1 < m.length), m[i].at_ < m[i + 1].at_) ∧
    ∀ (i : Nat) (hi : i < m.length) (hi' : i < l.length), m[i].k = l[i].k ∧ m[i].n = l[i].n ∧ m[i].s = l[i].s ∧ m[i].r = l[i].r
/-- The tokens m are l's but for their places, which rise from lo on and lie below N. -/
def PlR (N : Int) : Int → List Tk → List Tk → Prop
  | _, [], [] => True
  | lo, x :: m, t :: l => lo ≤ x.at_ ∧ x.at_ < N ∧ (x.k = t.k ∧ x.n = t.n ∧ x.s = t.s ∧ x.r = t.r) ∧ PlR N (x.at_ + 1) m l
  | _, _, _ => False
theorem PlR.mono {N : Int} : ∀ {m l : List Tk} {lo lo' : Int}, lo' ≤ lo → PlR N lo m l → PlR N lo' m l
  | [], [], _, _, _, _ => trivial
  | x :: m, t :: l, lo, lo', h, ⟨h1, h2, h3, h4⟩ => ⟨by omega, h2, h3, h4⟩
  | [], _ :: _, _, _, _, h => h
  | _ :: _, [], _, _, _, h => h
theorem PlR.length {N : Int} : ∀ {m l : List Tk} {lo : Int}, PlR N lo m l → m.length = l.length
  | [], [], _, _ => rfl
  | x :: m, t :: l, _, h => by simp [PlR.length h.2.2.2]
  | [], _ :: _, _, h => h.elim
  | _ :: _, [], _, h => h.elim
theorem PlR.get {N : Int} : ∀ {m l : List Tk} {lo : Int}, PlR N lo m l → ∀ (i : Nat) (hi : i < m.length), lo ≤ m[i].at_ ∧ m[i].at_ < N ∧ (∀ hi' : i < l.length, m[i].k = l[i].k ∧ m[i].n = l[i].n ∧ m[i].s = l[i].s ∧ m[i].r = l[i].r)
  | [], [], _, _, i, hi => absurd hi (by simp)
  | x :: m, t :: l, lo, h, 0, hi => ⟨h.1, h.2.1, fun _ => h.2.2.1⟩
  | x :: m, t :: l, lo, h, i + 1, hi => by
    obtain ⟨g1, g2, g3⟩ := PlR.get h.2.2.2 i (by simpa using hi)
    have := h.1
    exact ⟨by simp only [List.getElem_cons_succ]; omega, by simpa using g2, fun hi' => by simpa using g3 (by simpa using hi')⟩
  | [], _ :: _, _, h, _, _ => h.elim
  | _ :: _, [], _, h, _, _ => h.elim
theorem PlR.rise {N : Int} : ∀ {m l : List Tk} {lo : Int}, PlR N lo m l → ∀ (i : Nat) (hi : i + 1 < m.length), m[i].at_ < m[i + 1].at_
  | [], [], _, _, i, hi => absurd hi (by simp)
  | x :: m, t :: l, lo, h, 0, hi => by
    have := (PlR.get h.2.2.2 0 (by simpa using hi)).1
    simp only [List.getElem_cons_zero, List.getElem_cons_succ]
    omega
  | x :: m, t :: l, lo, h, i + 1, hi => by
    have := PlR.rise h.2.2.2 i (by simpa using hi)
    simpa using this
  | [], _ :: _, _, h, _, _ => h.elim
  | _ :: _, [], _, h, _, _ => h.elim
theorem PlR.placed {N : Nat} {m l : List Tk} (h : PlR (N : Int) 0 m l) : Placed m l N :=
  ⟨h.length, fun i hi => ⟨(h.get i hi).1, (h.get i hi).2.1⟩, fun i hi => h.rise i hi, fun i hi hi' => (h.get i hi).2.2 hi'⟩
/-- The forms, a blank ahead of each. -/
def tailF : List Tk → L8
  | [] => []
  | t :: l => 32 :: (formL t ++ tailF l)
theorem tailF_wordZ (l : List Tk) : wordZ (tailF l) = false := by cases l <;> rfl
theorem itoa_hd (n : Int) : ∃ c u, Lib.itoa n = c :: u ∧ c ≠ 32 := by
  by_cases hn : n < 0
  · obtain ⟨u, hu⟩ : ∃ u : Nat, n = -(u : Int) := ⟨n.natAbs, by omega⟩
    subst hu
    exact ⟨45, _, Lib.itoa_neg u (by omega), by decide⟩
  · obtain ⟨u, hu⟩ : ∃ u : Nat, n = (u : Int) := ⟨n.toNat, by omega⟩
    subst hu
    obtain ⟨c, ds, e1, e2, -⟩ := dec_cons u
    exact ⟨c, ds, by rw [Lib.itoa_nonneg u, e1], by rintro rfl; exact absurd e2 (by decide)⟩
theorem form_hd (t : Tk) (hm : tokMay t = true) : ∃ c u, formL t = c :: u ∧ c ≠ 32 := by
  unfold tokMay at hm
  unfold formL
  by_cases h2 : t.k = 2
  · rw [if_pos h2]; exact itoa_hd _
  by_cases h3 : t.k = 3
  · rw [if_neg h2, if_pos h3]; exact ⟨34, _, rfl, by decide⟩
  by_cases h4 : t.k = 4
  · rw [if_neg h2, if_neg h3, if_pos h4]; exact ⟨35, _, rfl, by decide⟩
  rw [if_neg h2, if_neg h3, if_neg h4]
  by_cases h1 : t.k = 1
  · rw [if_pos h1] at hm
    simp only [Bool.and_eq_true] at hm
    cases hs : t.s with
    | nil => rw [hs] at hm; simp [nameB] at hm
    | cons c u =>
      rw [hs] at hm
      have h := hm.2
      simp only [nameB, Bool.and_eq_true] at h
      exact ⟨c, u, rfl, by rintro rfl; exact absurd h.1.1 (by decide)⟩
  by_cases h5 : t.k = 5
  · rw [if_neg h1, if_neg h2, if_neg h3, if_neg h4, if_pos h5] at hm
    simp only [Bool.and_eq_true] at hm
    have h := hm.2
    match hs : t.s, h with
    | [c], h => exact ⟨c, [], rfl, (sgn_not h).2.2.2.2.2⟩
  · rw [if_neg h1, if_neg h2, if_neg h3, if_neg h4, if_neg h5] at hm
    cases hm
/-- One token, at the front, where nothing is tight. -/
theorem cut_one (N f : Nat) (t : Tk) (r : L8) (acc : List Tk) (hm : tokMay t = true) (hok : TkOk t) (hN : t.s.length ≤ N) (hr : wordZ r = false) : cutL N (f + 1) (formL t ++ r) false acc = cutL N f r (decide (t.k ≠ 5)) (acc ++ [{ t with at_ := ((N - (formL t ++ r).length : Nat) : Int) }]) := by
  obtain ⟨c, u, e, hc⟩ := form_hd t hm
  have h := tok_form N ((N - (formL t ++ r).length : Nat) : Int) t r hm hok hN hr
  rw [e] at h ⊢
  simp only [List.cons_append] at h ⊢
  rw [cutL_tok N f c (u ++ r) false acc hc (by simp), h]
theorem cut_tail (N : Nat) : ∀ (l : List Tk) (f : Nat) (tight : Bool) (acc : List Tk), (∀ t ∈ l, tokMay t = true ∧ TkOk t ∧ t.s.length ≤ N) → (tailF l).length < f → (tailF l).length ≤ N →
    ∃ m, cutL N f (tailF l) tight acc = .ok (acc ++ m) [] ∧ PlR N ((N : Int) - (tailF l).length) m l
  | [], f, tight, acc, _, hf, _ => by
    obtain ⟨f, rfl⟩ : ∃ g, f = g + 1 := ⟨f - 1, by omega⟩
    exact ⟨[], by simp [tailF, cutL], trivial⟩
  | t :: l, f, tight, acc, hl, hf, hN => by
    obtain ⟨hm, hok, hs⟩ := hl t (by simp)
    obtain ⟨c, u, e, hc⟩ := form_hd t hm
    have hlen : (tailF (t :: l)).length = 1 + ((formL t).length + (tailF l).length) := by simp [tailF]; omega
    have hf1 : 1 ≤ (formL t).length := by rw [e]; simp
    rw [hlen] at hf hN
    obtain ⟨f, rfl⟩ : ∃ g, f = g + 2 := ⟨f - 2, by omega⟩
    obtain ⟨m, h1, h2⟩ := cut_tail N l f (decide (t.k ≠ 5)) (acc ++ [{ t with at_ := ((N - (formL t ++ tailF l).length : Nat) : Int) }]) (fun x hx => hl x (by simp [hx])) (by omega) (by omega)
    refine ⟨{ t with at_ := ((N - (formL t ++ tailF l).length : Nat) : Int) } :: m, ?_, ?_⟩
    · show cutL N (f + 1 + 1) (32 :: (formL t ++ tailF l)) tight acc = _
      rw [cutL_blank N (f + 1) 32 _ tight acc rfl, cut_one N f t _ acc hm hok hs (tailF_wordZ l), h1]
      simp
    · rw [hlen]
      have hl2 : (formL t ++ tailF l).length = (formL t).length + (tailF l).length := List.length_append
      refine ⟨?_, ?_, ⟨rfl, rfl, rfl, rfl⟩, h2.mono ?_⟩
      · show _ ≤ ((N - (formL t ++ tailF l).length : Nat) : Int)
        omega
      · show ((N - (formL t ++ tailF l).length : Nat) : Int) < _
        omega
      · show ((N - (formL t ++ tailF l).length : Nat) : Int) + 1 ≤ _
        omega
end Go.Proofs.YtjmelamllapmiaaGreatDoor
namespace Go.Proofs.YtjmelamllapmiaaGreatDoor
open Go.RowKit

theorem joinG_eq : ∀ (l : List Tk) (b s : L8), joinG false b l = some s → s = b ++ tailF l ∧ (b.length ≤ 1048576 → s.length ≤ 1048576)
  | [], b, s, h => by
    simp only [joinG, Option.some.injEq] at h
    subst h
    exact ⟨by simp [tailF], id⟩
  | t :: l, b, s, h => by
    rw [joinG] at h
    by_cases hc : 1048576 < (b ++ ((if false = true then [] else [32]) ++ formL t)).length
    · rw [if_pos hc] at h; cases h
    · rw [if_neg hc] at h
      obtain ⟨h1, h2⟩ := joinG_eq l _ s h
      exact ⟨by rw [h1]; simp [tailF], fun _ => h2 (by omega)⟩
theorem joinG_ok : ∀ (l : List Tk) (b : L8), (b ++ tailF l).length ≤ 1048576 → joinG false b l = some (b ++ tailF l)
  | [], b, _ => by simp [joinG, tailF]
  | t :: l, b, h => by
    have e : b ++ tailF (t :: l) = (b ++ ((if false = true then [] else [32]) ++ formL t)) ++ tailF l := by simp [tailF]
    rw [joinG, if_neg, joinG_ok l _ (by rw [← e]; exact h), e]
    rw [e, List.length_append] at h
    omega
theorem qbs_ge (l : L8) : l.length ≤ (qbs l).length := by
  induction l with
  | nil => simp [qbs]
  | cons c t ih => have := (qb_len c).1; simp [qbs]; omega
theorem form_s (t : Tk) (hm : tokMay t = true) : t.s.length ≤ (formL t).length := by
  unfold tokMay at hm
  unfold formL
  by_cases h2 : t.k = 2
  · rw [if_neg (by omega), if_pos h2] at hm
    simp only [Bool.and_eq_true, List.isEmpty_iff] at hm
    rw [hm.1]; simp
  by_cases h3 : t.k = 3
  · rw [if_neg h2, if_pos h3]
    have := qbs_ge t.s
    unfold quoteL
    simp
    omega
  by_cases h4 : t.k = 4
  · rw [if_neg (by omega), if_neg h2, if_neg h3, if_pos h4] at hm
    simp only [Bool.and_eq_true, List.isEmpty_iff] at hm
    rw [hm.1.2]; simp
  rw [if_neg h2, if_neg h3, if_neg h4]
  exact Nat.le_refl _
theorem tailF_mem : ∀ (l : List Tk) (t : Tk), t ∈ l → (formL t).length ≤ (tailF l).length
  | x :: l, t, h => by
    rcases List.mem_cons.1 h with rfl | h
    · simp [tailF]; omega
    · have := tailF_mem l t h
      simp [tailF]; omega
theorem txtV_size (s : L8) : (txtV s).size = s.length := rfl
theorem join_cut (l : List Tk) (hok : ∀ t ∈ l, TkOk t) (s : L8) (h : joinR l = (s, 0)) : s.length ≤ 1048576 ∧ ∃ m, cutR (txtV s) = .ok m [] ∧ Placed m l s.length := by
  unfold joinR at h
  by_cases ha : l.all tokMay = true
  · rw [if_pos ha] at h
    have hmay := fun t ht => List.all_eq_true.1 ha t ht
    have hcut : cutR (txtV s) = cutL s.length (s.length + 1) s false [] := rfl
    cases l with
    | nil =>
      simp only [joinG, joinO, Prod.mk.injEq] at h
      obtain ⟨rfl, -⟩ := h
      exact ⟨by simp, [], by rw [hcut]; rfl, rfl, fun i hi => absurd hi (by simp), fun i hi => absurd hi (by simp), fun i hi => absurd hi (by simp)⟩
    | cons t l =>
      rw [joinG] at h
      by_cases hc : 1048576 < ([] ++ ((if true = true then [] else [32]) ++ formL t)).length
      · rw [if_pos hc] at h
        simp only [joinO, Prod.mk.injEq] at h
        exact absurd h.2 (by decide)
      · rw [if_neg hc] at h
        cases hG : joinG false ([] ++ ((if true = true then [] else [32]) ++ formL t)) l with
        | none =>
          rw [hG] at h
          simp only [joinO, Prod.mk.injEq] at h
          exact absurd h.2 (by decide)
        | some s' =>
          rw [hG] at h
          simp only [joinO, Prod.mk.injEq, and_true] at h
          subst h
          obtain ⟨h1, h2⟩ := joinG_eq l _ _ hG
          have h1 : s' = formL t ++ tailF l := by simpa using h1
          have hlen : s'.length = (formL t).length + (tailF l).length := by rw [h1, List.length_append]
          have hm := hmay t (by simp)
          have hN : ∀ x ∈ t :: l, tokMay x = true ∧ TkOk x ∧ x.s.length ≤ s'.length := fun x hx => by
            refine ⟨hmay x hx, hok x hx, ?_⟩
            have g1 := form_s x (hmay x hx)
            rcases List.mem_cons.1 hx with rfl | hx'
            · omega
            · have := tailF_mem l x hx'; omega
          obtain ⟨m, g1, g2⟩ := cut_tail s'.length l s'.length (decide (t.k ≠ 5)) ([] ++ [{ t with at_ := ((s'.length - (formL t ++ tailF l).length : Nat) : Int) }]) (fun x hx => hN x (by simp [hx])) (by
            obtain ⟨c, u, e, -⟩ := form_hd t hm
            have : 1 ≤ (formL t).length := by rw [e]; simp
            omega) (by omega)
          have hcut1 : cutL s'.length (s'.length + 1) s' false [] = .ok ({ t with at_ := ((s'.length - (formL t ++ tailF l).length : Nat) : Int) } :: m) [] := by
            have e := cut_one s'.length s'.length t (tailF l) [] hm (hN t (by simp)).2.1 (hN t (by simp)).2.2 (tailF_wordZ l)
            rw [g1, ← h1] at e
            rw [e, ← h1]
            rfl
          refine ⟨h2 (by omega), { t with at_ := ((s'.length - (formL t ++ tailF l).length : Nat) : Int) } :: m, by rw [hcut]; exact hcut1, PlR.placed ?_⟩
          refine ⟨?_, ?_, ⟨rfl, rfl, rfl, rfl⟩, g2.mono ?_⟩
          all_goals
            have hf : 1 ≤ (formL t).length := by
              obtain ⟨c, u, e, -⟩ := form_hd t hm
              rw [e]; simp
            have e0 : (formL t ++ tailF l).length = s'.length := by rw [← h1]
          · show (0 : Int) ≤ ((s'.length - (formL t ++ tailF l).length : Nat) : Int)
            omega
          · show ((s'.length - (formL t ++ tailF l).length : Nat) : Int) < s'.length
            omega
          · show ((s'.length - (formL t ++ tailF l).length : Nat) : Int) + 1 ≤ _
            omega
  · rw [if_neg ha] at h
    simp only [Prod.mk.injEq] at h
    exact absurd h.2 (by decide)
end Go.Proofs.YtjmelamllapmiaaGreatDoor
namespace Go.Proofs.YtjmelamllapmiaaGreatDoor
open Go.RowKit

theorem tws_split (q : UInt8 → Bool) : ∀ l : L8, l = l.takeWhile q ++ l.dropWhile q ∧ (l.takeWhile q).all q = true
  | [] => ⟨rfl, rfl⟩
  | c :: l => by
    obtain ⟨h1, h2⟩ := tws_split q l
    by_cases hc : q c = true
    · simp only [List.takeWhile, List.dropWhile, hc, List.cons_append, List.all_cons, h2, Bool.and_self, and_true]
      exact congrArg (c :: ·) h1
    · have hc : q c = false := by simpa using hc
      simp [List.takeWhile, List.dropWhile, hc]
theorem numO_inv (neg : Bool) (d : L8) (n : Int) (hall : d.all digB = true) (h : numO neg d = some n) : Lib.decDigits (valD 0 d) = d ∧ (if neg then n = -(valD 0 d : Int) ∧ 0 < valD 0 d ∧ valD 0 d ≤ 9223372036854775808 else n = (valD 0 d : Int) ∧ valD 0 d ≤ 9223372036854775807) := by
  unfold numO at h
  by_cases hc : d = [] ∨ (d.head? = some 48 ∧ (1 < d.length ∨ neg = true))
  · rw [if_pos hc] at h; cases h
  rw [if_neg hc] at h
  have hne : d ≠ [] := fun e => hc (.inl e)
  have hd : d.head? = some 48 → d = [48] ∧ neg = false := fun e => by
    have h1 : ¬ (1 < d.length ∨ neg = true) := fun e2 => hc (.inr ⟨e, e2⟩)
    cases d with
    | nil => exact absurd rfl hne
    | cons c u =>
      simp only [List.head?_cons, Option.some.injEq] at e
      cases u with
      | nil => exact ⟨by rw [e], by cases neg <;> simp_all⟩
      | cons => simp at h1
  have hdec := dec_inv d.length d (Nat.le_refl _) hall hne (fun e => (hd e).1)
  refine ⟨hdec, ?_⟩
  cases neg with
  | false =>
    simp only [Bool.false_eq_true, if_false] at h ⊢
    by_cases hv : valD 0 d ≤ 9223372036854775807
    · rw [if_pos hv] at h
      injection h with h
      exact ⟨h.symm, hv⟩
    · rw [if_neg hv] at h; cases h
  | true =>
    simp only [if_true] at h ⊢
    by_cases hv : valD 0 d ≤ 9223372036854775808
    · rw [if_pos hv] at h
      injection h with h
      refine ⟨h.symm, ?_, hv⟩
      cases d with
      | nil => exact absurd rfl hne
      | cons c u =>
        have h48 : c ≠ 48 := fun e => by have := (hd (by rw [e]; rfl)).2; cases this
        have hcd : digB c = true := by simp only [List.all_cons, Bool.and_eq_true] at hall; exact hall.1
        simp only [digB, Bool.and_eq_true, decide_eq_true_eq] at hcd
        have hcn : c.toNat ≠ 48 := fun e => h48 (UInt8.toNat_inj.1 e)
        rw [valD_cons]
        have := valD_ge u (0 * 10 + (c.toNat - 48))
        omega
    · rw [if_neg hv] at h; cases h
theorem tok_inv (most : Nat) (hmost : most ≤ 1073741824) (a : Int) (l : L8) (k : Tk) (r : L8) (h : tokL most a l = .ok k r) : tokMay k = true ∧ TkOk k ∧ l = formL k ++ r := by
  cases l with
  | nil => simp [tokL] at h
  | cons c t =>
    by_cases h1 : lett c = true
    · rw [tokL_letter most a (c :: t) c t rfl h1] at h
      obtain ⟨g1, g2⟩ := tws_split wordB (c :: t)
      by_cases hl : 32 < ((c :: t).takeWhile wordB).length
      · rw [if_pos hl] at h; cases h
      · rw [if_neg hl] at h
        injection h with e1 e2
        subst e1 e2
        have hw : wordB c = true := by unfold wordB; rw [h1]; rfl
        have e : (c :: t).takeWhile wordB = c :: t.takeWhile wordB := by simp [List.takeWhile, hw]
        refine ⟨?_, ⟨by show ((c :: t).takeWhile wordB).length ≤ _; omega, by simp, by simp⟩, ?_⟩
        · unfold tokMay
          simp only [if_true]
          rw [e] at hl g2 ⊢
          simp only [List.all_cons, Bool.and_eq_true] at g2
          simp only [beq_self_eq_true, Bool.and_self, Bool.true_and, nameB, h1, Bool.and_eq_true, decide_eq_true_eq]
          exact ⟨g2.2, by simp at hl; omega⟩
        · unfold formL
          simp only
          rw [if_neg (by decide), if_neg (by decide), if_neg (by decide)]
          exact g1
    have h1 : lett c = false := by simpa using h1
    by_cases h2 : digB c = true
    · rw [tokL_dig most a (c :: t) c t rfl h1 h2] at h
      obtain ⟨g1, g2⟩ := tws_split digB (c :: t)
      cases hn : numO false ((c :: t).takeWhile digB) with
      | none => rw [hn] at h; cases h
      | some n =>
        rw [hn] at h
        injection h with e1 e2
        subst e1 e2
        obtain ⟨f1, f2⟩ := numO_inv false _ n g2 hn
        simp only [Bool.false_eq_true, if_false] at f2
        obtain ⟨rfl, f3⟩ := f2
        refine ⟨rfl, ⟨by simp, by simp only; omega, by simp⟩, ?_⟩
        unfold formL
        simp only [if_true]
        rw [Lib.itoa_nonneg, f1]
        exact g1
    have h2 : digB c = false := by simpa using h2
    by_cases h3 : c = 45
    · rw [tokL_neg most a (c :: t) c t rfl h3] at h
      obtain ⟨g1, g2⟩ := tws_split digB t
      cases hn : numO true (t.takeWhile digB) with
      | none => rw [hn] at h; cases h
      | some n =>
        rw [hn] at h
        injection h with e1 e2
        subst e1 e2
        obtain ⟨f1, f2⟩ := numO_inv true _ n g2 hn
        simp only [if_true] at f2
        obtain ⟨rfl, f3, f4⟩ := f2
        refine ⟨rfl, ⟨by simp, by simp only; omega, by simp⟩, ?_⟩
        unfold formL
        simp only [if_true]
        rw [Lib.itoa_neg _ f3, f1, h3]
        exact congrArg (45 :: ·) g1
    by_cases h4 : c = 35
    · subst h4
      simp only [tokL] at h
      rw [if_neg (by decide), if_neg (by decide), if_neg (by decide), if_pos trivial] at h
      obtain ⟨g1, g2⟩ := tws_split digB t
      cases hn : numO false (t.takeWhile digB) with
      | none => rw [hn] at h; cases h
      | some n =>
        rw [hn] at h
        simp only at h
        by_cases hn1 : n < 1
        · rw [if_pos hn1] at h; cases h
        rw [if_neg hn1] at h
        injection h with e1 e2
        subst e1 e2
        obtain ⟨f1, f2⟩ := numO_inv false _ n g2 hn
        simp only [Bool.false_eq_true, if_false] at f2
        obtain ⟨rfl, f3⟩ := f2
        refine ⟨by simp [tokMay]; omega, ⟨by simp, by simp, by simp only; omega⟩, ?_⟩
        unfold formL
        simp only
        rw [if_neg (by decide), if_neg (by decide), if_pos trivial, Lib.itoa_nonneg, f1]
        exact congrArg (35 :: ·) g1
    by_cases h5 : c = 34
    · subst h5
      simp only [tokL] at h
      rw [if_neg (by decide), if_neg (by decide), if_neg (by decide), if_neg (by decide), if_pos trivial] at h
      cases hq : qa most .run t [] with
      | no t' => rw [hq] at h; cases h
      | ok b r' =>
        rw [hq] at h
        injection h with e1 e2
        subst e1 e2
        obtain ⟨x, f1, f2, f3, f4⟩ := qa_inv most t.length t [] b r' (Nat.le_refl _) hq
        have f1 : b = x := by simpa using f1
        subst f1
        have f4 := f4 (by simp)
        refine ⟨rfl, ⟨by simp at f4; simp only; omega, by simp, by simp⟩, ?_⟩
        unfold formL quoteL
        simp only
        rw [if_neg (by decide), if_pos trivial, f2]
        simp
    simp only [tokL] at h
    rw [if_neg (by rw [h1]; decide), if_neg (by rw [h2]; decide), if_neg h3, if_neg h4, if_neg h5] at h
    by_cases h6 : sgnB c = true
    · rw [if_pos h6] at h
      injection h with e1 e2
      subst e1 e2
      refine ⟨?_, ⟨by simp, by simp, by simp⟩, ?_⟩
      · unfold tokMay
        simp only
        rw [if_neg (by decide), if_neg (by decide), if_neg (by decide), if_neg (by decide), if_pos trivial]
        simp only [beq_self_eq_true, Bool.and_self, Bool.true_and]
        exact h6
      · unfold formL
        simp only
        rw [if_neg (by decide), if_neg (by decide), if_neg (by decide)]
        rfl
    · rw [if_neg h6] at h; cases h
theorem cut_inv (N : Nat) (hN : N ≤ 1073741824) : ∀ (f : Nat) (T : L8) (tight : Bool) (acc res : List Tk) (r : L8), cutL N f T tight acc = .ok res r →
    ∃ m, res = acc ++ m ∧ (∀ t ∈ m, tokMay t = true ∧ TkOk t) ∧ (tailF m).length ≤ T.length + m.length
  | 0, T, tight, acc, res, r, h => by simp [cutL] at h
  | f + 1, [], tight, acc, res, r, h => by
    simp only [cutL, Rs.ok.injEq] at h
    exact ⟨[], by simp [h.1], fun t ht => absurd ht (by simp), by simp [tailF]⟩
  | f + 1, c :: T, tight, acc, res, r, h => by
    by_cases h32 : c = 32
    · rw [cutL_blank N f c T tight acc h32] at h
      obtain ⟨m, h1, h2, h3⟩ := cut_inv N hN f T false acc res r h
      exact ⟨m, h1, h2, by simp; omega⟩
    by_cases hb : tight = true ∧ sgnB c = false
    · rw [cutL_bad N f c T tight acc h32 hb] at h; cases h
    rw [cutL_tok N f c T tight acc h32 hb] at h
    cases ht : tokL N ((N - (c :: T).length : Nat) : Int) (c :: T) with
    | no r' => rw [ht] at h; cases h
    | ok k r' =>
      rw [ht] at h
      obtain ⟨g1, g2, g3⟩ := tok_inv N hN _ _ k r' ht
      obtain ⟨m, h1, h2, h3⟩ := cut_inv N hN f r' _ (acc ++ [k]) res r h
      refine ⟨k :: m, by rw [h1]; simp, fun t ht => ?_, ?_⟩
      · rcases List.mem_cons.1 ht with rfl | ht
        · exact ⟨g1, g2⟩
        · exact h2 t ht
      · have : (c :: T).length = (formL k).length + r'.length := by rw [g3, List.length_append]
        rw [this]
        simp [tailF]
        omega
/-- What was cut out of a line may be joined. -/
theorem cut_join (s : ByteArray) (hs : s.size ≤ 500000) (m : List Tk) (r : L8) (h : cutR s = .ok m r) : ∃ t, joinR m = (t, 0) ∧ t.length ≤ s.size + m.length ∧ ∀ x ∈ m, TkOk x := by
  obtain ⟨m', h1, h2, h3⟩ := cut_inv s.size (by omega) _ _ _ _ _ _ h
  have h1 : m = m' := by simpa using h1
  subst h1
  have hsz : s.data.toList.length = s.size := by simp
  rw [hsz] at h3
  have hml : m.length ≤ s.size + 1 := by
    have h9 := cutL_len _ _ _ _ _ _ _ h
    simp only [List.length_nil] at h9
    omega
  have hall : m.all tokMay = true := List.all_eq_true.2 fun x hx => (h2 x hx).1
  unfold joinR
  rw [if_pos hall]
  cases m with
  | nil => exact ⟨[], rfl, by simp, fun x hx => absurd hx (by simp)⟩
  | cons t l =>
    have hl : (formL t ++ tailF l).length + 1 = (tailF (t :: l)).length := by simp [tailF]
    refine ⟨formL t ++ tailF l, ?_, by omega, fun x hx => (h2 x hx).2⟩
    rw [joinG, if_neg]
    · have e := joinG_ok l ([] ++ ((if true = true then [] else [32]) ++ formL t)) (by
        simp only [if_true, List.nil_append]
        omega)
      rw [e]
      simp [joinO]
    · simp only [if_true, List.nil_append]
      have : (formL t).length ≤ (formL t ++ tailF l).length := by simp
      omega
end Go.Proofs.YtjmelamllapmiaaGreatDoor
namespace Go.Proofs.YtjmelamllapmiaaGreatDoor
open Go.RowKit

mutual
/-- A value's tokens, without their places. -/
def tksV : Va → List Tk
  | .mk k n s l r => if k = 1 then [⟨2, 0, n, [], 0⟩] else if k = 2 then [⟨3, 0, 0, s.data.toList, 0⟩] else if k = 4 then [⟨4, 0, 0, [], r⟩] else if k = 3 then ⟨5, 0, 0, [91], 0⟩ :: (tksVs l ++ [⟨5, 0, 0, [93], 0⟩]) else [⟨5, 0, 0, [95], 0⟩]
def tksVs : List Va → List Tk
  | [] => []
  | x :: l => tksV x ++ tksVs l
end
theorem PlR.app {U1 U : Int} : ∀ {m l : List Tk} {lo lo2 : Int} {m' l' : List Tk}, PlR U1 lo m l → PlR U lo2 m' l' → U1 ≤ lo2 → lo ≤ lo2 → U1 ≤ U → PlR U lo (m ++ m') (l ++ l')
  | [], [], lo, lo2, m', l', _, h2, _, h4, _ => h2.mono h4
  | x :: m, t :: l, lo, lo2, m', l', ⟨g1, g2, g3, g4⟩, h2, h3, h4, h5 => ⟨g1, by omega, g3, PlR.app g4 h2 h3 (by omega) h5⟩
  | [], _ :: _, _, _, _, _, h, _, _, _, _ => h.elim
  | _ :: _, [], _, _, _, _, h, _, _, _, _ => h.elim
theorem cut_sign (N f : Nat) (c : UInt8) (r : L8) (tight : Bool) (acc : List Tk) (hs : sgnB c = true) : cutL N (f + 1) (c :: r) tight acc = cutL N f r false (acc ++ [⟨5, ((N - (c :: r).length : Nat) : Int), 0, [c], 0⟩]) := by
  obtain ⟨f1, f2, f3, f4, f5, f6⟩ := sgn_not hs
  rw [cutL_tok N f c r tight acc f6 (by rw [hs]; simp)]
  have h : tokL N ((N - (c :: r).length : Nat) : Int) (c :: r) = .ok ⟨5, ((N - (c :: r).length : Nat) : Int), 0, [c], 0⟩ r := by
    simp only [tokL]
    rw [if_neg (by rw [f1]; decide), if_neg (by rw [f2]; decide), if_neg f3, if_neg f4, if_neg f5, if_pos hs]
  rw [h]
  rfl
/-- What is said of a cut of a text in front of R. -/
def CutsTo (N f : Nat) (T R : L8) (tight : Bool) (acc l : List Tk) : Prop :=
  ∃ m tight' g, cutL N f (T ++ R) tight acc = cutL N g R tight' (acc ++ m) ∧ R.length < g ∧ PlR ((N : Int) - R.length) ((N : Int) - (T ++ R).length) m l
theorem cuts_leaf (N f : Nat) (t : Tk) (T R : L8) (acc : List Tk) (hT : formL t = T) (hm : tokMay t = true) (hok : TkOk t) (hr : wordZ R = false) (hN : (T ++ R).length ≤ N) (hf : (T ++ R).length < f) : CutsTo N f T R false acc [t] := by
  subst hT
  obtain ⟨c, u, e, -⟩ := form_hd t hm
  have hl : 1 ≤ (formL t).length := by rw [e]; simp
  have hs := form_s t hm
  have ha : (formL t ++ R).length = (formL t).length + R.length := List.length_append
  obtain ⟨f, rfl⟩ : ∃ g, f = g + 1 := ⟨f - 1, by omega⟩
  refine ⟨[{ t with at_ := ((N - (formL t ++ R).length : Nat) : Int) }], _, f, cut_one N f t R acc hm hok (by omega) hr, by omega, ?_⟩
  refine ⟨?_, ?_, ⟨rfl, rfl, rfl, rfl⟩, trivial⟩
  · show _ ≤ ((N - (formL t ++ R).length : Nat) : Int)
    omega
  · show ((N - (formL t ++ R).length : Nat) : Int) < _
    omega
theorem CutsTo.trans {N f : Nat} {T T' R : L8} {tight : Bool} {acc l l' : List Tk} (h : CutsTo N f T (T' ++ R) tight acc l) (h' : ∀ m t g, (T' ++ R).length < g → CutsTo N g T' R t (acc ++ m) l') : CutsTo N f (T ++ T') R tight acc (l ++ l') := by
  obtain ⟨m, t1, g, h1, h2, h3⟩ := h
  obtain ⟨m', t2, g', h4, h5, h6⟩ := h' m t1 g h2
  refine ⟨m ++ m', t2, g', ?_, h5, ?_⟩
  · rw [List.append_assoc, h1, h4, List.append_assoc]
  · have e : (T ++ T' ++ R) = T ++ (T' ++ R) := List.append_assoc _ _ _
    rw [e]
    have l1 : (T' ++ R).length = T'.length + R.length := List.length_append
    have l2 : (T ++ (T' ++ R)).length = T.length + (T' ++ R).length := List.length_append
    exact PlR.app h3 h6 (Int.le_refl _) (by omega) (by omega)
theorem cuts_sign (N f : Nat) (c : UInt8) (R : L8) (tight : Bool) (acc : List Tk) (hs : sgnB c = true) (hN : (c :: R).length ≤ N) (hf : (c :: R).length < f) : CutsTo N f [c] R tight acc [⟨5, 0, 0, [c], 0⟩] := by
  obtain ⟨f, rfl⟩ : ∃ g, f = g + 1 := ⟨f - 1, by omega⟩
  have hl : (c :: R).length = R.length + 1 := rfl
  refine ⟨_, _, f, cut_sign N f c R tight acc hs, by omega, ?_⟩
  refine ⟨?_, ?_, ⟨rfl, rfl, rfl, rfl⟩, trivial⟩
  · show ((N : Int) - (c :: R).length) ≤ ((N - (c :: R).length : Nat) : Int)
    omega
  · show ((N - (c :: R).length : Nat) : Int) < _
    omega
theorem textsT_wordZ (l : List Va) (r : L8) : wordZ (textsT l ++ 93 :: r) = false := by
  cases l with
  | nil => rfl
  | cons x l => simp [textsT]; rfl
theorem cuts_sign_then (N f : Nat) (c : UInt8) (T R : L8) (tight : Bool) (acc l : List Tk) (hs : sgnB c = true) (hN : (c :: T ++ R).length ≤ N) (h : CutsTo N f T R false (acc ++ [⟨5, ((N - (c :: (T ++ R)).length : Nat) : Int), 0, [c], 0⟩]) l) : CutsTo N (f + 1) (c :: T) R tight acc (⟨5, 0, 0, [c], 0⟩ :: l) := by
  obtain ⟨m, t, g, h1, h2, h3⟩ := h
  have hl : (c :: (T ++ R)).length = (T ++ R).length + 1 := rfl
  have hl2 : (c :: T ++ R).length = (T ++ R).length + 1 := rfl
  have hl3 : (T ++ R).length = T.length + R.length := List.length_append
  refine ⟨⟨5, ((N - (c :: (T ++ R)).length : Nat) : Int), 0, [c], 0⟩ :: m, t, g, ?_, h2, ?_⟩
  · show cutL N (f + 1) (c :: (T ++ R)) tight acc = _
    rw [cut_sign N f c (T ++ R) tight acc hs, h1]
    simp
  · refine ⟨?_, ?_, ⟨rfl, rfl, rfl, rfl⟩, h3.mono ?_⟩
    · show ((N : Int) - (c :: T ++ R).length) ≤ ((N - (c :: (T ++ R)).length : Nat) : Int)
      omega
    · show ((N - (c :: (T ++ R)).length : Nat) : Int) < _
      omega
    · show ((N - (c :: (T ++ R)).length : Nat) : Int) + 1 ≤ _
      omega
theorem cuts_blank_then (N f : Nat) (T R : L8) (tight : Bool) (acc l : List Tk) (h : CutsTo N f T R false acc l) : CutsTo N (f + 1) (32 :: T) R tight acc l := by
  obtain ⟨m, t, g, h1, h2, h3⟩ := h
  refine ⟨m, t, g, ?_, h2, h3.mono ?_⟩
  · show cutL N (f + 1) (32 :: (T ++ R)) tight acc = _
    rw [cutL_blank N f 32 (T ++ R) tight acc rfl, h1]
  · have hl2 : (32 :: T ++ R).length = (T ++ R).length + 1 := rfl
    omega
theorem cuts_nil (N f : Nat) (R : L8) (tight : Bool) (acc : List Tk) (hf : R.length < f) : CutsTo N f [] R tight acc [] := ⟨[], tight, f, by simp, hf, trivial⟩
mutual
theorem vcut : ∀ (x : Va) (q nest q' N f : Nat) (R : L8) (acc : List Tk), takeV x q nest = some q' → Fit x → wordZ R = false → (textL x ++ R).length ≤ N → (textL x ++ R).length < f → CutsTo N f (textL x) R false acc (tksV x)
  | .mk k n s l r, q, nest, q', N, f, R, acc, h, hf, hR, hN, hff => by
    cases q with
    | zero => unfold takeV at h; cases h
    | succ q =>
    unfold Fit at hf
    by_cases k1 : k = 1
    · subst k1
      have e : textL (.mk 1 n s l r) = Lib.itoa n := by unfold textL; rfl
      have e2 : tksV (.mk 1 n s l r) = [⟨2, 0, n, [], 0⟩] := by unfold tksV; rfl
      rw [e] at hN hff ⊢
      rw [e2]
      exact cuts_leaf N f ⟨2, 0, n, [], 0⟩ _ R acc rfl rfl ⟨by simp, hf.1, by simp⟩ hR hN hff
    by_cases k2 : k = 2
    · subst k2
      have e : textL (.mk 2 n s l r) = quoteL s.data.toList := by unfold textL; rfl
      have e2 : tksV (.mk 2 n s l r) = [⟨3, 0, 0, s.data.toList, 0⟩] := by unfold tksV; rfl
      rw [e] at hN hff ⊢
      rw [e2]
      rw [takeV_2] at h
      by_cases hc : (decide ((s.size : Int) ≤ 256) && n == 0 && r == 0 && l.isEmpty) = true
      · simp only [Bool.and_eq_true, decide_eq_true_eq] at hc
        exact cuts_leaf N f ⟨3, 0, 0, s.data.toList, 0⟩ _ R acc rfl rfl ⟨by have := hc.1.1.1; simp; omega, by simp, by simp⟩ hR hN hff
      · rw [if_neg hc] at h; cases h
    by_cases k4 : k = 4
    · subst k4
      have e : textL (.mk 4 n s l r) = 35 :: Lib.itoa r := by unfold textL; rfl
      have e2 : tksV (.mk 4 n s l r) = [⟨4, 0, 0, [], r⟩] := by unfold tksV; rfl
      rw [e] at hN hff ⊢
      rw [e2]
      rw [takeV_4] at h
      by_cases hc : (decide (1 ≤ r) && n == 0 && s.toList.isEmpty && l.isEmpty) = true
      · simp only [Bool.and_eq_true, decide_eq_true_eq] at hc
        exact cuts_leaf N f ⟨4, 0, 0, [], r⟩ _ R acc rfl (by simp [tokMay, hc.1.1.1]) ⟨by simp, by simp, hf.2.1⟩ hR hN hff
      · rw [if_neg hc] at h; cases h
    by_cases k3 : k = 3
    · subst k3
      have e : textL (.mk 3 n s l r) = 91 :: (textsL l ++ [93]) := by unfold textL; rfl
      have e2 : tksV (.mk 3 n s l r) = ⟨5, 0, 0, [91], 0⟩ :: (tksVs l ++ [⟨5, 0, 0, [93], 0⟩]) := by unfold tksV; rfl
      rw [e] at hN hff ⊢
      rw [e2]
      cases nest with
      | zero => unfold takeV at h; cases h
      | succ nest =>
      obtain ⟨q2, h⟩ : ∃ q2, takeVs l q nest = some q2 := by
        rw [takeV_3] at h
        by_cases hc : q < l.length
        · rw [if_pos hc] at h; cases h
        · rw [if_neg hc] at h
          cases ht : takeVs l q nest with
          | none => rw [ht] at h; cases h
          | some q2 => exact ⟨q2, rfl⟩
      obtain ⟨f, rfl⟩ : ∃ g, f = g + 1 := ⟨f - 1, by omega⟩
      have hN' : (textsL l ++ [93] ++ R).length + 1 ≤ N := hN
      have hff' : (textsL l ++ [93] ++ R).length < f := by have : (91 :: (textsL l ++ [93]) ++ R).length = (textsL l ++ [93] ++ R).length + 1 := rfl; omega
      refine cuts_sign_then N f 91 _ R false acc _ (by decide) hN ?_
      have hr : [93] ++ R = 93 :: R := rfl
      have happ : textsL l ++ [93] ++ R = textsL l ++ 93 :: R := by simp
      rw [happ] at hN' hff'
      cases l with
      | nil => exact cuts_sign N f 93 R false _ (by decide) (by simp [textsL] at hN' ⊢; omega) (by simpa [textsL] using hff')
      | cons x l =>
        have e3 : textsL (x :: l) = textL x ++ textsT l := by unfold textsL; rfl
        rw [e3] at hN' hff' ⊢
        unfold takeVs at h
        unfold Fits at hf
        cases ht : takeV x q nest with
        | none => rw [ht] at h; cases h
        | some q1 =>
          rw [ht] at h
          have h : takeVs l q1 nest = some q2 := h
          have e4 : tksVs (x :: l) = tksV x ++ tksVs l := by rw [tksVs]
          rw [e4]
          have ha : textL x ++ textsT l ++ 93 :: R = textL x ++ (textsT l ++ 93 :: R) := by simp
          rw [ha] at hN' hff'
          refine CutsTo.trans (CutsTo.trans (vcut x q nest q1 N f _ _ ht hf.2.2.1 (textsT_wordZ l R) (by rw [hr]; omega) (by rw [hr]; exact hff')) fun m t g hg => vscut l q1 nest q2 N g R t _ h hf.2.2.2 (by
            have : (textL x ++ (textsT l ++ 93 :: R)).length = (textL x).length + (textsT l ++ 93 :: R).length := List.length_append
            omega) hg) fun m t g hg => cuts_sign N g 93 R t _ (by decide) (by
            have h1 : (textL x ++ (textsT l ++ 93 :: R)).length = (textL x).length + (textsT l ++ 93 :: R).length := List.length_append
            have h2 : (textsT l ++ 93 :: R).length = (textsT l).length + (93 :: R).length := List.length_append
            omega) hg
    · have e : textL (.mk k n s l r) = [95] := by unfold textL; rw [if_neg k1, if_neg k2, if_neg k4, if_neg k3]
      have e2 : tksV (.mk k n s l r) = [⟨5, 0, 0, [95], 0⟩] := by unfold tksV; rw [if_neg k1, if_neg k2, if_neg k4, if_neg k3]
      rw [e] at hN hff ⊢
      rw [e2]
      exact cuts_sign N f 95 R false acc (by decide) hN hff
theorem vscut : ∀ (l : List Va) (q nest q' N f : Nat) (R : L8) (tight : Bool) (acc : List Tk), takeVs l q nest = some q' → Fits l → (textsT l ++ 93 :: R).length ≤ N → (textsT l ++ 93 :: R).length < f → CutsTo N f (textsT l) (93 :: R) tight acc (tksVs l)
  | [], q, nest, q', N, f, R, tight, acc, h, hf, hN, hff => by
    have e : textsT [] = [] := by unfold textsT; rfl
    have e2 : tksVs [] = [] := by unfold tksVs; rfl
    rw [e] at hff ⊢
    rw [e2]
    exact cuts_nil N f _ tight acc hff
  | x :: l, q, nest, q', N, f, R, tight, acc, h, hf, hN, hff => by
    have e : textsT (x :: l) = 32 :: (textL x ++ textsT l) := by rw [textsT]
    have e4 : tksVs (x :: l) = tksV x ++ tksVs l := by rw [tksVs]
    rw [e] at hN hff ⊢
    rw [e4]
    unfold takeVs at h
    unfold Fits at hf
    have hl0 : (32 :: (textL x ++ textsT l) ++ 93 :: R).length = (textL x).length + (textsT l ++ 93 :: R).length + 1 := by simp
    have hl1 : (textL x ++ (textsT l ++ 93 :: R)).length = (textL x).length + (textsT l ++ 93 :: R).length := List.length_append
    cases ht : takeV x q nest with
    | none => rw [ht] at h; cases h
    | some q1 =>
      rw [ht] at h
      have h : takeVs l q1 nest = some q' := h
      obtain ⟨f, rfl⟩ : ∃ g, f = g + 1 := ⟨f - 1, by omega⟩
      refine cuts_blank_then N f _ _ tight acc _ (CutsTo.trans (vcut x q nest q1 N f _ acc ht hf.1 (textsT_wordZ l R) (by omega) (by omega)) fun m t g hg => vscut l q1 nest q' N g R t _ h hf.2 (by omega) hg)
end
end Go.Proofs.YtjmelamllapmiaaGreatDoor
namespace Go.Proofs.YtjmelamllapmiaaGreatDoor
open Go.RowKit

theorem text_cut (x : Va) (h : mayV x = true) (hf : Fit x) : ∃ m, cutR (txtV (textL x)) = .ok m [] ∧ PlR ((textL x).length : Int) 0 m (tksV x) := by
  obtain ⟨q', hq⟩ : ∃ q', takeV x 512 16 = some q' := by
    unfold mayV at h
    exact Option.isSome_iff_exists.1 h
  obtain ⟨m, t, g, h1, h2, h3⟩ := vcut x 512 16 q' (textL x).length ((textL x).length + 1) [] [] hq hf rfl (by simp) (by simp)
  rw [List.append_nil] at h1 h3
  obtain ⟨g, rfl⟩ : ∃ g', g = g' + 1 := ⟨g - 1, by simp at h2; omega⟩
  refine ⟨m, ?_, ?_⟩
  · show cutL (textL x).length ((textL x).length + 1) (textL x) false [] = _
    rw [h1]
    simp [cutL]
  · have e : ((textL x).length : Int) - ([] : L8).length = (textL x).length := by simp
    rw [e] at h3
    exact h3.mono (by omega)
/-- Alike, but for the places. -/
def SF : List Tk → List Tk → Prop
  | [], [] => True
  | x :: m, t :: l => (x.k = t.k ∧ x.n = t.n ∧ x.s = t.s ∧ x.r = t.r) ∧ SF m l
  | _, _ => False
theorem PlR.sf {N : Int} : ∀ {m l : List Tk} {lo : Int}, PlR N lo m l → SF m l
  | [], [], _, _ => trivial
  | _x :: _m, _t :: _l, _, h => ⟨h.2.2.1, PlR.sf h.2.2.2⟩
  | [], _ :: _, _, h => h.elim
  | _ :: _, [], _, h => h.elim
theorem SF.split : ∀ {l1 : List Tk} {m l2 : List Tk}, SF m (l1 ++ l2) → ∃ m1 m2, m = m1 ++ m2 ∧ SF m1 l1 ∧ SF m2 l2
  | [], m, l2, h => ⟨[], m, rfl, trivial, h⟩
  | t :: l1, [], l2, h => h.elim
  | t :: l1, x :: m, l2, h => by
    obtain ⟨m1, m2, h1, h2, h3⟩ := SF.split (l1 := l1) h.2
    exact ⟨x :: m1, m2, by rw [h1]; rfl, ⟨h.1, h2⟩, h3⟩
theorem SF.one {m : List Tk} {t : Tk} (h : SF m [t]) : ∃ a, m = [{ t with at_ := a }] := by
  match m, h with
  | [x], h =>
    obtain ⟨⟨h1, h2, h3, h4⟩, -⟩ := h
    obtain ⟨k, a, n, s, r⟩ := x
    simp only at h1 h2 h3 h4
    exact ⟨a, by rw [h1, h2, h3, h4]⟩
  | _ :: _ :: _, h => exact h.2.elim
end Go.Proofs.YtjmelamllapmiaaGreatDoor
