/- Plain laws: where the reader of values is stuck does not depend on what stands behind; what went well can be gone on with. -/
import Derived.Test.YtkhpfghehjcfoaaDoorZc
namespace Go.Proofs.YtkhpfghehjcfoaaDoor
open Go.RowKit

/-- What is open: how many lists, is it in a quoted form, how much of an escape is to come, the last byte. -/
structure Sc where
  o : Int
  i : Bool
  e : Nat
  pv : UInt8
def scS (s : Sc) (c : UInt8) : Sc :=
  if 0 < s.e then ⟨s.o, s.i, if s.e = 1 ∧ c = 120 ∧ s.pv = 92 then 2 else s.e - 1, c⟩
  else if s.i = true ∧ c = 92 then ⟨s.o, s.i, 1, c⟩
  else if c = 34 then ⟨s.o, !s.i, 0, c⟩
  else if s.i = false ∧ c = 91 then ⟨s.o + 1, s.i, 0, c⟩
  else if s.i = false ∧ c = 93 then ⟨s.o - 1, s.i, 0, c⟩
  else ⟨s.o, s.i, 0, c⟩
def scL (s : Sc) (l : L8) : Sc := l.foldl scS s
theorem scL_nil (s : Sc) : scL s [] = s := rfl
theorem scL_cons (s : Sc) (c : UInt8) (l : L8) : scL s (c :: l) = scL (scS s c) l := rfl
theorem scL_append (s : Sc) (a b : L8) : scL s (a ++ b) = scL (scL s a) b := by unfold scL; rw [List.foldl_append]
/-- Behind it so many lists more are open (none is quoted). -/
def Clean (u : L8) (k : Int) : Prop := ∀ o pv, ∃ pv', scL ⟨o, false, 0, pv⟩ u = ⟨o + k, false, 0, pv'⟩
def Opn (u : L8) (d : Nat) : Prop := ∀ o pv, ∃ i e pv', scL ⟨o, false, 0, pv⟩ u = ⟨o + d, i, e, pv'⟩
theorem Clean.nil : Clean [] 0 := fun o pv => ⟨pv, by rw [scL_nil, Int.add_zero]⟩
theorem Clean.append {a b : L8} {j k : Int} (h : Clean a j) (h2 : Clean b k) : Clean (a ++ b) (j + k) := fun o pv => by
  obtain ⟨p1, e1⟩ := h o pv
  obtain ⟨p2, e2⟩ := h2 (o + j) p1
  exact ⟨p2, by rw [scL_append, e1, e2, Int.add_assoc]⟩
theorem Clean.opn {a b : L8} {d : Nat} (h : Clean a 0) (h2 : Opn b d) : Opn (a ++ b) d := fun o pv => by
  obtain ⟨p1, e1⟩ := h o pv
  obtain ⟨i, e, p2, e2⟩ := h2 (o + 0) p1
  exact ⟨i, e, p2, by rw [scL_append, e1, e2, Int.add_zero]⟩
theorem Clean.opn1 {a b : L8} {d : Nat} (h : Clean a 1) (h2 : Opn b d) : Opn (a ++ b) (d + 1) := fun o pv => by
  obtain ⟨p1, e1⟩ := h o pv
  obtain ⟨i, e, p2, e2⟩ := h2 (o + 1) p1
  refine ⟨i, e, p2, ?_⟩
  rw [scL_append, e1, e2]
  congr 1
  omega
theorem Clean.opn0 {a : L8} (h : Clean a 0) : Opn a 0 := fun o pv => by
  obtain ⟨p1, e1⟩ := h o pv
  exact ⟨_, _, p1, e1⟩
/-- No bracket, no quote. -/
def Bare (u : L8) : Prop := ∀ x ∈ u, x ≠ 34 ∧ x ≠ 91 ∧ x ≠ 93
theorem Bare.clean : ∀ {u : L8}, Bare u → Clean u 0
  | [], _ => Clean.nil
  | c :: u, h => fun o pv => by
    obtain ⟨h1, h2, h3⟩ := h c (by simp)
    obtain ⟨p, e⟩ := Bare.clean (u := u) (fun x hx => h x (by simp [hx])) o c
    refine ⟨p, ?_⟩
    rw [scL_cons, ← e]
    congr 1
    simp [scS, h1, h2, h3]
theorem bare_dig {u : L8} (h : u.all digB = true) : Bare u := fun x hx => by
  have hd := List.all_eq_true.1 h x hx
  simp only [digB, Bool.and_eq_true, decide_eq_true_eq] at hd
  refine ⟨?_, ?_, ?_⟩ <;> (rintro rfl; revert hd; decide)
theorem Bare.cons {c : UInt8} {u : L8} (h : Bare u) (h1 : c ≠ 34 ∧ c ≠ 91 ∧ c ≠ 93) : Bare (c :: u) := fun x hx => by
  rcases List.mem_cons.1 hx with rfl | hx
  · exact h1
  · exact h x hx
def hds : List L8 := [[], [95], [49], [34], [48, 34], [48, 48, 34], [102, 34], [110, 34], [120, 48, 48, 34]]
/-- What may stand behind, so that a number ends as it did. -/
def Nx (r z : L8) : Prop := dig0 z = false ∨ z.head? = r.head?
theorem dig0_head {r z : L8} (h : z.head? = r.head?) : dig0 z = dig0 r := by
  cases z <;> cases r <;> simp_all [dig0]
theorem head_app {u r z : L8} (h : u ≠ []) : (u ++ z).head? = (u ++ r).head? := by
  cases u with
  | nil => exact absurd rfl h
  | cons => rfl
theorem numL_loc (most : Nat) : ∀ (t : L8) (n : Nat) (b : Bool), match numL most t n b with
    | .ok m r => ∃ u, t = u ++ r ∧ u.all digB = true ∧ ∀ z, Nx r z → numL most (u ++ z) n b = .ok m z
    | .no r => ∃ u, t = u ++ r ∧ u.all digB = true ∧ (∀ z, r ≠ [] → z.head? = r.head? → numL most (u ++ z) n b = .no z) ∧ ∃ m, ∀ z, dig0 z = false → numL most (u ++ z) n b = .ok m z
  | [], n, b => by
    rw [numL]
    refine ⟨[], rfl, rfl, fun z hz => ?_⟩
    rcases hz with h | h
    · exact numL_stop most n b h
    · exact numL_stop most n b (dig0_head h)
  | c :: t, n, b => by
    rw [numL]
    by_cases hd : digB c = true
    · rw [if_pos hd]
      by_cases hb : (b = true ∧ n = 0) ∨ (most - (c.toNat - 48)) / 10 < n
      · rw [if_pos hb]
        refine ⟨[], rfl, rfl, fun z _ hz => ?_, n, fun z hz => numL_stop most n b hz⟩
        match z, hz with
        | x :: z, hz =>
          obtain rfl : x = c := by simpa using hz
          rw [List.nil_append, numL, if_pos hd, if_pos hb]
      · rw [if_neg hb]
        have ih := numL_loc most t (n * 10 + (c.toNat - 48)) true
        have hst : ∀ z, numL most (c :: z) n b = numL most z (n * 10 + (c.toNat - 48)) true := fun z => by rw [numL, if_pos hd, if_neg hb]
        cases hE : numL most t (n * 10 + (c.toNat - 48)) true with
        | ok m r =>
          rw [hE] at ih
          obtain ⟨u, rfl, h2, h3⟩ := ih
          exact ⟨c :: u, rfl, by simp [hd, h2], fun z hz => by rw [List.cons_append, hst, h3 z hz]⟩
        | no r =>
          rw [hE] at ih
          obtain ⟨u, rfl, h2, h3, m, h4⟩ := ih
          exact ⟨c :: u, rfl, by simp [hd, h2], fun z h hz => by rw [List.cons_append, hst, h3 z h hz], m, fun z hz => by rw [List.cons_append, hst, h4 z hz]⟩
    · rw [if_neg hd]
      refine ⟨[], rfl, rfl, fun z hz => ?_⟩
      rcases hz with h | h
      · exact numL_stop most n b h
      · exact numL_stop most n b (show dig0 z = false by rw [dig0_head h]; simpa [dig0] using hd)
theorem numL_first (most : Nat) (c : UInt8) (hd : digB c = true) (t : L8) : numL most (c :: t) 0 false = numL most t (0 * 10 + (c.toNat - 48)) true := by
  rw [numL, if_pos hd, if_neg (by rintro (⟨h, _⟩ | h); cases h; omega)]
/-- Of a number: where it is stuck, and how it can be gone on with. -/
def LocN (F : L8 → Rs Int) (t : L8) : Prop := match F t with
  | .ok m r => ∃ u, t = u ++ r ∧ u ≠ [] ∧ Bare u ∧ ∀ z, Nx r z → F (u ++ z) = .ok m z
  | .no r => ∃ u, t = u ++ r ∧ u ≠ [] ∧ Bare u ∧ (∀ z, r ≠ [] → z.head? = r.head? → F (u ++ z) = .no z) ∧ (F u = .no [] ∨ ∃ x, F u = .ok x []) ∧ ∃ h ∈ hds, ∃ m, ∀ z, dig0 z = false → F (u ++ (h ++ z)) = .ok m z
theorem numV_dig (minus : Bool) (c : UInt8) (hd : digB c = true) (t : L8) : numV minus (c :: t) = match numL posM t (0 * 10 + (c.toNat - 48)) true with | .ok n r => .ok (n : Int) r | .no r => .no r := by
  have hc : ¬ (minus = true ∧ c = 45) := by rintro ⟨_, rfl⟩; revert hd; decide
  cases t <;> (rw [numV, if_neg hc, numL_first _ _ hd]; rfl)
theorem dig_bare {c : UInt8} (hd : digB c = true) : c ≠ 34 ∧ c ≠ 91 ∧ c ≠ 93 := by
  have := bare_dig (u := [c]) (by simp [hd])
  exact this c (by simp)
theorem numV_loc_dig (minus : Bool) (c : UInt8) (hd : digB c = true) (t : L8) : LocN (numV minus) (c :: t) := by
  unfold LocN
  have ih := numL_loc posM t (0 * 10 + (c.toNat - 48)) true
  have hst := fun z => numV_dig minus c hd z
  rw [hst t]
  cases hE : numL posM t (0 * 10 + (c.toNat - 48)) true with
  | ok m r =>
    rw [hE] at ih
    obtain ⟨u, rfl, h2, h3⟩ := ih
    exact ⟨c :: u, rfl, by simp, (bare_dig h2).cons (dig_bare hd), fun z hz => by rw [List.cons_append, hst, h3 z hz]⟩
  | no r =>
    rw [hE] at ih
    obtain ⟨u, rfl, h2, h3, m, h4⟩ := ih
    refine ⟨c :: u, rfl, by simp, (bare_dig h2).cons (dig_bare hd), fun z h hz => by rw [List.cons_append, hst, h3 z h hz], .inr ⟨m, ?_⟩, [], by simp [hds], m, fun z hz => by rw [List.cons_append, hst, List.nil_append, h4 z hz]⟩
    have := h4 [] rfl
    rw [List.append_nil] at this
    rw [hst, this]
theorem numV_mns (d : UInt8) (h : ¬ (d.toNat < 49 ∨ 57 < d.toNat)) (t : L8) : numV true (45 :: d :: t) = match numL (posM + 1) t (0 * 10 + (d.toNat - 48)) true with | .ok n r => .ok (-(n : Int)) r | .no r => .no r := by
  have hd : digB d = true := by simp only [digB, Bool.and_eq_true, decide_eq_true_eq]; omega
  rw [numV, if_pos ⟨rfl, rfl⟩]
  refine (if_neg h).trans ?_
  rw [numL_first _ _ hd]
  rfl
theorem numV_mns_bad (d : UInt8) (h : d.toNat < 49 ∨ 57 < d.toNat) (t : L8) : numV true (45 :: d :: t) = .no (d :: t) := by
  rw [numV, if_pos ⟨rfl, rfl⟩]
  exact if_pos h
theorem numV_mns_one (z : L8) (hz : dig0 z = false) : numV true (45 :: 49 :: z) = .ok (-1) z := by
  rw [numV_mns 49 (by decide), numL_stop _ _ _ hz]
  rfl
theorem numV_loc_neg (t : L8) : LocN (numV true) (45 :: t) := by
  unfold LocN
  have hb : Bare [45] := fun x hx => by simp at hx; subst hx; decide
  cases t with
  | nil => exact ⟨[45], rfl, by simp, hb, fun z h => absurd rfl h, .inl rfl, [49], by simp [hds], -1, fun z hz => numV_mns_one z hz⟩
  | cons d t =>
    by_cases h : d.toNat < 49 ∨ 57 < d.toNat
    · rw [numV_mns_bad d h]
      refine ⟨[45], rfl, by simp, hb, fun z _ hz => ?_, .inl rfl, [49], by simp [hds], -1, fun z hz => numV_mns_one z hz⟩
      match z, hz with
      | x :: z, hz =>
        obtain rfl : x = d := by simpa using hz
        exact numV_mns_bad x h z
    · have hst := fun z => numV_mns d h z
      have hd : digB d = true := by simp only [digB, Bool.and_eq_true, decide_eq_true_eq]; omega
      have ih := numL_loc (posM + 1) t (0 * 10 + (d.toNat - 48)) true
      rw [hst t]
      cases hE : numL (posM + 1) t (0 * 10 + (d.toNat - 48)) true with
      | ok m r =>
        rw [hE] at ih
        obtain ⟨u, rfl, h2, h3⟩ := ih
        exact ⟨45 :: d :: u, rfl, by simp, ((bare_dig h2).cons (dig_bare hd)).cons (by decide), fun z hz => by rw [List.cons_append, List.cons_append, hst, h3 z hz]⟩
      | no r =>
        rw [hE] at ih
        obtain ⟨u, rfl, h2, h3, m, h4⟩ := ih
        refine ⟨45 :: d :: u, rfl, by simp, ((bare_dig h2).cons (dig_bare hd)).cons (by decide), fun z h hz => by rw [List.cons_append, List.cons_append, hst, h3 z h hz], .inr ⟨-m, ?_⟩, [], by simp [hds], -m, fun z hz => by rw [List.cons_append, List.cons_append, hst, List.nil_append, h4 z hz]⟩
        have := h4 [] rfl
        rw [List.append_nil] at this
        rw [hst, this]
/-- The state in a quoted form. -/
def qst : Qs → Sc → Prop
  | .run, s => s.i = true ∧ s.e = 0
  | .bs, s => s.i = true ∧ s.e = 1 ∧ s.pv = 92
  | .hx, s => s.i = true ∧ s.e = 2
  | .lo _, s => s.i = true ∧ s.e = 1
/-- Of a quoted form. -/
def LocQ (most : Nat) (q : Qs) (b t : L8) : Prop := match qa most q t b with
  | .ok x r => ∃ u, t = u ++ r ∧ (∀ z, qa most q (u ++ z) b = .ok x z) ∧ ∀ s, qst q s → ∃ pv, scL s u = ⟨s.o, false, 0, pv⟩
  | .no r => ∃ u, t = u ++ r ∧ (∀ z, r ≠ [] → z.head? = r.head? → qa most q (u ++ z) b = .no z) ∧ qa most q u b = .no [] ∧ (∃ h ∈ hds, ∃ x, ∀ z, qa most q (u ++ (h ++ z)) b = .ok x z) ∧ ∀ s, qst q s → ∃ i e pv, scL s u = ⟨s.o, i, e, pv⟩
theorem hexD_ne {c : UInt8} {a : Nat} (h : hexD c = some a) : c ≠ 120 := by rintro rfl; rw [show hexD 120 = Option.none by decide] at h; cases h
/-- One byte on. -/
theorem LocQ.step {most : Nat} {q q' : Qs} {b b' : L8} {c : UInt8} {t : L8} (hst : ∀ z, qa most q (c :: z) b = qa most q' z b') (hsc : ∀ s, qst q s → qst q' (scS s c) ∧ (scS s c).o = s.o) (h : LocQ most q' b' t) : LocQ most q b (c :: t) := by
  unfold LocQ at h ⊢
  rw [hst t]
  cases hE : qa most q' t b' with
  | ok x r =>
    rw [hE] at h
    obtain ⟨u, rfl, h2, h3⟩ := h
    refine ⟨c :: u, rfl, fun z => by rw [List.cons_append, hst, h2 z], fun s hs => ?_⟩
    obtain ⟨pv, e⟩ := h3 _ (hsc s hs).1
    exact ⟨pv, by rw [scL_cons, e, (hsc s hs).2]⟩
  | no r =>
    rw [hE] at h
    obtain ⟨u, rfl, h2, h3, ⟨hd, h4, x, h5⟩, h6⟩ := h
    refine ⟨c :: u, rfl, fun z h hz => by rw [List.cons_append, hst, h2 z h hz], by rw [hst, h3], ⟨hd, h4, x, fun z => by rw [List.cons_append, hst, h5 z]⟩, fun s hs => ?_⟩
    obtain ⟨i, e, pv, e1⟩ := h6 _ (hsc s hs).1
    exact ⟨i, e, pv, by rw [scL_cons, e1, (hsc s hs).2]⟩
/-- Stuck right here. -/
theorem LocQ.here {most : Nat} {q : Qs} {b t : L8} (h1 : qa most q t b = .no t) (h2 : ∀ z, t ≠ [] → z.head? = t.head? → qa most q z b = .no z) {hd x : L8} (h3 : hd ∈ hds) (h4 : ∀ z, qa most q (hd ++ z) b = .ok x z) : LocQ most q b t := by
  unfold LocQ
  rw [h1]
  refine ⟨[], rfl, fun z h hz => h2 z h hz, by cases q <;> rfl, ⟨hd, h3, x, fun z => h4 z⟩, fun s _ => ⟨s.i, s.e, s.pv, rfl⟩⟩
theorem qa_run34 (most : Nat) (b z : L8) : qa most .run (34 :: z) b = .ok b z := by rw [qa, if_pos rfl]
theorem qa_bs110 (most : Nat) (b z : L8) : qa most .bs (110 :: 34 :: z) b = .ok (b ++ [10]) z := by
  rw [qa, if_neg (by decide), if_pos rfl, qa_run34]
theorem hexD48 : hexD 48 = some 0 := by decide
theorem hexD102 : hexD 102 = some 15 := by decide
theorem qa_lo (most a : Nat) (b : L8) : ∃ h ∈ hds, ∃ x, ∀ z, qa most (.lo a) (h ++ z) b = .ok x z := by
  by_cases ha : a = 7
  · subst ha
    refine ⟨[102, 34], by simp [hds], b ++ [UInt8.ofNat (7 * 16 + 15)], fun z => ?_⟩
    show qa most (.lo 7) (102 :: 34 :: z) b = _
    rw [qa, hexD102]
    simp only
    rw [if_neg (by decide), qa_run34]
  · refine ⟨[48, 34], by simp [hds], b ++ [UInt8.ofNat (a * 16 + 0)], fun z => ?_⟩
    show qa most (.lo a) (48 :: 34 :: z) b = _
    rw [qa, hexD48]
    simp only
    rw [if_neg (by omega), qa_run34]
theorem qa_hx00 (most : Nat) (b z : L8) : qa most .hx (48 :: 48 :: 34 :: z) b = .ok (b ++ [UInt8.ofNat (0 * 16 + 0)]) z := by
  rw [qa, hexD48]
  simp only
  rw [if_neg (by decide), qa, hexD48]
  simp only
  rw [if_neg (by decide), qa_run34]
theorem qa_loc (most : Nat) : ∀ (t : L8) (q : Qs) (b : L8), LocQ most q b t
  | [], .run, b => LocQ.here rfl (fun z h => absurd rfl h) (hd := [34]) (by simp [hds]) (fun z => qa_run34 most b z)
  | [], .bs, b => LocQ.here rfl (fun z h => absurd rfl h) (hd := [110, 34]) (by simp [hds]) (fun z => qa_bs110 most b z)
  | [], .hx, b => LocQ.here rfl (fun z h => absurd rfl h) (hd := [48, 48, 34]) (by simp [hds]) (fun z => qa_hx00 most b z)
  | [], .lo a, b => by
    obtain ⟨h, h1, x, h2⟩ := qa_lo most a b
    exact LocQ.here rfl (fun z h => absurd rfl h) h1 h2
  | c :: t, .run, b => by
    by_cases h34 : c = 34
    · subst h34
      unfold LocQ
      rw [qa_run34]
      refine ⟨[34], rfl, fun z => qa_run34 most b z, fun s hs => ⟨34, ?_⟩⟩
      obtain ⟨o, i, e, pv⟩ := s
      obtain ⟨h1, h2⟩ := hs
      simp only at h1 h2
      subst h1 h2
      rfl
    by_cases hb : most ≤ b.length ∨ c.toNat < 32 ∨ 126 < c.toNat
    · have hs : ∀ z, qa most .run (c :: z) b = .no (c :: z) := fun z => by rw [qa, if_neg h34, if_pos hb]
      refine LocQ.here (hs t) (fun z _ hz => ?_) (hd := [34]) (by simp [hds]) (fun z => qa_run34 most b z)
      match z, hz with
      | x :: z, hz =>
        obtain rfl : x = c := by simpa using hz
        exact hs z
    by_cases h92 : c = 92
    · subst h92
      refine LocQ.step (q' := .bs) (b' := b) (fun z => by rw [qa, if_neg h34, if_neg hb, if_pos rfl]) (fun s hs => ?_) (qa_loc most t .bs b)
      obtain ⟨o, i, e, pv⟩ := s
      obtain ⟨h1, h2⟩ := hs
      simp only at h1 h2
      subst h1 h2
      exact ⟨⟨rfl, rfl, rfl⟩, rfl⟩
    · refine LocQ.step (q' := .run) (b' := b ++ [c]) (fun z => by rw [qa, if_neg h34, if_neg hb, if_neg h92]) (fun s hs => ?_) (qa_loc most t .run _)
      obtain ⟨o, i, e, pv⟩ := s
      obtain ⟨h1, h2⟩ := hs
      simp only at h1 h2
      subst h1 h2
      simp [scS, h34, h92, qst]
  | c :: t, .bs, b => by
    by_cases h1 : c = 34 ∨ c = 92
    · refine LocQ.step (q' := .run) (b' := b ++ [c]) (fun z => by rw [qa, if_pos h1]) (fun s hs => ?_) (qa_loc most t .run _)
      obtain ⟨o, i, e, pv⟩ := s
      obtain ⟨g1, g2, g3⟩ := hs
      simp only at g1 g2 g3
      subst g1 g2 g3
      rcases h1 with rfl | rfl <;> exact ⟨⟨rfl, rfl⟩, rfl⟩
    by_cases h2 : c = 110
    · subst h2
      refine LocQ.step (q' := .run) (b' := b ++ [10]) (fun z => by rw [qa, if_neg h1, if_pos rfl]) (fun s hs => ?_) (qa_loc most t .run _)
      obtain ⟨o, i, e, pv⟩ := s
      obtain ⟨g1, g2, g3⟩ := hs
      simp only at g1 g2 g3
      subst g1 g2 g3
      exact ⟨⟨rfl, rfl⟩, rfl⟩
    by_cases h3 : c = 120
    · subst h3
      refine LocQ.step (q' := .hx) (b' := b) (fun z => by rw [qa, if_neg h1, if_neg h2, if_pos rfl]) (fun s hs => ?_) (qa_loc most t .hx _)
      obtain ⟨o, i, e, pv⟩ := s
      obtain ⟨g1, g2, g3⟩ := hs
      simp only at g1 g2 g3
      subst g1 g2 g3
      exact ⟨⟨rfl, rfl⟩, rfl⟩
    · have hs : ∀ z, qa most .bs (c :: z) b = .no (c :: z) := fun z => by rw [qa, if_neg h1, if_neg h2, if_neg h3]
      refine LocQ.here (hs t) (fun z _ hz => ?_) (hd := [110, 34]) (by simp [hds]) (fun z => qa_bs110 most b z)
      match z, hz with
      | x :: z, hz =>
        obtain rfl : x = c := by simpa using hz
        exact hs z
  | c :: t, .hx, b => by
    have hbad : (∀ z, qa most .hx (c :: z) b = .no (c :: z)) → LocQ most .hx b (c :: t) := fun hs => by
      refine LocQ.here (hs t) (fun z _ hz => ?_) (hd := [48, 48, 34]) (by simp [hds]) (fun z => qa_hx00 most b z)
      match z, hz with
      | x :: z, hz =>
        obtain rfl : x = c := by simpa using hz
        exact hs z
    cases hD : hexD c with
    | none => exact hbad fun z => by rw [qa, hD]
    | some a =>
      by_cases ha : 2 ≤ a ∧ a ≤ 6
      · exact hbad fun z => by rw [qa, hD]; exact if_pos ha
      · refine LocQ.step (q' := .lo a) (b' := b) (fun z => by rw [qa, hD]; exact if_neg ha) (fun s hs => ?_) (qa_loc most t (.lo a) _)
        obtain ⟨o, i, e, pv⟩ := s
        obtain ⟨g1, g2⟩ := hs
        simp only at g1 g2
        subst g1 g2
        exact ⟨⟨rfl, by simp [scS]⟩, rfl⟩
  | c :: t, .lo a, b => by
    have hbad : (∀ z, qa most (.lo a) (c :: z) b = .no (c :: z)) → LocQ most (.lo a) b (c :: t) := fun hs => by
      obtain ⟨h, h1, x, h2⟩ := qa_lo most a b
      refine LocQ.here (hs t) (fun z _ hz => ?_) h1 h2
      match z, hz with
      | x :: z, hz =>
        obtain rfl : x = c := by simpa using hz
        exact hs z
    cases hD : hexD c with
    | none => exact hbad fun z => by rw [qa, hD]
    | some d =>
      by_cases ha : (a = 0 ∧ d = 10) ∨ (a = 7 ∧ d ≠ 15)
      · exact hbad fun z => by rw [qa, hD]; exact if_pos ha
      · refine LocQ.step (q' := .run) (b' := b ++ [UInt8.ofNat (a * 16 + d)]) (fun z => by rw [qa, hD]; exact if_neg ha) (fun s hs => ?_) (qa_loc most t .run _)
        obtain ⟨o, i, e, pv⟩ := s
        obtain ⟨g1, g2⟩ := hs
        simp only at g1 g2
        subst g1 g2
        have := hexD_ne hD
        exact ⟨⟨rfl, by simp [scS, this]⟩, rfl⟩
/-- Of a value. -/
def LocV (F : L8 → Rs (Va × Nat)) (N : Nat) (t : L8) : Prop := match F t with
  | .ok x r => ∃ u, t = u ++ r ∧ u ≠ [] ∧ Clean u 0 ∧ ∀ z, Nx r z → F (u ++ z) = .ok x z
  | .no r => ∃ u, t = u ++ r ∧ (∀ z, r ≠ [] → z.head? = r.head? → F (u ++ z) = .no z) ∧ (u = [] ∨ F u = .no [] ∨ ∃ x, F u = .ok x []) ∧ ∃ h ∈ hds, ∃ d, d ≤ N ∧ Opn u d ∧ ∃ x, ∀ z, dig0 z = false → F (u ++ (h ++ (List.replicate d 93 ++ z))) = .ok x z
/-- Of a list behind its bracket. -/
def LocL (G : L8 → Rs (List Va × Nat)) (N : Nat) (t : L8) : Prop := match G t with
  | .ok x r => ∃ u, t = u ++ r ∧ u ≠ [] ∧ Clean u (-1) ∧ ∀ z, G (u ++ z) = .ok x z
  | .no r => ∃ u, t = u ++ r ∧ (∀ z, r ≠ [] → z.head? = r.head? → G (u ++ z) = .no z) ∧ G u = .no [] ∧ ∃ h ∈ hds, ∃ d, d ≤ N ∧ Opn u d ∧ (∃ x, ∀ z, G (u ++ (h ++ (List.replicate d 93 ++ 93 :: z))) = .ok x z) ∧ (u = [] → h = [] ∧ d = 0)
theorem lsV_93 (f : L8 → Nat → Rs (Va × Nat)) (k : Nat) (z : L8) (p : Nat) (l : List Va) (hk : 0 < k) : lsV f k (93 :: z) p l = .ok (l, p) z := by
  obtain ⟨k, rfl⟩ : ∃ j, k = j + 1 := ⟨k - 1, by omega⟩
  rw [lsV, if_pos rfl]
theorem lsV_nil (f : L8 → Nat → Rs (Va × Nat)) (k : Nat) (p : Nat) (l : List Va) : lsV f k [] p l = .no [] := by
  cases k <;> rfl
theorem LocL.here {G : L8 → Rs (List Va × Nat)} {N : Nat} {t : L8} (h1 : G t = .no t) (h2 : ∀ z, t ≠ [] → z.head? = t.head? → G z = .no z) (h3 : G [] = .no []) {x : List Va × Nat} (h4 : ∀ z, G (93 :: z) = .ok x z) : LocL G N t := by
  unfold LocL
  rw [h1]
  exact ⟨[], rfl, fun z h hz => h2 z h hz, h3, [], by simp [hds], 0, Nat.zero_le _, Clean.nil.opn0, ⟨x, fun z => h4 z⟩, fun _ => ⟨rfl, rfl⟩⟩
theorem lsV_loc {f : L8 → Nat → Rs (Va × Nat)} {N : Nat} (hf : ∀ p, p < 512 → ∀ t, LocV (fun t => f t p) N t) (hp : Part f) (hn : ∀ p, f [] p = .no []) : ∀ (k : Nat) (t : L8) (p : Nat) (l : List Va), p ≤ 512 → 513 - p ≤ k → LocL (fun t => lsV f k t p l) N t
  | 0, t, p, l, h1, h2 => by omega
  | k + 1, [], p, l, h1, h2 => LocL.here rfl (fun z h => absurd rfl h) rfl (x := (l, p)) (fun z => lsV_93 f (k + 1) z p l (by omega))
  | k + 1, c :: t, p, l, h1, h2 => by
    by_cases h93 : c = 93
    · subst h93
      unfold LocL
      simp only
      rw [lsV_93 f (k + 1) t p l (by omega)]
      exact ⟨[93], rfl, by simp, fun o pv => ⟨93, rfl⟩, fun z => lsV_93 f (k + 1) z p l (by omega)⟩
    have hbr : ∀ z, z.head? = (c :: t).head? → ∃ m, z = c :: m := fun z hz => by
      cases z with
      | nil => cases hz
      | cons x z =>
        obtain rfl : x = c := by simpa using hz
        exact ⟨z, rfl⟩
    by_cases hbad : 512 ≤ p ∨ (l ≠ [] ∧ c ≠ 32)
    · have hs : ∀ z, lsV f (k + 1) (c :: z) p l = .no (c :: z) := fun z => by rw [lsV, if_neg h93, if_pos hbad]
      refine LocL.here (hs t) (fun z _ hz => ?_) rfl (x := (l, p)) (fun z => lsV_93 f (k + 1) z p l (by omega))
      obtain ⟨m, rfl⟩ := hbr z hz
      exact hs m
    have hp5 : p < 512 := by omega
    obtain ⟨e, t1, het, hst, hcl, hel, hnl⟩ : ∃ e t1, c :: t = e ++ t1 ∧ (∀ y, (l = [] → ∃ m, y = c :: m) → lsV f (k + 1) (e ++ y) p l = match f y p with | .ok (v, q) r => lsV f k r q (l ++ [v]) | .no r => .no r) ∧ Clean e 0 ∧ (l = [] → e = [] ∧ t1 = c :: t) ∧ (l ≠ [] → e ≠ []) := by
      by_cases hl : l = []
      · refine ⟨[], c :: t, rfl, fun y hy => ?_, Clean.nil, fun _ => ⟨rfl, rfl⟩, fun h => absurd hl h⟩
        obtain ⟨m, rfl⟩ := hy hl
        rw [List.nil_append, lsV, if_neg h93, if_neg hbad, if_pos hl]
        rfl
      · have hc : c = 32 := Decidable.byContradiction fun h => hbad (.inr ⟨hl, h⟩)
        subst hc
        refine ⟨[32], t, rfl, fun y _ => ?_, fun o pv => ⟨32, by simp [scL, scS]⟩, fun h => absurd h hl, fun _ => by simp⟩
        show lsV f (k + 1) (32 :: y) p l = _
        rw [lsV, if_neg h93, if_neg hbad, if_neg hl]
        rfl
    have ih := hf p hp5 t1
    unfold LocV at ih
    simp only at ih
    have hhd : ∀ u z, u ≠ [] → (∃ r, t1 = u ++ r) → (l = [] → ∃ m, u ++ z = c :: m) := fun u z hu ⟨r, hr⟩ hl => by
      have e1 := (hel hl).2
      rw [hr] at e1
      cases u with
      | nil => exact absurd rfl hu
      | cons x u =>
        injection e1 with e2 e3
        exact ⟨u ++ z, by rw [e2]; rfl⟩
    have hself := hst t1 (fun hl => ⟨t, (hel hl).2⟩)
    rw [← het] at hself
    cases hE : f t1 p with
    | no r =>
      rw [hE] at ih hself
      obtain ⟨u, hu, g2, g3, h, g4, d, g5, g6, x, g7⟩ := ih
      by_cases hz : l = [] ∧ u = []
      · obtain ⟨hl, rfl⟩ := hz
        obtain ⟨e1, e2⟩ := hel hl
        rw [List.nil_append] at hu
        subst hu
        have hs1 : lsV f (k + 1) (c :: t) p l = .no (c :: t) := by rw [hself]; exact congrArg _ e2
        refine LocL.here hs1 (fun z _ hz => ?_) rfl (x := (l, p)) (fun z => lsV_93 f (k + 1) z p l (by omega))
        obtain ⟨m, rfl⟩ := hbr z hz
        have := hst (c :: m) (fun _ => ⟨m, rfl⟩)
        rw [e1, List.nil_append] at this
        have g2' := g2 (c :: m) (by rw [e2]; simp) (by rw [e2]; rfl)
        rw [List.nil_append] at g2'
        rw [this, g2']
      · have hu0 : ∀ z, l = [] → ∃ m, u ++ z = c :: m := fun z hl => hhd u z (fun h => hz ⟨hl, h⟩) ⟨r, hu⟩ hl
        unfold LocL
        simp only
        rw [hself]
        obtain ⟨xv, xq⟩ := x
        have hxq : p < xq ∧ xq ≤ 512 := by
          have := g7 [] rfl
          exact hp _ _ _ _ hp5 this
        refine ⟨e ++ u, by rw [het, hu, List.append_assoc], fun z h hz => ?_, ?_, h, g4, d, g5, hcl.opn g6, ⟨(l ++ [xv], xq), fun z => ?_⟩, fun h0 => ?_⟩
        · rw [List.append_assoc, hst _ (hu0 z), g2 z h hz]
        · have h0 := hst u (fun hl => by have := hu0 [] hl; rwa [List.append_nil] at this)
          rw [h0]
          rcases g3 with g3 | g3 | ⟨y, g3⟩
          · rw [g3, hn]
          · rw [g3]
          · rw [g3]
            obtain ⟨yv, yq⟩ := y
            exact lsV_nil _ _ _ _
        · rw [List.append_assoc, hst _ (hu0 _), g7 (93 :: z) rfl]
          exact lsV_93 f k z xq _ (by omega)
        · exfalso
          have h1 := List.append_eq_nil_iff.1 h0
          by_cases hl : l = []
          · exact hz ⟨hl, h1.2⟩
          · exact hnl hl h1.1
    | ok y r =>
      obtain ⟨v, q⟩ := y
      rw [hE] at ih hself
      obtain ⟨u, hu, g1, g2, g3⟩ := ih
      have hq := hp _ _ _ _ hp5 hE
      simp only at hq
      have hu0 : ∀ z, l = [] → ∃ m, u ++ z = c :: m := fun z hl => hhd u z g1 ⟨r, hu⟩ hl
      have hgo : ∀ z, Nx r z → lsV f (k + 1) (e ++ (u ++ z)) p l = lsV f k z q (l ++ [v]) := fun z hz => by
        rw [hst _ (hu0 z), g3 z hz]
      have ih2 := lsV_loc hf hp hn k r q (l ++ [v]) hq.2 (by omega)
      unfold LocL at ih2 ⊢
      simp only at ih2 ⊢
      rw [hself]
      simp only
      cases hE2 : lsV f k r q (l ++ [v]) with
      | ok x2 r2 =>
        rw [hE2] at ih2
        obtain ⟨u2, k1, k2, k3, k4⟩ := ih2
        refine ⟨e ++ (u ++ u2), by rw [het, hu, k1, List.append_assoc, List.append_assoc], by simp [g1], ?_, fun z => ?_⟩
        · have := hcl.append (g2.append k3)
          simpa using this
        · rw [List.append_assoc, List.append_assoc, hgo _ (.inr (by rw [k1]; exact head_app k2)), k4 z]
      | no r2 =>
        rw [hE2] at ih2
        obtain ⟨u2, k1, k2, k3, h, k4, d, k5, k6, ⟨x, k7⟩, k8⟩ := ih2
        have hnx : ∀ z, (u2 = [] → Nx r z) → Nx r (u2 ++ z) := fun z h => by
          by_cases h0 : u2 = []
          · rw [h0, List.nil_append]; exact h h0
          · exact .inr (by rw [k1]; exact head_app h0)
        refine ⟨e ++ (u ++ u2), by rw [het, hu, k1, List.append_assoc, List.append_assoc], fun z h hz => ?_, ?_, h, k4, d, k5, hcl.opn (g2.opn k6), ⟨x, fun z => ?_⟩, fun h0 => ?_⟩
        · rw [List.append_assoc, List.append_assoc, hgo _ (hnx z fun h0 => .inr (by rw [k1, h0]; exact hz)), k2 z h hz]
        · have := hgo (u2 ++ []) (hnx [] fun _ => .inl rfl)
          rw [List.append_nil] at this
          rw [this, k3]
        · rw [List.append_assoc, List.append_assoc, hgo _ (hnx _ fun h0 => .inl (by rw [(k8 h0).1, (k8 h0).2]; rfl)), k7 z]
        · exfalso
          have := List.append_eq_nil_iff.1 (List.append_eq_nil_iff.1 h0).2
          exact g1 this.1
theorem rdV_nil (nest p : Nat) : rdV nest [] p = .no [] := by cases nest <;> rfl
theorem rdV_95 (nest : Nat) (z : L8) (p : Nat) : rdV nest (95 :: z) p = .ok (.mk 0 0 ⟨#[]⟩ [] 0, p + 1) z := by cases nest <;> rfl
/-- Stuck right here. -/
theorem LocV.here {nest p N : Nat} {t : L8} (h1 : rdV nest t p = .no t) (h2 : ∀ z, t ≠ [] → z.head? = t.head? → rdV nest z p = .no z) : LocV (fun t => rdV nest t p) N t := by
  unfold LocV
  simp only
  rw [h1]
  exact ⟨[], rfl, fun z h hz => h2 z h hz, .inl rfl, [95], by simp [hds], 0, Nat.zero_le _, Clean.nil.opn0, _, fun z _ => rdV_95 nest z p⟩
theorem rdV_ref0 (nest : Nat) (z : L8) (p : Nat) (hz : dig0 z = false) : rdV nest (35 :: 49 :: z) p = .ok (.mk 4 0 ⟨#[]⟩ [] 1, p + 1) z := by
  rw [rdV_ref nest 49 z p (by decide), numV_dig false 49 (by decide), numL_stop _ _ _ hz]
  rfl
theorem rdV_ref_bad (nest : Nat) (d : UInt8) (t : L8) (p : Nat) (h : d.toNat < 49 ∨ 57 < d.toNat) : rdV nest (35 :: d :: t) p = .no (d :: t) := by
  cases nest <;> exact if_pos h
theorem rdV_loc1 (nest p : Nat) (_hp : p < 512) (t : L8) (hl : ∀ m, nest = m + 1 → ∀ t, LocL (fun t => lsV (rdV m) 514 t (p + 1) []) m t) : LocV (fun t => rdV nest t p) nest t := by
  cases t with
  | nil => exact LocV.here (rdV_nil nest p) (fun z h => absurd rfl h)
  | cons c t =>
  have hbr : ∀ z : L8, z.head? = (c :: t).head? → ∃ m, z = c :: m := fun z hz => by
    cases z with
    | nil => cases hz
    | cons x z =>
      obtain rfl : x = c := by simpa using hz
      exact ⟨z, rfl⟩
  by_cases h95 : c = 95
  · subst h95
    unfold LocV
    simp only
    rw [rdV_95]
    exact ⟨[95], rfl, by simp, fun o pv => ⟨95, by simp [scL, scS]⟩, fun z _ => rdV_95 nest z p⟩
  by_cases hnum : c = 45 ∨ digB c = true
  · have hst := fun z => rdV_num nest c z p h95 hnum
    have hloc : LocN (numV true) (c :: t) := by
      rcases hnum with rfl | hd
      · exact numV_loc_neg t
      · exact numV_loc_dig true c hd t
    have hcs : ∀ {u r : L8}, c :: t = u ++ r → u ≠ [] → ∃ v, u = c :: v := fun {u r} h h0 => by
      cases u with
      | nil => exact absurd rfl h0
      | cons x v => injection h with h1 h2; exact ⟨v, by rw [h1]⟩
    unfold LocN at hloc
    unfold LocV
    simp only
    rw [hst t]
    cases hE : numV true (c :: t) with
    | ok m r =>
      rw [hE] at hloc
      obtain ⟨u, h1, h2, h3, h4⟩ := hloc
      obtain ⟨v, rfl⟩ := hcs h1 h2
      refine ⟨c :: v, h1, h2, h3.clean, fun z hz => ?_⟩
      have := h4 z hz
      rw [List.cons_append] at this ⊢
      rw [hst, this]
    | no r =>
      rw [hE] at hloc
      obtain ⟨u, h1, h2, h3, h4, h5, h, h6, m, h7⟩ := hloc
      obtain ⟨v, rfl⟩ := hcs h1 h2
      refine ⟨c :: v, h1, fun z g hz => ?_, .inr ?_, h, h6, 0, Nat.zero_le _, h3.clean.opn0, (.mk 1 m ⟨#[]⟩ [] 0, p + 1), fun z hz => ?_⟩
      · have := h4 z g hz
        rw [List.cons_append] at this ⊢
        rw [hst, this]
      · rw [hst]
        rcases h5 with h5 | ⟨x, h5⟩
        · rw [h5]; exact .inl rfl
        · rw [h5]; exact .inr ⟨_, rfl⟩
      · have := h7 z hz
        rw [List.cons_append] at this ⊢
        show rdV nest (c :: (v ++ (h ++ z))) p = _
        rw [hst, this]
  by_cases h35 : c = 35
  · subst h35
    have hb : Bare [35] := fun x hx => by simp at hx; subst hx; decide
    cases t with
    | nil =>
      unfold LocV
      simp only
      have e0 : rdV nest [35] p = .no [] := by cases nest <;> rfl
      rw [e0]
      exact ⟨[35], rfl, fun z h => absurd rfl h, .inr (.inl e0), [49], by simp [hds], 0, Nat.zero_le _, hb.clean.opn0, _, fun z hz => rdV_ref0 nest z p hz⟩
    | cons d t =>
      have e0 : rdV nest [35] p = .no [] := by cases nest <;> rfl
      by_cases h : d.toNat < 49 ∨ 57 < d.toNat
      · unfold LocV
        simp only
        rw [rdV_ref_bad nest d t p h]
        refine ⟨[35], rfl, fun z _ hz => ?_, .inr (.inl e0), [49], by simp [hds], 0, Nat.zero_le _, hb.clean.opn0, _, fun z hz => rdV_ref0 nest z p hz⟩
        cases z with
        | nil => cases hz
        | cons x z =>
          obtain rfl : x = d := by simpa using hz
          exact rdV_ref_bad nest x z p h
      · have hst := fun z => rdV_ref nest d z p (by omega)
        have hd : digB d = true := by simp only [digB, Bool.and_eq_true, decide_eq_true_eq]; omega
        have hloc := numV_loc_dig false d hd t
        have hcs : ∀ {u r : L8}, d :: t = u ++ r → u ≠ [] → ∃ v, u = d :: v := fun {u r} h h0 => by
          cases u with
          | nil => exact absurd rfl h0
          | cons x v => injection h with h1 h2; exact ⟨v, by rw [h1]⟩
        unfold LocN at hloc
        unfold LocV
        simp only
        rw [hst t]
        cases hE : numV false (d :: t) with
        | ok m r =>
          rw [hE] at hloc
          obtain ⟨u, h1, h2, h3, h4⟩ := hloc
          obtain ⟨v, rfl⟩ := hcs h1 h2
          refine ⟨35 :: d :: v, by rw [h1]; rfl, by simp, (h3.cons (by decide)).clean, fun z hz => ?_⟩
          have := h4 z hz
          rw [List.cons_append] at this
          rw [List.cons_append, List.cons_append, hst, this]
        | no r =>
          rw [hE] at hloc
          obtain ⟨u, h1, h2, h3, h4, h5, h, h6, m, h7⟩ := hloc
          obtain ⟨v, rfl⟩ := hcs h1 h2
          refine ⟨35 :: d :: v, by rw [h1]; rfl, fun z g hz => ?_, .inr ?_, h, h6, 0, Nat.zero_le _, (h3.cons (by decide)).clean.opn0, (.mk 4 0 ⟨#[]⟩ [] m, p + 1), fun z hz => ?_⟩
          · have := h4 z g hz
            rw [List.cons_append] at this
            rw [List.cons_append, List.cons_append, hst, this]
          · rw [hst]
            rcases h5 with h5 | ⟨x, h5⟩
            · rw [h5]; exact .inl rfl
            · rw [h5]; exact .inr ⟨_, rfl⟩
          · have := h7 z hz
            rw [List.cons_append] at this
            show rdV nest (35 :: d :: (v ++ (h ++ z))) p = _
            rw [hst, this]
  by_cases h34 : c = 34
  · subst h34
    have hst := fun z => rdV_text nest z p
    have hloc := qa_loc 256 t .run []
    unfold LocQ at hloc
    unfold LocV
    simp only
    rw [hst t]
    cases hE : qa 256 .run t [] with
    | ok b r =>
      rw [hE] at hloc
      obtain ⟨u, h1, h2, h3⟩ := hloc
      refine ⟨34 :: u, by rw [h1]; rfl, by simp, fun o pv => ?_, fun z _ => by rw [List.cons_append, hst, h2 z]⟩
      obtain ⟨pv', e⟩ := h3 ⟨o, true, 0, 34⟩ ⟨rfl, rfl⟩
      refine ⟨pv', ?_⟩
      rw [scL_cons, Int.add_zero]
      exact e
    | no r =>
      rw [hE] at hloc
      obtain ⟨u, h1, h2, h3, ⟨h, h4, x, h5⟩, h6⟩ := hloc
      refine ⟨34 :: u, by rw [h1]; rfl, fun z g hz => by rw [List.cons_append, hst, h2 z g hz], .inr (.inl (by rw [hst, h3])), h, h4, 0, Nat.zero_le _, fun o pv => ?_, (.mk 2 0 (txtV x) [] 0, p + 1), fun z _ => ?_⟩
      · obtain ⟨i, e, pv', e1⟩ := h6 ⟨o, true, 0, 34⟩ ⟨rfl, rfl⟩
        refine ⟨i, e, pv', ?_⟩
        rw [scL_cons]
        refine Eq.trans e1 ?_
        simp
      · show rdV nest (34 :: (u ++ (h ++ z))) p = _
        rw [hst, h5 z]
  by_cases h91 : c = 91
  · subst h91
    cases nest with
    | zero =>
      refine LocV.here rfl (fun z _ hz => ?_)
      obtain ⟨m, rfl⟩ := hbr z hz
      rfl
    | succ n =>
      have hst := fun z => rdV_list n z p
      have hloc := hl n rfl t
      unfold LocL at hloc
      simp only at hloc
      unfold LocV
      simp only
      rw [hst t]
      have h91c : Clean [91] 1 := fun o pv => ⟨91, by simp [scL, scS]⟩
      cases hE : lsV (rdV n) 514 t (p + 1) [] with
      | ok y r =>
        obtain ⟨vs, q⟩ := y
        rw [hE] at hloc
        obtain ⟨u, h1, h2, h3, h4⟩ := hloc
        refine ⟨91 :: u, by rw [h1]; rfl, by simp, ?_, fun z _ => by rw [List.cons_append, hst, h4 z]⟩
        have := h91c.append h3
        simpa using this
      | no r =>
        rw [hE] at hloc
        obtain ⟨u, h1, h2, h3, h, h4, d, h5, h6, ⟨x, h7⟩, _⟩ := hloc
        obtain ⟨vs, q⟩ := x
        refine ⟨91 :: u, by rw [h1]; rfl, fun z g hz => by rw [List.cons_append, hst, h2 z g hz], .inr (.inl (by rw [hst, h3])), h, h4, d + 1, by omega, h91c.opn1 h6, (.mk 3 0 ⟨#[]⟩ vs 0, q), fun z _ => ?_⟩
        have e1 : List.replicate (d + 1) (93 : UInt8) ++ z = List.replicate d 93 ++ 93 :: z := by
          rw [List.replicate_succ', List.append_assoc]; rfl
        rw [e1]
        show rdV (n + 1) (91 :: (u ++ (h ++ (List.replicate d 93 ++ 93 :: z)))) p = _
        rw [hst, h7 z]
  · have hs : ∀ z, rdV nest (c :: z) p = .no (c :: z) := fun z => by
      cases nest <;> (unfold rdV; rw [if_neg h95, if_neg hnum, if_neg h35, if_neg h34, if_neg h91])
    refine LocV.here (hs t) (fun z _ hz => ?_)
    obtain ⟨m, rfl⟩ := hbr z hz
    exact hs m
theorem rdV_loc : ∀ (nest p : Nat), p < 512 → ∀ t, LocV (fun t => rdV nest t p) nest t := by
  intro nest
  induction nest with
  | zero => exact fun p hp t => rdV_loc1 0 p hp t (fun n e => by omega)
  | succ n ih =>
    refine fun p hp t => rdV_loc1 (n + 1) p hp t (fun m e => ?_)
    obtain rfl : n = m := by omega
    exact fun t => lsV_loc (fun p hp t => ih p hp t) (rdV_part n) (rdV_nil n) 514 t (p + 1) [] (by omega) (by omega)
theorem readL_ok {t : L8} {x : Va × Nat} (h : rdV 16 t 0 = .ok x []) : readL t = .ok x.1 [] := by unfold readL; rw [h]
theorem readL_more {t : L8} {x : Va × Nat} {c : UInt8} {r : L8} (h : rdV 16 t 0 = .ok x (c :: r)) : readL t = .no (c :: r) := by unfold readL; rw [h]
theorem readL_no {t r : L8} (h : rdV 16 t 0 = .no r) : readL t = .no r := by unfold readL; rw [h]
/-- Where Read is stuck: what went well, whatever stands behind, and how it is gone on with. -/
theorem read_loc (t r : L8) (h : readL t = .no r) : ∃ u, t = u ++ r ∧ (∀ c m r', r = c :: r' → readL (u ++ c :: m) = .no (c :: m)) ∧ (u ≠ [] → readL u = .no [] ∨ ∃ x, readL u = .ok x []) ∧
    ∃ hd ∈ hds, ∃ d : Nat, d ≤ 16 ∧ (∃ i e pv, scL ⟨0, false, 0, 0⟩ u = ⟨d, i, e, pv⟩) ∧ ∃ x, readL (u ++ (hd ++ List.replicate d 93)) = .ok x [] := by
  have hloc := rdV_loc 16 0 (by decide) t
  unfold LocV at hloc
  simp only at hloc
  cases hE : rdV 16 t 0 with
  | ok x r2 =>
    rw [hE] at hloc
    obtain ⟨u, h1, h2, h3, h4⟩ := hloc
    cases r2 with
    | nil => rw [readL_ok hE] at h; cases h
    | cons c r3 =>
      rw [readL_more hE] at h
      injection h with h
      subst h
      have e1 := h4 [] (.inl rfl)
      rw [List.append_nil] at e1
      refine ⟨u, h1, fun c' m r' e => ?_, fun _ => .inr ⟨_, readL_ok e1⟩, [], by simp [hds], 0, by decide, ?_, x.1, ?_⟩
      · injection e with e2 e3
        subst e2
        exact readL_more (h4 (c :: m) (.inr rfl))
      · obtain ⟨pv, e⟩ := h3 0 0
        exact ⟨false, 0, pv, e⟩
      · rw [List.replicate_zero, List.append_nil, List.append_nil]
        exact readL_ok e1
  | no r2 =>
    rw [hE] at hloc
    rw [readL_no hE] at h
    injection h with h
    subst h
    obtain ⟨u, h1, h2, h3, hd, h4, d, h5, h6, x, h7⟩ := hloc
    refine ⟨u, h1, fun c m r' e => readL_no (h2 (c :: m) (by rw [e]; simp) (by rw [e]; rfl)), fun hu => ?_, hd, h4, d, h5, ?_, x.1, ?_⟩
    · rcases h3 with h3 | h3 | ⟨y, h3⟩
      · exact absurd h3 hu
      · exact .inl (readL_no h3)
      · exact .inr ⟨_, readL_ok h3⟩
    · obtain ⟨i, e, pv, e1⟩ := h6 0 0
      exact ⟨i, e, pv, by rw [e1]; simp⟩
    · have := h7 [] rfl
      rw [List.append_nil] at this
      exact readL_ok this
end Go.Proofs.YtkhpfghehjcfoaaDoor
