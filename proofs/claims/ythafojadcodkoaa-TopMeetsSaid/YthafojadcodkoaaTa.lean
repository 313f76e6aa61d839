/- Plain laws behind TopMeets: things that stand before one another; what one can; narrowing, in one form. -/
import Derived.WalkKit
namespace Go.Proofs.Ythafojadcodkoaa

/-- A thing's bones: its kind, what it stands before, its set. -/
structure Th where
  (k of_ : Int)
  (set : Nat)
abbrev Gr := Int → Option Th
abbrev Fc := Int → Nat → Option Int
def wrapK (k : Int) : Bool := k == 14 || (k == 15 || k == 16)
def canN (k : Int) : Nat := if k = 1 then 3 else if k = 2 ∨ k = 3 then 9 else if k = 4 then 12 else if k = 5 ∨ k = 6 ∨ k = 8 ∨ k = 12 then 16 else if k = 9 then 13 else if k = 10 then 1 else if k = 11 then 8 else if k = 13 then 33 else 0
/-- r's way ends within so many things. -/
def endsF (G : Gr) : Nat → Int → Bool
  | 0, _ => false
  | n + 1, r => match G r with
    | none => false
    | some t => if wrapK t.k then endsF G n t.of_ else true
/-- What r can. -/
def ableF (G : Gr) : Nat → Int → Nat
  | 0, _ => 0
  | n + 1, r => match G r with
    | none => 0
    | some t => if t.k = 14 then t.set &&& ableF G n t.of_ else if wrapK t.k then ableF G n t.of_ else canN t.k
/-- What stands at the end of r's way. -/
def baseF (G : Gr) : Nat → Int → Int
  | 0, r => r
  | n + 1, r => match G r with
    | none => r
    | some t => if wrapK t.k then baseF G n t.of_ else r
theorem wrap14 {k : Int} (h : k = 14) : wrapK k = true := by subst h; rfl
theorem ends_succ {G : Gr} : ∀ {n : Nat} {r : Int}, endsF G n r = true → endsF G (n + 1) r = true ∧ ableF G (n + 1) r = ableF G n r ∧ baseF G (n + 1) r = baseF G n r
  | 0, r, h => by cases h
  | n + 1, r, h => by
    rw [endsF] at h
    rw [endsF, ableF, baseF]
    rw [show ableF G (n + 1) r = (match G r with
      | none => 0
      | some t => if t.k = 14 then t.set &&& ableF G n t.of_ else if wrapK t.k then ableF G n t.of_ else canN t.k) from rfl, show baseF G (n + 1) r = (match G r with
      | none => r
      | some t => if wrapK t.k then baseF G n t.of_ else r) from rfl]
    cases hg : G r with
    | none => rw [hg] at h; cases h
    | some t =>
      rw [hg] at h
      simp only at h ⊢
      by_cases hw : wrapK t.k = true
      · rw [if_pos hw] at h
        obtain ⟨h1, h2, h3⟩ := ends_succ h
        simp only [if_pos hw, h1, h2, h3, and_self]
      · have hn : t.k ≠ 14 := fun e => hw (wrap14 e)
        simp only [if_neg hw, if_neg hn, and_self]
theorem ends_le {G : Gr} {n m : Nat} {r : Int} (h : endsF G n r = true) (hm : n ≤ m) : endsF G m r = true ∧ ableF G m r = ableF G n r ∧ baseF G m r = baseF G n r := by
  induction m with
  | zero =>
    obtain rfl : n = 0 := by omega
    exact ⟨h, rfl, rfl⟩
  | succ m ih =>
    by_cases e : n = m + 1
    · subst e; exact ⟨h, rfl, rfl⟩
    · obtain ⟨h1, h2, h3⟩ := ih (by omega)
      obtain ⟨k1, k2, k3⟩ := ends_succ h1
      exact ⟨k1, k2.trans h2, k3.trans h3⟩
/-- r can a. -/
def Can (G : Gr) (r : Int) (a : Nat) : Prop := ∃ n, endsF G n r = true ∧ ableF G n r = a
def Base (G : Gr) (r b : Int) : Prop := ∃ n, endsF G n r = true ∧ baseF G n r = b
theorem Can.one {G : Gr} {r : Int} {a b : Nat} (h : Can G r a) (k : Can G r b) : a = b := by
  obtain ⟨n, h1, rfl⟩ := h
  obtain ⟨m, k1, rfl⟩ := k
  rw [← (ends_le h1 (Nat.le_max_left n m)).2.1, ← (ends_le k1 (Nat.le_max_right n m)).2.1]
theorem Base.one {G : Gr} {r : Int} {a b : Int} (h : Base G r a) (k : Base G r b) : a = b := by
  obtain ⟨n, h1, rfl⟩ := h
  obtain ⟨m, k1, rfl⟩ := k
  rw [← (ends_le h1 (Nat.le_max_left n m)).2.2, ← (ends_le k1 (Nat.le_max_right n m)).2.2]
/-- G' has all that G has. -/
def Ext (G G' : Gr) : Prop := ∀ r t, G r = some t → G' r = some t
theorem Ext.refl (G : Gr) : Ext G G := fun _ _ h => h
theorem Ext.trans {G G' G'' : Gr} (h : Ext G G') (k : Ext G' G'') : Ext G G'' := fun r t e => k r t (h r t e)
theorem Ext.ends {G G' : Gr} (h : Ext G G') : ∀ {n : Nat} {r : Int}, endsF G n r = true → endsF G' n r = true ∧ ableF G' n r = ableF G n r ∧ baseF G' n r = baseF G n r
  | 0, r, e => by cases e
  | n + 1, r, e => by
    rw [endsF] at e
    rw [endsF, ableF, baseF, ableF, baseF]
    cases hg : G r with
    | none => rw [hg] at e; cases e
    | some t =>
      rw [hg] at e
      rw [h r t hg]
      simp only at e ⊢
      by_cases hw : wrapK t.k = true
      · rw [if_pos hw] at e
        obtain ⟨h1, h2, h3⟩ := h.ends e
        simp only [if_pos hw, h1, h2, h3, and_self]
      · have hn : t.k ≠ 14 := fun e => hw (wrap14 e)
        simp only [if_neg hw, if_neg hn, and_self]
theorem Can.ext {G G' : Gr} {r : Int} {a : Nat} (h : Can G r a) (hx : Ext G G') : Can G' r a :=
  let ⟨n, h1, h2⟩ := h; ⟨n, (hx.ends h1).1, (hx.ends h1).2.1.trans h2⟩
theorem Base.ext {G G' : Gr} {r b : Int} (h : Base G r b) (hx : Ext G G') : Base G' r b :=
  let ⟨n, h1, h2⟩ := h; ⟨n, (hx.ends h1).1, (hx.ends h1).2.2.trans h2⟩
/-- A world that is sound: all ways end; a facet stands before a thing that is none, has less than it, and is found. -/
structure Sound (G : Gr) (F : Fc) : Prop where
  ends : ∀ r t, G r = some t → ∃ n, endsF G n r = true
  fac : ∀ f t, G f = some t → t.k = 14 → ∃ u, G t.of_ = some u ∧ u.k ≠ 14
  set : ∀ f t a, G f = some t → t.k = 14 → Can G t.of_ a → t.set ≠ a ∧ t.set &&& a = t.set
  found : ∀ o s f, F o s = some f ↔ ∃ t, G f = some t ∧ t.k = 14 ∧ t.of_ = o ∧ t.set = s
def rootG (G : Gr) (r : Int) : Int := match G r with
  | none => r
  | some t => if t.k = 14 then t.of_ else r
theorem Sound.can {G : Gr} {F : Fc} (h : Sound G F) {r : Int} {t : Th} (hr : G r = some t) : ∃ a, Can G r a := let ⟨n, hn⟩ := h.ends r t hr; ⟨_, n, hn, rfl⟩
theorem Sound.base {G : Gr} {F : Fc} (h : Sound G F) {r : Int} {t : Th} (hr : G r = some t) : ∃ a, Base G r a := let ⟨n, hn⟩ := h.ends r t hr; ⟨_, n, hn, rfl⟩
/-- The root of a thing: no facet. -/
theorem Sound.root {G : Gr} {F : Fc} (h : Sound G F) {r : Int} {t : Th} (hr : G r = some t) : ∃ u, G (rootG G r) = some u ∧ u.k ≠ 14 := by
  unfold rootG
  rw [hr]
  simp only
  by_cases hk : t.k = 14
  · rw [if_pos hk]; exact h.fac r t hr hk
  · rw [if_neg hk]; exact ⟨t, hr, hk⟩
theorem rootG_ext {G G' : Gr} (hx : Ext G G') {r : Int} {t : Th} (hr : G r = some t) : rootG G' r = rootG G r := by
  unfold rootG
  rw [hr, hx r t hr]
theorem can_facet {G : Gr} {r : Int} {t : Th} {a : Nat} (hr : G r = some t) (hk : t.k = 14) (ha : Can G t.of_ a) : Can G r (t.set &&& a) := by
  obtain ⟨n, h1, rfl⟩ := ha
  refine ⟨n + 1, ?_, ?_⟩
  · rw [endsF, hr]; simp only [if_pos (wrap14 hk)]; exact h1
  · rw [ableF, hr]; simp only [if_pos hk]
theorem base_wrap {G : Gr} {r : Int} {t : Th} {b : Int} (hr : G r = some t) (hk : wrapK t.k = true) (ha : Base G t.of_ b) : Base G r b := by
  obtain ⟨n, h1, rfl⟩ := ha
  refine ⟨n + 1, ?_, ?_⟩
  · rw [endsF, hr]; simp only [if_pos hk]; exact h1
  · rw [baseF, hr]; simp only [if_pos hk]
/-- What a thing can is within what its root can. -/
theorem Sound.within {G : Gr} {F : Fc} (_h : Sound G F) {r : Int} {t : Th} {a A : Nat} (hr : G r = some t) (ha : Can G r a) (hA : Can G (rootG G r) A) : a &&& A = a := by
  unfold rootG at hA
  rw [hr] at hA
  simp only at hA
  by_cases hk : t.k = 14
  · rw [if_pos hk] at hA
    obtain rfl := (can_facet hr hk hA).one ha
    rw [Nat.and_assoc, Nat.and_self]
  · rw [if_neg hk] at hA
    obtain rfl := ha.one hA
    exact Nat.and_self a
/-- The thing that has just a of the root t. -/
def Form (G : Gr) (F : Fc) (t : Int) (a : Nat) (q : Int) : Prop := ∃ A, Can G t A ∧ ((a = A ∧ q = t) ∨ (a ≠ A ∧ F t a = some q))
theorem Form.one {G : Gr} {F : Fc} {t q p : Int} {a : Nat} (h : Form G F t a q) (k : Form G F t a p) : q = p := by
  obtain ⟨A, h1, h2⟩ := h
  obtain ⟨B, k1, k2⟩ := k
  obtain rfl := h1.one k1
  rcases h2 with ⟨rfl, rfl⟩ | ⟨h2, h3⟩
  · rcases k2 with ⟨_, rfl⟩ | ⟨k2, _⟩
    · rfl
    · exact absurd rfl k2
  · rcases k2 with ⟨rfl, _⟩ | ⟨_, k3⟩
    · exact absurd rfl h2
    · exact Option.some.inj (h3.symm.trans k3)
def ExtF (F F' : Fc) : Prop := ∀ o s f, F o s = some f → F' o s = some f
theorem Form.ext {G G' : Gr} {F F' : Fc} {t q : Int} {a : Nat} (h : Form G F t a q) (hx : Ext G G') (hf : ExtF F F') : Form G' F' t a q := by
  obtain ⟨A, h1, h2⟩ := h
  exact ⟨A, h1.ext hx, h2.imp id fun ⟨h3, h4⟩ => ⟨h3, hf _ _ _ h4⟩⟩
/-- What is so formed has that root, and just that. -/
theorem Form.is {G : Gr} {F : Fc} (hs : Sound G F) {t q : Int} {u : Th} {a A : Nat} (ht : G t = some u) (hu : u.k ≠ 14) (hA : Can G t A) (ha : a &&& A = a) (h : Form G F t a q) : ∃ x, G q = some x ∧ rootG G q = t ∧ Can G q a := by
  obtain ⟨B, h1, h2⟩ := h
  obtain rfl := h1.one hA
  rcases h2 with ⟨rfl, rfl⟩ | ⟨h2, h3⟩
  · exact ⟨u, ht, by unfold rootG; rw [ht]; simp only [if_neg hu], h1⟩
  · obtain ⟨x, h4, h5, rfl, rfl⟩ := (hs.found _ _ _).1 h3
    refine ⟨x, h4, by unfold rootG; rw [h4]; simp only [if_pos h5], ?_⟩
    have := can_facet h4 h5 h1
    rwa [ha] at this
theorem Form.base {G : Gr} {F : Fc} (hs : Sound G F) {t q : Int} {a : Nat} {b : Int} (h : Form G F t a q) (hb : Base G t b) : Base G q b := by
  obtain ⟨B, h1, h2⟩ := h
  rcases h2 with ⟨rfl, rfl⟩ | ⟨h2, h3⟩
  · exact hb
  · obtain ⟨x, h4, h5, rfl, rfl⟩ := (hs.found _ _ _).1 h3
    exact base_wrap h4 (wrap14 h5) hb
theorem base_root {G : Gr} {r : Int} {t : Th} {b : Int} (hr : G r = some t) (hb : Base G (rootG G r) b) : Base G r b := by
  unfold rootG at hb
  rw [hr] at hb
  simp only at hb
  by_cases hk : t.k = 14
  · rw [if_pos hk] at hb; exact base_wrap hr (wrap14 hk) hb
  · rw [if_neg hk] at hb; exact hb
/-- A new facet. -/
def addG (G : Gr) (f t : Int) (a : Nat) : Gr := fun r => if r = f then some ⟨14, t, a⟩ else G r
def addF (F : Fc) (f t : Int) (a : Nat) : Fc := fun o s => if o = t ∧ s = a then some f else F o s
theorem add_ext {G : Gr} {f t : Int} {a : Nat} (hf : G f = none) : Ext G (addG G f t a) := fun r u h => by
  unfold addG
  rw [if_neg (fun e => by rw [e, hf] at h; cases h)]
  exact h
theorem add_extF {F : Fc} {f t : Int} {a : Nat} (hf : F t a = none) : ExtF F (addF F f t a) := fun o s g h => by
  unfold addF
  rw [if_neg (fun e => by rw [e.1, e.2, hf] at h; cases h)]
  exact h
theorem Sound.add {G : Gr} {F : Fc} (h : Sound G F) {f t : Int} {u : Th} {a A : Nat} (hf : G f = none) (hF : F t a = none) (ht : G t = some u) (hu : u.k ≠ 14) (hA : Can G t A) (hne : a ≠ A) (haA : a &&& A = a) :
    Sound (addG G f t a) (addF F f t a) := by
  have hx := add_ext (t := t) (a := a) hf
  have hft : t ≠ f := fun e => by rw [e, hf] at ht; cases ht
  have hin : ∀ r x, addG G f t a r = some x → (r = f ∧ x = ⟨14, t, a⟩) ∨ G r = some x := fun r x e => by
    unfold addG at e
    by_cases hr : r = f
    · rw [if_pos hr] at e; exact .inl ⟨hr, (Option.some.inj e).symm⟩
    · rw [if_neg hr] at e; exact .inr e
  have hff : addG G f t a f = some ⟨14, t, a⟩ := by unfold addG; rw [if_pos rfl]
  refine ⟨fun r x hr => ?_, fun r x hr hk => ?_, fun r x b hr hk hb => ?_, fun o s g => ?_⟩
  · rcases hin r x hr with ⟨rfl, rfl⟩ | hr
    · obtain ⟨n, h1, -⟩ := can_facet (t := ⟨14, t, a⟩) hff rfl (hA.ext hx)
      exact ⟨n, h1⟩
    · obtain ⟨n, hn⟩ := h.ends r x hr
      exact ⟨n, (hx.ends hn).1⟩
  · rcases hin r x hr with ⟨rfl, rfl⟩ | hr
    · exact ⟨u, hx t u ht, hu⟩
    · obtain ⟨v, h1, h2⟩ := h.fac r x hr hk
      exact ⟨v, hx _ _ h1, h2⟩
  · rcases hin r x hr with ⟨rfl, rfl⟩ | hr
    · obtain rfl := (hA.ext hx).one hb
      exact ⟨hne, haA⟩
    · obtain ⟨v, h1, h2⟩ := h.fac r x hr hk
      obtain ⟨c, hc⟩ := h.can h1
      obtain rfl := (hc.ext hx).one hb
      exact h.set r x c hr hk hc
  · constructor
    · intro e
      unfold addF at e
      by_cases hos : o = t ∧ s = a
      · rw [if_pos hos] at e
        obtain ⟨rfl, rfl⟩ := hos
        obtain rfl := Option.some.inj e
        exact ⟨_, hff, rfl, rfl, rfl⟩
      · rw [if_neg hos] at e
        obtain ⟨x, h1, h2⟩ := (h.found o s g).1 e
        exact ⟨x, hx _ _ h1, h2⟩
    · rintro ⟨x, h1, h2, rfl, rfl⟩
      rcases hin g x h1 with ⟨rfl, rfl⟩ | h1
      · unfold addF; rw [if_pos ⟨rfl, rfl⟩]
      · have h3 := (h.found x.of_ x.set g).2 ⟨x, h1, h2, rfl, rfl⟩
        exact add_extF hF _ _ _ h3
/-- What a narrowing does: the thing that it tells, and the world behind it. -/
def NarR (G : Gr) (F : Fc) (L : Int) (r : Int) (s : Nat) (q : Int) (G' : Gr) (F' : Fc) (L' : Int) : Prop :=
  ∃ a A, Can G r a ∧ Can G (rootG G r) A ∧
    ((a &&& s = A ∧ q = rootG G r ∧ G' = G ∧ F' = F ∧ L' = L) ∨
     (a &&& s ≠ A ∧ F (rootG G r) (a &&& s) = some q ∧ G' = G ∧ F' = F ∧ L' = L) ∨
     (a &&& s ≠ A ∧ F (rootG G r) (a &&& s) = none ∧ q = L + 1 ∧ G' = addG G q (rootG G r) (a &&& s) ∧ F' = addF F q (rootG G r) (a &&& s) ∧ L' = L + 1))
theorem and_within {a s A : Nat} (h : a &&& A = a) : (a &&& s) &&& A = a &&& s := by
  rw [Nat.and_assoc, Nat.and_comm s A, ← Nat.and_assoc, h]
theorem NarR.is {G G' : Gr} {F F' : Fc} {L L' r q : Int} {s a : Nat} {t : Th} (hs : Sound G F) (hr : G r = some t) (hL : ∀ r t, G r = some t → r ≤ L) (ha : Can G r a) (h : NarR G F L r s q G' F' L') :
    Sound G' F' ∧ Ext G G' ∧ ExtF F F' ∧ Form G' F' (rootG G r) (a &&& s) q ∧ (∀ r t, G' r = some t → r ≤ L') ∧ L ≤ L' ∧ L' ≤ L + 1 := by
  obtain ⟨b, A, h1, h2, h3⟩ := h
  obtain rfl := h1.one ha
  obtain ⟨u, hu, hk⟩ := hs.root hr
  rcases h3 with ⟨h3, rfl, rfl, rfl, rfl⟩ | ⟨h3, h4, rfl, rfl, rfl⟩ | ⟨h3, h4, rfl, rfl, rfl, rfl⟩
  · exact ⟨hs, Ext.refl _, fun _ _ _ h => h, ⟨A, h2, .inl ⟨h3, rfl⟩⟩, hL, by omega, by omega⟩
  · exact ⟨hs, Ext.refl _, fun _ _ _ h => h, ⟨A, h2, .inr ⟨h3, h4⟩⟩, hL, by omega, by omega⟩
  · have hf : G (L + 1) = none := by
      cases e : G (L + 1) with
      | none => rfl
      | some x => have := hL _ _ e; omega
    have hx := add_ext (t := rootG G r) (a := b &&& s) hf
    refine ⟨hs.add hf h4 hu hk h2 h3 (and_within (hs.within hr ha h2)), hx, add_extF h4, ⟨A, h2.ext hx, .inr ⟨h3, by unfold addF; rw [if_pos ⟨rfl, rfl⟩]⟩⟩, fun r t e => ?_, by omega, by omega⟩
    unfold addG at e
    by_cases hr : r = L + 1
    · omega
    · rw [if_neg hr] at e; have := hL _ _ e; omega
/-- Told again, nothing is made. -/
theorem NarR.again {G G' : Gr} {F F' : Fc} {L L' r q p : Int} {s a : Nat} (h : NarR G F L r s q G' F' L') (ha : Can G r a) (hp : Form G F (rootG G r) (a &&& s) p) : q = p ∧ G' = G ∧ F' = F ∧ L' = L := by
  obtain ⟨b, A, h1, h2, h3⟩ := h
  obtain rfl := h1.one ha
  obtain ⟨B, k1, k2⟩ := hp
  obtain rfl := k1.one h2
  rcases h3 with ⟨h3, rfl, rfl, rfl, rfl⟩ | ⟨h3, h4, rfl, rfl, rfl⟩ | ⟨h3, h4, rfl, rfl, rfl, rfl⟩
  · rcases k2 with ⟨_, rfl⟩ | ⟨k2, _⟩
    · exact ⟨rfl, rfl, rfl, rfl⟩
    · exact absurd h3 k2
  · rcases k2 with ⟨k2, _⟩ | ⟨_, k3⟩
    · exact absurd k2 h3
    · exact ⟨Option.some.inj (h4.symm.trans k3), rfl, rfl, rfl⟩
  · rcases k2 with ⟨k2, _⟩ | ⟨_, k3⟩
    · exact absurd k2 h3
    · rw [h4] at k3; cases k3
end Go.Proofs.Ythafojadcodkoaa
