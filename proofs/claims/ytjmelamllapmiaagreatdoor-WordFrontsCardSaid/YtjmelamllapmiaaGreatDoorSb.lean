/- What the document's reader of values reads, in plain Lean; it is what the program's reads. -/
import Derived.Test.YtjmelamllapmiaaGreatDoorSa
namespace Go.Proofs.YtjmelamllapmiaaGreatDoor
open Go.RowKit

/-- Digits, up to the first that does not fit. -/
def cntL (limit : Nat) : L8 → Nat → Nat × L8
  | [], n => (n, [])
  | c :: t, n => if digB c then (if (limit - (c.toNat - 48)) / 10 < n then (n, c :: t) else cntL limit t (n * 10 + (c.toNat - 48))) else (n, c :: t)
/-- A number, with whether it is stuck. -/
def cntV (limit : Nat) (least : Bool) : L8 → Nat × L8 × Bool
  | [] => (0, [], true)
  | c :: t => if digB c ∧ (c ≠ 48 ∨ least = false) then (if c = 48 then (0, t, false) else ((cntL limit t (c.toNat - 48)).1, (cntL limit t (c.toNat - 48)).2, false)) else (0, c :: t, true)
theorem cntV_cons (limit : Nat) (least : Bool) (c : UInt8) (t : L8) : cntV limit least (c :: t) = if digB c ∧ (c ≠ 48 ∨ least = false) then (if c = 48 then (0, t, false) else ((cntL limit t (c.toNat - 48)).1, (cntL limit t (c.toNat - 48)).2, false)) else (0, c :: t, true) := rfl
def dig0 : L8 → Bool | [] => false | c :: _ => digB c
theorem numL_cnt (most : Nat) : ∀ (t : L8) (n : Nat), 0 < n → numL most t n true = if dig0 (cntL most t n).2 then .no (cntL most t n).2 else .ok (cntL most t n).1 (cntL most t n).2
  | [], n, _ => by simp [numL, cntL, dig0]
  | c :: t, n, hn => by
    unfold numL cntL
    by_cases hd : digB c = true
    · rw [if_pos hd, if_pos hd]
      by_cases hf : (most - (c.toNat - 48)) / 10 < n
      · rw [if_pos (.inr hf), if_pos hf]
        simp [dig0, hd]
      · rw [if_neg (by simp; omega), if_neg hf]
        exact numL_cnt most t _ (by omega)
    · rw [if_neg hd, if_neg hd]
      simp [dig0, hd]
theorem numL_zero (most : Nat) (t : L8) : numL most t 0 true = if dig0 t then .no t else .ok 0 t := by
  cases t with
  | nil => simp [numL, dig0]
  | cons c t =>
    unfold numL
    simp only [dig0]
    by_cases hd : digB c = true
    · simp [hd]
    · simp [hd]
/-- The program's number is the document's, but for a digit that stands behind it. -/
theorem num_cnt (most : Nat) (c : UInt8) (t : L8) (h : digB c = true) : numL most (c :: t) 0 false = if dig0 (cntV most false (c :: t)).2.1 then .no (cntV most false (c :: t)).2.1 else .ok (cntV most false (c :: t)).1 (cntV most false (c :: t)).2.1 := by
  have e : cntV most false (c :: t) = if c = 48 then (0, t, false) else ((cntL most t (c.toNat - 48)).1, (cntL most t (c.toNat - 48)).2, false) := by simp [cntV, h]
  rw [e]
  unfold numL
  rw [if_pos h, if_neg (by simp)]
  by_cases h0 : c = 48
  · subst h0
    rw [if_pos rfl]
    exact numL_zero most t
  · rw [if_neg h0]
    have hp : 0 < 0 * 10 + (c.toNat - 48) := by
      simp only [digB, Bool.and_eq_true, decide_eq_true_eq] at h
      have : c.toNat ≠ 48 := fun e => h0 (UInt8.toNat_inj.1 e)
      omega
    rw [numL_cnt most t _ hp]
    simp
abbrev zVa : Va := .mk 0 0 ⟨#[]⟩ [] 0
/-- The lists of the document's reader: what it has, the rest, whether it is stuck, the room. -/
def lsR (f : L8 → Nat → Va × L8 × Bool × Nat) : Nat → L8 → Nat → List Va → List Va × L8 × Bool × Nat
  | 0, t, m, l => (l, t, true, m)
  | k + 1, t, m, l =>
    match f t m with
    | (v, r, true, m') => (l ++ [v], r, true, m')
    | (v, [], false, m') => (l ++ [v], [], true, m')
    | (v, c :: r, false, m') => if c = 93 then (l ++ [v], r, false, m') else if c = 32 ∧ 0 < m' then lsR f k r m' (l ++ [v]) else (l ++ [v], c :: r, true, m')
def rdR : Nat → L8 → Nat → Va × L8 × Bool × Nat
  | _, t, 0 => (zVa, t, true, 0)
  | _, [], m + 1 => (zVa, [], true, m)
  | nest, c :: t, m + 1 =>
    if c = 95 then (zVa, t, false, m)
    else if c = 35 then (.mk 4 0 ⟨#[]⟩ [] ((cntV posM true t).1 : Nat), (cntV posM true t).2.1, (cntV posM true t).2.2, m)
    else if c = 45 then (.mk 1 (-((cntV (posM + 1) true t).1 : Nat)) ⟨#[]⟩ [] 0, (cntV (posM + 1) true t).2.1, (cntV (posM + 1) true t).2.2, m)
    else if digB c then (.mk 1 ((cntV posM false (c :: t)).1 : Nat) ⟨#[]⟩ [] 0, (cntV posM false (c :: t)).2.1, (cntV posM false (c :: t)).2.2, m)
    else if c = 34 then (match qa 256 .run t [] with | .ok b r => (.mk 2 0 (txtV b) [] 0, r, false, m) | .no r => (.mk 2 0 ⟨#[]⟩ [] 0, r, true, m))
    else if c = 91 then
      (match nest with
      | 0 => (zVa, c :: t, true, m)
      | n + 1 =>
        match t with
        | 93 :: r => (.mk 3 0 ⟨#[]⟩ [] 0, r, false, m)
        | _ => (.mk 3 0 ⟨#[]⟩ (lsR (rdR n) 513 t m []).1 0, (lsR (rdR n) 513 t m []).2.1, (lsR (rdR n) 513 t m []).2.2.1, (lsR (rdR n) 513 t m []).2.2.2))
    else (zVa, c :: t, true, m)
/-- What is said of the two readers at one value. -/
def Rd2 (f : L8 → Nat → Rs (Va × Nat)) (g : L8 → Nat → Va × L8 × Bool × Nat) : Prop := ∀ (t : L8) (m : Nat), 0 < m → m ≤ 512 →
  ((g t m).2.2.1 = true → f t (512 - m) = .no (g t m).2.1) ∧
  ((g t m).2.2.1 = false → (g t m).2.2.2 < m ∧ (f t (512 - m) = .ok ((g t m).1, 512 - (g t m).2.2.2) (g t m).2.1 ∨ (dig0 (g t m).2.1 = true ∧ f t (512 - m) = .no (g t m).2.1)))
/-- An element, and what stands behind it. -/
def elemV (f : L8 → Nat → Rs (Va × Nat)) (k : Nat) (t : L8) (p : Nat) (l : List Va) : Rs (List Va × Nat) :=
  match f t p with
  | .ok (v, q) r => lsV f k r q (l ++ [v])
  | .no r => .no r
theorem lsV_next (f : L8 → Nat → Rs (Va × Nat)) (k : Nat) (c : UInt8) (t : L8) (p : Nat) (l : List Va) (h : c ≠ 93) (hp : p < 512) (hc : l ≠ [] → c = 32) : lsV f (k + 1) (c :: t) p l = elemV f k (if l = [] then c :: t else t) p l := by
  rw [lsV, if_neg h, if_neg (fun e => e.elim (fun hh => by omega) (fun ⟨h1, h2⟩ => h2 (hc h1)))]
  rfl
theorem ls_same {f : L8 → Nat → Rs (Va × Nat)} {g : L8 → Nat → Va × L8 × Bool × Nat} (h : Rd2 f g) : ∀ (k k2 : Nat) (t : L8) (m : Nat) (l : List Va), 0 < m → m ≤ 512 → m ≤ k → m ≤ k2 →
    ((lsR g k t m l).2.2.1 = true → elemV f k2 t (512 - m) l = .no (lsR g k t m l).2.1) ∧
    ((lsR g k t m l).2.2.1 = false → (lsR g k t m l).2.2.2 < m ∧ elemV f k2 t (512 - m) l = .ok ((lsR g k t m l).1, 512 - (lsR g k t m l).2.2.2) (lsR g k t m l).2.1)
  | 0, k2, t, m, l, h0, _, h2, _ => by omega
  | k + 1, k2, t, m, l, h0, h1, h2, h3 => by
    obtain ⟨h4, h5⟩ := h t m h0 h1
    obtain ⟨k2, rfl⟩ : ∃ j, k2 = j + 1 := ⟨k2 - 1, by omega⟩
    unfold lsR elemV
    generalize g t m = G at h4 h5
    obtain ⟨v, r, st, m'⟩ := G
    simp only at h4 h5
    cases st with
    | true => simp [h4 rfl]
    | false =>
      obtain ⟨hm, hf⟩ := h5 rfl
      cases r with
      | nil =>
        have hf' := hf.resolve_right (by simp [dig0])
        simp [hf', lsV]
      | cons c r =>
        simp only
        by_cases hc : c = 93
        · subst hc
          have hf' := hf.resolve_right (by simp [dig0, digB])
          simp [hf', lsV, hm]
        · rw [if_neg hc]
          by_cases hs : c = 32 ∧ 0 < m'
          · rw [if_pos hs]
            obtain ⟨rfl, hm0⟩ := hs
            have hf' := hf.resolve_right (by simp [dig0, digB])
            rw [hf']
            simp only
            rw [lsV_next f k2 32 r (512 - m') (l ++ [v]) (by decide) (by omega) (fun _ => rfl), if_neg (by simp)]
            obtain ⟨a, b⟩ := ls_same h k k2 r m' (l ++ [v]) hm0 (by omega) (by omega) (by omega)
            exact ⟨a, fun hh => ⟨by have := (b hh).1; omega, (b hh).2⟩⟩
          · rw [if_neg hs]
            refine ⟨fun _ => ?_, fun hh => by simp at hh⟩
            rcases hf with hf | ⟨_, hf⟩
            · rw [hf]
              simp only
              rw [lsV, if_neg hc, if_pos ?_]
              by_cases hm0 : m' = 0
              · left; omega
              · right
                exact ⟨by simp, fun e => hs ⟨e, by omega⟩⟩
            · rw [hf]
theorem rd_same : ∀ (nest : Nat), Rd2 (rdV nest) (rdR nest)
  | nest, t, 0, h0, _ => absurd h0 (by omega)
  | nest, [], m + 1, _, _ => by
    cases nest <;> simp [rdR, rdV]
  | nest, c :: t, m + 1, _, hm => by
    have hp : 512 - (m + 1) + 1 = 512 - m := by omega
    unfold rdR rdV
    rw [hp]
    by_cases h95 : c = 95
    · simp [h95]
    rw [if_neg h95, if_neg h95]
    by_cases h35 : c = 35
    · subst h35
      rw [if_pos rfl, if_neg (by decide), if_pos rfl]
      cases t with
      | nil => simp [cntV]
      | cons d t =>
        by_cases hd : d.toNat < 49 ∨ 57 < d.toNat
        · have : ¬ (digB d = true ∧ (d ≠ 48 ∨ true = false)) := by
            rintro ⟨h1, h2⟩
            simp only [digB, Bool.and_eq_true, decide_eq_true_eq] at h1
            have h48 : d.toNat ≠ 48 := fun e => h2.elim (fun h => h (UInt8.toNat_inj.1 e)) (fun h => by simp at h)
            omega
          have e : cntV posM true (d :: t) = (0, d :: t, true) := by rw [cntV_cons, if_neg this]
          simp [e, hd]
        · have hd2 : digB d = true := by simp only [digB, Bool.and_eq_true, decide_eq_true_eq]; omega
          have h48 : d ≠ 48 := fun e => by subst e; simp at hd
          have e1 : cntV posM true (d :: t) = cntV posM false (d :: t) := by simp [cntV, hd2, h48]
          have e2 : (cntV posM false (d :: t)).2.2 = false := by simp [cntV, hd2, h48]
          have h45 : d ≠ 45 := fun e => by subst e; simp [digB] at hd2
          simp only [if_neg hd]
          rw [e1, e2]
          refine ⟨fun h => by simp at h, fun _ => ⟨Nat.lt_succ_self m, ?_⟩⟩
          simp only [numV, Bool.false_eq_true, false_and, if_false]
          rw [num_cnt posM d t hd2]
          by_cases hg : dig0 (cntV posM false (d :: t)).2.1 = true
          · rw [if_pos hg]; exact .inr ⟨hg, rfl⟩
          · rw [if_neg hg]; exact .inl rfl
    rw [if_neg h35]
    by_cases h45 : c = 45
    · subst h45
      rw [if_pos rfl, if_pos (.inl rfl)]
      cases t with
      | nil => simp [cntV, numV]
      | cons d t =>
        by_cases hd : d.toNat < 49 ∨ 57 < d.toNat
        · have : ¬ (digB d = true ∧ (d ≠ 48 ∨ true = false)) := by
            rintro ⟨h1, h2⟩
            simp only [digB, Bool.and_eq_true, decide_eq_true_eq] at h1
            have h48 : d.toNat ≠ 48 := fun e => h2.elim (fun h => h (UInt8.toNat_inj.1 e)) (fun h => by simp at h)
            omega
          have e : cntV (posM + 1) true (d :: t) = (0, d :: t, true) := by rw [cntV_cons, if_neg this]
          simp [e, numV, hd]
        · have hd2 : digB d = true := by simp only [digB, Bool.and_eq_true, decide_eq_true_eq]; omega
          have h48 : d ≠ 48 := fun e => by subst e; simp at hd
          have e1 : cntV (posM + 1) true (d :: t) = cntV (posM + 1) false (d :: t) := by simp [cntV, hd2, h48]
          have e2 : (cntV (posM + 1) false (d :: t)).2.2 = false := by simp [cntV, hd2, h48]
          rw [e1, e2]
          refine ⟨fun h => by simp at h, fun _ => ⟨Nat.lt_succ_self m, ?_⟩⟩
          simp only [numV, true_and, if_true, if_neg hd]
          rw [num_cnt (posM + 1) d t hd2]
          by_cases hg : dig0 (cntV (posM + 1) false (d :: t)).2.1 = true
          · rw [if_pos hg]; exact .inr ⟨hg, rfl⟩
          · rw [if_neg hg]; exact .inl rfl
    rw [if_neg h45]
    by_cases hd : digB c = true
    · rw [if_pos hd, if_pos (.inr hd)]
      have e2 : (cntV posM false (c :: t)).2.2 = false := by rw [cntV_cons, if_pos ⟨hd, .inr rfl⟩]; split <;> rfl
      rw [e2]
      refine ⟨fun h => by simp at h, fun _ => ⟨Nat.lt_succ_self m, ?_⟩⟩
      simp only [numV, h45, and_false, if_false]
      rw [num_cnt posM c t hd]
      by_cases hg : dig0 (cntV posM false (c :: t)).2.1 = true
      · rw [if_pos hg]; exact .inr ⟨hg, rfl⟩
      · rw [if_neg hg]; exact .inl rfl
    have hnn : ¬ (c = 45 ∨ digB c = true) := fun e => e.elim h45 hd
    rw [if_neg hd, if_neg hnn, if_neg h35]
    by_cases h34 : c = 34
    · rw [if_pos h34, if_pos h34]
      cases qa 256 .run t [] <;> simp
    rw [if_neg h34, if_neg h34]
    by_cases h91 : c = 91
    rotate_left
    · rw [if_neg h91, if_neg h91]; simp
    rw [if_pos h91, if_pos h91]
    cases nest with
    | zero => simp
    | succ n =>
      by_cases h93 : ∃ r, t = 93 :: r
      · obtain ⟨r, rfl⟩ := h93
        simp [lsV]
      have e0 : lsV (rdV n) 514 t (512 - m) [] = if 0 < m then elemV (rdV n) 513 t (512 - m) [] else .no t := by
        show lsV (rdV n) (513 + 1) t (512 - m) [] = _
        cases t with
        | nil =>
          simp only [lsV, elemV]
          split
          · cases n <;> simp [rdV]
          · rfl
        | cons c t =>
          have hc : c ≠ 93 := fun e => h93 ⟨t, by rw [e]⟩
          split
          · rw [lsV_next (rdV n) 513 c t _ [] hc (by omega) (by simp)]; simp
          · rw [lsV, if_neg hc, if_pos (.inl (by omega))]
      simp only [e0]
      split
      · rename_i r; exact absurd ⟨_, rfl⟩ h93
      · by_cases hm0 : 0 < m
        · rw [if_pos hm0]
          obtain ⟨a, b⟩ := ls_same (rd_same n) 513 513 t m [] hm0 (by omega) (by omega) (by omega)
          refine ⟨fun hh => ?_, fun hh => ?_⟩
          · rw [a hh]
          · obtain ⟨b1, b2⟩ := b hh
            refine ⟨Nat.lt_succ_of_lt b1, .inl ?_⟩
            rw [b2]
        · obtain rfl : m = 0 := by omega
          rw [if_neg hm0]
          have : lsR (rdR n) 513 t 0 [] = ([zVa], t, true, 0) := by cases n <;> simp [lsR, rdR]
          rw [this]
          simp
end Go.Proofs.YtjmelamllapmiaaGreatDoor
