/- package word: what is said of the taker's value. -/
import Derived.Test.YtkhpfghehjcfoaaDoorXt
import Derived.Test.YtkhpfghehjcfoaaDoorZi
namespace Go.Proofs.YtkhpfghehjcfoaaDoor
open Go.RowKit

def TRsP {α : Type} (r : TRs α) (l : List Tk) (i : Nat) (e : Ending) (ok : α → Nat → Prop) : Prop :=
  match r with
  | .ok a t => ∃ j, i < j ∧ j ≤ l.length ∧ t = l.drop j ∧ ok a j
  | .no t => ∃ j, j ≤ l.length ∧ t = l.drop j ∧ e = stuckE j
theorem Tkr.adv {w : World} {p : Nat} {v : Value} {i k : Nat} (h : Tkr w p v i k) : Tkr (w.setCell ⟨p, 1, Option.none⟩ (.int .i64 ((i : Int) + 1))) p v (i + 1) k := by
  have := BlkN.set h 1 (.int .i64 ((i : Int) + 1))
  unfold Tkr
  simpa using this
theorem Tkr.inc {w : World} {p : Nat} {v : Value} {i k : Nat} (h : Tkr w p v i k) : Tkr (w.setCell ⟨p, 2, Option.none⟩ (.int .i64 ((k : Int) + 1))) p v i (k + 1) := by
  have := BlkN.set h 2 (.int .i64 ((k : Int) + 1))
  unfold Tkr
  simpa using this
theorem Tkr.below {w w' : World} {p : Nat} {v : Value} {i k : Nat} (h : Tkr w p v i k) (hb : Below w.heap.size w w') : Tkr w' p v i k := BlkN.below h hb
theorem Tkr.but {w w' : World} {p b : Nat} {v : Value} {i k : Nat} (h : Tkr w p v i k) (hb : But b w w') (hn : p ≠ b) : Tkr w' p v i k := (hb.other p hn).trans h
theorem tnext_at {l : List Tk} {w : World} {B p i k : Nat} {v : Value} (h : Tkr w p v i k) (hv : IsTks w B v l) (hB : B ≤ w.heap.size) (hok : ∀ t ∈ l, TkOk t) (hh : i < l.length) {t : Tk} (ht : t = l[i]) (hm : tokMay t = true) :
    Calls Tryd.prog 87 #[.pointer (some ⟨p, 0, Option.none⟩)] w fun e w' => e = .returned (.agg t.arr) ∧ Below w.heap.size w w' := (tnext_any l w B p i k v h hv hB hok).mono fun e w' h => by
  obtain ⟨h1, ⟨h2, _⟩ | ⟨_, ⟨h2, _⟩ | ⟨_, rfl⟩⟩⟩ := h
  · omega
  · rw [← ht, hm] at h2; cases h2
  · exact ⟨by rw [ht], h1⟩
theorem tnext_bad {l : List Tk} {w : World} {B p i k : Nat} {v : Value} (h : Tkr w p v i k) (hv : IsTks w B v l) (hB : B ≤ w.heap.size) (hok : ∀ t ∈ l, TkOk t) (hh : i < l.length) {t : Tk} (ht : t = l[i]) (hm : tokMay t = false) :
    Calls Tryd.prog 87 #[.pointer (some ⟨p, 0, Option.none⟩)] w fun e w' => e = stuckE i ∧ Below w.heap.size w w' := (tnext_any l w B p i k v h hv hB hok).mono fun e w' h => by
  obtain ⟨h1, ⟨h2, _⟩ | ⟨_, ⟨_, rfl⟩ | ⟨h2, _⟩⟩⟩ := h
  · omega
  · exact ⟨rfl, h1⟩
  · rw [← ht, hm] at h2; cases h2
theorem tnext_end {l : List Tk} {w : World} {B p i k : Nat} {v : Value} (h : Tkr w p v i k) (hv : IsTks w B v l) (hB : B ≤ w.heap.size) (hok : ∀ t ∈ l, TkOk t) (hh : l.length ≤ i) :
    Calls Tryd.prog 87 #[.pointer (some ⟨p, 0, Option.none⟩)] w fun e w' => e = stuckE l.length ∧ Below w.heap.size w w' := (tnext_any l w B p i k v h hv hB hok).mono fun e w' h => by
  obtain ⟨h1, ⟨_, rfl⟩ | ⟨h2, _⟩⟩ := h
  · exact ⟨rfl, h1⟩
  · omega
/-- A value has parts, and no more than may be. -/
def TPart (f : List Tk → Nat → TRs (Va × Nat)) : Prop := ∀ t k x r, k < 512 → f t k = .ok x r → k < x.2 ∧ x.2 ≤ 512
theorem tkLs_part {f : List Tk → Nat → TRs (Va × Nat)} (hf : TPart f) : ∀ (n : Nat) (t : List Tk) (k : Nat) (l : List Va) x r, k ≤ 512 → tkLs f n t k l = .ok x r → k ≤ x.2 ∧ x.2 ≤ 512
  | 0, t, k, l, x, r, _, h => by simp [tkLs] at h
  | n + 1, [], k, l, x, r, _, h => by simp [tkLs] at h
  | n + 1, c :: t, k, l, x, r, hk, h => by
    rw [tkLs] at h
    by_cases hm : tokMay c = false
    · rw [if_pos hm] at h; cases h
    rw [if_neg hm] at h
    by_cases hc : c.k = 5 ∧ c.s = [93]
    · rw [if_pos hc] at h
      injection h with h1 h2
      subst h1
      exact ⟨Nat.le_refl _, hk⟩
    rw [if_neg hc] at h
    by_cases hb : 512 ≤ k
    · rw [if_pos hb] at h; cases h
    rw [if_neg hb] at h
    cases he : f (c :: t) k with
    | no r' => rw [he] at h; cases h
    | ok y r' =>
      obtain ⟨v, q⟩ := y
      rw [he] at h
      have h1 := hf _ _ _ _ (by omega) he
      have h2 := tkLs_part hf n r' q (l ++ [v]) x r h1.2 h
      exact ⟨by have := h1.1; simp only at this; omega, h2.2⟩
theorem tkV_part : ∀ (nest : Nat), TPart (tkV nest) := by
  intro nest
  induction nest with
  | zero =>
    intro t k x r hk h
    cases t with
    | nil => unfold tkV at h; cases h
    | cons c t =>
      unfold tkV at h
      split at h
      · cases h
      split at h
      · injection h with h1 h2; subst h1; exact ⟨by simp, by simp; omega⟩
      split at h
      · injection h with h1 h2; subst h1; exact ⟨by simp, by simp; omega⟩
      split at h
      · injection h with h1 h2; subst h1; exact ⟨by simp, by simp; omega⟩
      split at h
      · injection h with h1 h2; subst h1; exact ⟨by simp, by simp; omega⟩
      split at h
      · cases h
      · cases h
  | succ n ih =>
    intro t k x r hk h
    cases t with
    | nil => unfold tkV at h; cases h
    | cons c t =>
      rw [tkV] at h
      split at h
      · cases h
      split at h
      · injection h with h1 h2; subst h1; exact ⟨by simp, by simp; omega⟩
      split at h
      · injection h with h1 h2; subst h1; exact ⟨by simp, by simp; omega⟩
      split at h
      · injection h with h1 h2; subst h1; exact ⟨by simp, by simp; omega⟩
      split at h
      · injection h with h1 h2; subst h1; exact ⟨by simp, by simp; omega⟩
      split at h
      · cases hL : tkLs (tkV n) 514 t (k + 1) [] with
        | no r' => rw [hL] at h; cases h
        | ok y r' =>
          obtain ⟨l, q⟩ := y
          rw [hL] at h
          injection h with h1 h2
          subst h1
          have := tkLs_part ih 514 t (k + 1) [] _ _ (by omega) hL
          simp only at this ⊢
          omega
      · cases h
/-- What is said of the taker's value, so many lists around it. -/
def TValC (nest : Nat) : Prop := ∀ (l : List Tk) (i k : Nat) (w : World) (B p : Nat) (v : Value), Tkr w p v i k → IsTks w B v l → B ≤ p → i ≤ l.length → (∀ t ∈ l, TkOk t) → k < 512 →
  Calls Tryd.prog 63 #[.pointer (some ⟨p, 0, Option.none⟩), .int .i64 ((16 : Int) - nest)] w fun e w' => Upd p w w' ∧ TRsP (tkV nest (l.drop i) k) l i e (fun x j => ∃ u, e = .returned u ∧ IsVaR w' (Own34 w' w.heap.size) u x.1 ∧ Tkr w' p v j x.2)
end Go.Proofs.YtkhpfghehjcfoaaDoor
