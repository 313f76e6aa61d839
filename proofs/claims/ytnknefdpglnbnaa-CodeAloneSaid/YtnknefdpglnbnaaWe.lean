/- CodeAlone, the plain law: how deep the statements of a walk stand; each of them alone may be; their abilities are what the code uses. -/
import Derived.Test.YtnknefdpglnbnaaPc
import Derived.Test.YtnknefdpglnbnaaWd
namespace Go.Proofs.Ytnknefdpglnbnaa
open Go Go.RowKit Go.Told

def lastD (a : Int) : List (Int × St) → Int
  | [] => a
  | k :: r => lastD k.1 r
def Stp (a : Int) : List (Int × St) → Prop
  | [] => True
  | k :: r => 0 ≤ k.1 ∧ k.1 ≤ a + 1 ∧ Stp k.1 r
theorem lastD_append : ∀ (X Y : List (Int × St)) (a : Int), lastD a (X ++ Y) = lastD (lastD a X) Y
  | [], _, _ => rfl
  | k :: X, Y, _a => lastD_append X Y k.1
theorem Stp.append : ∀ {X Y : List (Int × St)} {a : Int}, Stp a X → Stp (lastD a X) Y → Stp a (X ++ Y)
  | [], _, _, _, h => h
  | _k :: _X, _Y, _a, ⟨h1, h2, h3⟩, h => ⟨h1, h2, Stp.append h3 h⟩
mutual
theorem flat_stp : ∀ (x : St) (d a : Int), 0 ≤ d → d ≤ a + 1 → Stp a (flat x d) ∧ d ≤ lastD a (flat x d)
  | .mk op nm sec ab wh xa xb t e c ws, d, a, h0, h1 => by
    obtain ⟨t1, t2⟩ := flats_stp t (d + 1) d (by omega) (by omega)
    obtain ⟨e1, e2⟩ := flats_stp e (d + 1) (lastD d (flats t (d + 1))) (by omega) (by omega)
    obtain ⟨c1, c2⟩ := flats_stp c (d + 1) (lastD (lastD d (flats t (d + 1))) (flats e (d + 1))) (by omega) (by omega)
    constructor
    · exact ⟨h0, h1, t1.append (e1.append c1)⟩
    · show d ≤ lastD d (flats t (d + 1) ++ (flats e (d + 1) ++ flats c (d + 1)))
      rw [lastD_append, lastD_append]
      omega
theorem flats_stp : ∀ (l : List St) (d a : Int), 0 ≤ d → d ≤ a + 1 → Stp a (flats l d) ∧ d - 1 ≤ lastD a (flats l d)
  | [], d, a, h0, h1 => ⟨trivial, by show d - 1 ≤ a; omega⟩
  | x :: l, d, a, h0, h1 => by
    obtain ⟨x1, x2⟩ := flat_stp x d a h0 h1
    obtain ⟨l1, l2⟩ := flats_stp l d (lastD a (flat x d)) h0 (by omega)
    constructor
    · exact x1.append l1
    · show d - 1 ≤ lastD a (flat x d ++ flats l d)
      rw [lastD_append]
      exact l2
end
theorem Stp.at : ∀ {L : List (Int × St)} {a : Int}, Stp a L → ∀ (m : Nat) (hm : m < L.length), 0 ≤ L[m].1 ∧ L[m].1 ≤ lastD a (L.take m) + 1
  | k :: L, a, ⟨h1, h2, h3⟩, 0, _ => ⟨h1, h2⟩
  | k :: L, a, ⟨h1, h2, h3⟩, m + 1, hm => h3.at m (by simpa using hm)
mutual
theorem flat_sub : ∀ (x : St) (d : Int) (k : Int × St), k ∈ flat x d → ∃ p q, flat x d = p ++ (flat k.2 k.1 ++ q)
  | .mk op nm sec ab wh xa xb t e c ws, d, k, h => by
    have hf : flat (.mk op nm sec ab wh xa xb t e c ws) d = (d, .mk op nm sec ab wh xa xb t e c ws) :: (flats t (d + 1) ++ (flats e (d + 1) ++ flats c (d + 1))) := rfl
    rw [hf] at h
    rcases List.mem_cons.1 h with rfl | h
    · exact ⟨[], [], by simp⟩
    · rcases List.mem_append.1 h with h | h
      · obtain ⟨p, q, hp⟩ := flats_sub t (d + 1) k h
        exact ⟨(d, .mk op nm sec ab wh xa xb t e c ws) :: p, q ++ (flats e (d + 1) ++ flats c (d + 1)), by rw [hf, hp]; simp⟩
      · rcases List.mem_append.1 h with h | h
        · obtain ⟨p, q, hp⟩ := flats_sub e (d + 1) k h
          exact ⟨(d, .mk op nm sec ab wh xa xb t e c ws) :: (flats t (d + 1) ++ p), q ++ flats c (d + 1), by rw [hf, hp]; simp⟩
        · obtain ⟨p, q, hp⟩ := flats_sub c (d + 1) k h
          exact ⟨(d, .mk op nm sec ab wh xa xb t e c ws) :: (flats t (d + 1) ++ (flats e (d + 1) ++ p)), q, by rw [hf, hp]; simp⟩
theorem flats_sub : ∀ (l : List St) (d : Int) (k : Int × St), k ∈ flats l d → ∃ p q, flats l d = p ++ (flat k.2 k.1 ++ q)
  | [], _, _, h => by simp [flats] at h
  | x :: l, d, k, h => by
    have hf : flats (x :: l) d = flat x d ++ flats l d := rfl
    rw [hf] at h
    rcases List.mem_append.1 h with h | h
    · obtain ⟨p, q, hp⟩ := flat_sub x d k h
      exact ⟨p, q ++ flats l d, by rw [hf, hp]; simp⟩
    · obtain ⟨p, q, hp⟩ := flats_sub l d k h
      exact ⟨flat x d ++ p, q, by rw [hf, hp]; simp⟩
end
/-- Each statement of a code that may be may be alone. -/
theorem alone_may (l : List St) (h : (chkL l).2 = 0) (k : Int × St) (hk : k ∈ flats l 0) : (chkL [k.2]).2 = 0 := by
  obtain ⟨p, q, hp⟩ := flats_sub l 0 k hk
  have hm := chk_zero_may _ 0 (by omega) h
  have hl := chk_zero _ 0 (by omega) h
  have e : flats [k.2] 0 = flat k.2 0 := by simp [flats]
  unfold chkL
  rw [e, flat_snd k.2 0 k.1]
  rw [hp] at hm hl
  rw [List.map_append, List.map_append] at hm hl
  rw [List.all_append, List.all_append, Bool.and_eq_true, Bool.and_eq_true] at hm
  rw [List.length_append, List.length_append] at hl
  rw [chk_all _ 0 hm.2.1 (by omega)]
/-- What a round asks of what it is told. -/
def GoodT (last : Int) (k : Int × St) : Prop := 0 ≤ k.1 ∧ k.1 ≤ last + 1 ∧ (chkL [k.2]).2 = 0
theorem told_good (l : List St) (m : Nat) (hm : m < (toldL l).length) : GoodT (lastD (-1) ((toldL l).take m)) (toldL l)[m] := by
  unfold toldL at hm ⊢
  split at hm
  · rename_i hz
    simp only [hz, if_true]
    obtain ⟨h1, h2⟩ := ((flats_stp l 0 (-1) (by omega) (by omega)).1).at m hm
    exact ⟨h1, h2, alone_may l hz _ (List.getElem_mem hm)⟩
  · simp at hm
theorem one_may {x : St} (h : (chkL [x]).2 = 0) : mayS x = true := by
  have := chk_zero_may _ 0 (by omega) h
  obtain ⟨op, nm, sec, ab, wh, a, b, t, e, c, ws⟩ := x
  simp only [flats, flat, List.append_nil, List.map_cons, List.all_cons, Bool.and_eq_true] at this
  exact this.1
theorem oneI_lt {a : Int} (h0 : 0 ≤ a) (h : oneI a = true) : a < 64 := by
  unfold oneI oneB mayB at h
  simp at h
  omega
/-- The abilities as the law gathers them. -/
theorem able_two {u : Nat} (hu : u < 64) {nm sec : ByteArray} {ab wh : Int} {a b : Ex} {t e c : List St} {ws : List ByteArray} (h0 : 0 ≤ ab) (h : (chkL [.mk 2 nm sec ab wh a b t e c ws]).2 = 0) :
    bits .or .u8 (u : Nat) ab = (stepA u (.mk 2 nm sec ab wh a b t e c ws) : Nat) := by
  have hm := one_may h
  simp [mayS] at hm
  have h1 := oneI_lt h0 hm.1.1.1.1.2
  have h2 := or_nat0 ⟨u, hu⟩ ⟨ab.toNat, by omega⟩
  simp only [stepA, if_true]
  rw [show ab % 64 = ab from by omega, ← h2, show ((ab.toNat : Nat) : Int) = ab from by omega]
theorem able_nine {u : Nat} (hu : u < 64) : bits .or .u8 (u : Nat) 1 = ((u ||| 1 : Nat) : Int) := or_nat0 ⟨u, hu⟩ ⟨1, by omega⟩
end Go.Proofs.Ytnknefdpglnbnaa
