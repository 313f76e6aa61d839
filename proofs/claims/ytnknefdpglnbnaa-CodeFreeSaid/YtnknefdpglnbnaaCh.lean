/- The document's answer on one statement is the program's: plain law. The document's walk of a code: a list of rows. The document's walk of a code, walked. -/
import Derived.Test.YtnknefdpglnbnaaCe
import Derived.Test.YtnknefdpglnbnaaZf
import Derived.Test.YtnknefdpglnbnaaLl
namespace Go.Proofs.Ytnknefdpglnbnaa
open Go.RowKit

theorem nameF_two (s : ByteArray) : nameF s 2 = mayN s := by simp [nameF]
theorem nameF_zero (s : ByteArray) : nameF s 0 = (s.toList == []) := by simp [nameF]
theorem mayE_none (x : Ex) (h : noneX x = true) : mayE x = false := by
  obtain ⟨k, n, s, l⟩ := x
  simp only [noneX, Bool.and_eq_true, beq_iff_eq] at h
  obtain ⟨⟨⟨rfl, rfl⟩, _⟩, _⟩ := h
  rw [mayE_eq]
  have : fldE (.mk 0 0 s l) = false := by simp [fldE, fldOk]
  rw [this]
  simp
theorem exprF_two (x : Ex) : exprF x 2 = mayE x := by
  unfold exprF
  cases h : noneX x
  · simp
  · simp [mayE_none x h]
theorem exprF_one (x : Ex) : exprF x 1 = orNoneE x := by
  unfold exprF orNoneE
  cases h : noneX x <;> simp
theorem exprF_zero (x : Ex) : exprF x 0 = noneX x := by
  unfold exprF
  cases h : noneX x <;> simp
theorem mayI_le : ∀ a : Fin 256, mayI ((a : Nat) : Int) = !decide (63 < ((a : Nat) : Int)) := by decide +kernel
theorem mayI_not {ab : Int} (h0 : 0 ≤ ab) (h1 : ab < 256) : mayI ab = !decide (63 < ab) := by
  obtain ⟨n, rfl⟩ := Int.eq_ofNat_of_zero_le h0
  exact mayI_le ⟨n, by omega⟩
theorem len_add (m n : Nat) : (!decide (0 < (m : Int) + n)) = ((m == 0) && (n == 0)) := by
  rw [Bool.eq_iff_iff]
  simp
  omega
theorem len_sum (m n : Nat) : decide (m + n = 0) = ((m == 0) && (n == 0)) := by
  rw [Bool.eq_iff_iff]
  simp
theorem ne_not (a b : Int) : (!(a != b)) = (a == b) := by simp [bne]
theorem stmtX_eq (op : Int) (nm sec : ByteArray) (ab wh : Int) (a b : Ex) (t e c : List St) (ws : List ByteArray) (h0 : 0 ≤ ab) (h1 : ab < 256) :
    stmtX (.mk op nm sec ab wh a b t e c ws) = mayS (.mk op nm sec ab wh a b t e c ws) := by
  have hI := mayI_not h0 h1
  unfold stmtX mayS formX
  simp only [len_sum]
  obtain ⟨cl, hcl⟩ : ∃ cl, cl = c.length := ⟨_, rfl⟩
  obtain ⟨wl, hwl⟩ : ∃ wl, wl = ws.length := ⟨_, rfl⟩
  obtain ⟨tl, htl⟩ : ∃ tl, tl = t.length := ⟨_, rfl⟩
  obtain ⟨el, hel⟩ : ∃ el, el = e.length := ⟨_, rfl⟩
  by_cases e1 : op = 1
  · subst e1
    first | (simp [bad2, bad4, zS, nameF_two, nameF_zero, exprF_one, exprF_zero, ← hcl, ← hwl, ← htl, ← hel, len_add, ne_not]; ac_rfl) | (simp [bad2, bad4, zS, nameF_two, nameF_zero, exprF_one, exprF_zero, exprF_two, ← hcl, ← hwl, ← htl, ← hel, len_add, ne_not]; done)
  by_cases e2 : op = 2
  · subst e2
    by_cases a1 : ab = 1
    · subst a1
      simp [bad2, bad4, zS, nameF_two, nameF_zero, exprF_zero, exprF_two, ← hcl, ← hwl, ← htl, ← hel, len_add, ne_not]
      unfold orNoneE
      cases noneX b <;> simp <;> ac_rfl
    by_cases a2 : ab = 32
    · subst a2
      simp [bad2, bad4, zS, nameF_two, nameF_zero, exprF_zero, exprF_two, ← hcl, ← hwl, ← htl, ← hel, len_add, ne_not]
      unfold orNoneE
      cases noneX b <;> simp <;> ac_rfl
    have b1 : (ab != 1) = true := by simpa using a1
    have b2 : (ab != 32) = true := by simpa using a2
    first | (simp [a1, a2, b1, b2, bad2, bad4, zS, nameF_two, nameF_zero, exprF_one, exprF_two, ← hcl, ← hwl, ← htl, ← hel, len_add, ne_not]; ac_rfl) | (simp [a1, a2, b1, b2, bad2, bad4, zS, nameF_two, nameF_zero, exprF_one, exprF_zero, exprF_two, ← hcl, ← hwl, ← htl, ← hel, len_add, ne_not]; done)
  by_cases e3 : op = 3
  · subst e3
    by_cases w1 : wh = 1
    · subst w1
      first | (simp [bad2, bad4, zS, nameF_two, nameF_zero, exprF_one, exprF_zero, ← hcl, ← hwl, ← htl, ← hel, len_add, ne_not]; ac_rfl) | (simp [bad2, bad4, zS, nameF_two, nameF_zero, exprF_one, exprF_zero, exprF_two, ← hcl, ← hwl, ← htl, ← hel, len_add, ne_not]; done)
    by_cases w2 : wh = 2
    · subst w2
      first | (simp [bad2, bad4, zS, nameF_two, nameF_zero, exprF_zero, ← hcl, ← hwl, ← htl, ← hel, len_add, ne_not]; ac_rfl) | (simp [bad2, bad4, zS, nameF_two, nameF_zero, exprF_one, exprF_zero, exprF_two, ← hcl, ← hwl, ← htl, ← hel, len_add, ne_not]; done)
    by_cases w3 : wh = 3
    · subst w3
      first | (simp [bad2, bad4, zS, nameF_two, nameF_zero, exprF_zero, ← hcl, ← hwl, ← htl, ← hel, len_add, ne_not]; ac_rfl) | (simp [bad2, bad4, zS, nameF_two, nameF_zero, exprF_one, exprF_zero, exprF_two, ← hcl, ← hwl, ← htl, ← hel, len_add, ne_not]; done)
    by_cases w4 : wh = 4
    · subst w4
      first | (simp [bad2, bad4, zS, nameF_two, nameF_zero, exprF_zero, ← hcl, ← hwl, ← htl, ← hel, len_add, ne_not]; ac_rfl) | (simp [bad2, bad4, zS, nameF_two, nameF_zero, exprF_one, exprF_zero, exprF_two, ← hcl, ← hwl, ← htl, ← hel, len_add, ne_not]; done)
    by_cases w8 : wh = 8
    · subst w8
      first | (simp [bad2, bad4, zS, nameF_two, nameF_zero, exprF_zero, ← hcl, ← hwl, ← htl, ← hel, len_add, ne_not]; ac_rfl) | (simp [bad2, bad4, zS, nameF_two, nameF_zero, exprF_one, exprF_zero, exprF_two, ← hcl, ← hwl, ← htl, ← hel, len_add, ne_not]; done)
    by_cases w14 : wh = 14
    · subst w14
      rw [hI]
      first | (simp [bad2, bad4, zS, nameF_two, nameF_zero, exprF_zero, exprF_two, ← hcl, ← hwl, ← htl, ← hel, len_add]; ac_rfl) | (simp [bad2, bad4, zS, nameF_two, nameF_zero, exprF_one, exprF_zero, exprF_two, ← hcl, ← hwl, ← htl, ← hel, len_add, ne_not]; done)
    by_cases w15 : wh = 15
    · subst w15
      first | (simp [bad2, bad4, zS, nameF_two, exprF_zero, exprF_two, ← hcl, ← hwl, ← htl, ← hel, len_add, ne_not]; ac_rfl) | (simp [bad2, bad4, zS, nameF_two, nameF_zero, exprF_one, exprF_zero, exprF_two, ← hcl, ← hwl, ← htl, ← hel, len_add, ne_not]; done)
    by_cases w16 : wh = 16
    · subst w16
      first | (simp [bad2, bad4, zS, nameF_two, exprF_zero, exprF_two, ← hcl, ← hwl, ← htl, ← hel, len_add, ne_not]; ac_rfl) | (simp [bad2, bad4, zS, nameF_two, nameF_zero, exprF_one, exprF_zero, exprF_two, ← hcl, ← hwl, ← htl, ← hel, len_add, ne_not]; done)
    by_cases w5 : wh = 5
    · subst w5
      first | (simp [bad2, bad4, zS, nameF_two, exprF_zero, ← hcl, ← hwl, ← htl, ← hel, len_add, ne_not]; ac_rfl) | (simp [bad2, bad4, zS, nameF_two, nameF_zero, exprF_one, exprF_zero, exprF_two, ← hcl, ← hwl, ← htl, ← hel, len_add, ne_not]; done)
    by_cases w10 : wh = 10
    · subst w10
      first | (simp [bad2, bad4, zS, nameF_two, exprF_zero, ← hcl, ← hwl, ← htl, ← hel, len_add, ne_not]; ac_rfl) | (simp [bad2, bad4, zS, nameF_two, nameF_zero, exprF_one, exprF_zero, exprF_two, ← hcl, ← hwl, ← htl, ← hel, len_add, ne_not]; done)
    by_cases w12 : wh = 12
    · subst w12
      first | (simp [bad2, bad4, zS, nameF_two, nameF_zero, exprF_zero, ← hcl, ← hwl, ← htl, ← hel, len_add, ne_not]; ac_rfl) | (simp [bad2, bad4, zS, nameF_two, nameF_zero, exprF_one, exprF_zero, exprF_two, ← hcl, ← hwl, ← htl, ← hel, len_add, ne_not]; done)
    first | (simp [w1, w2, w3, w4, w8, w14, w15, w16, w5, w10, w12, bad2, bad4, nameF_two, nameF_zero, exprF_zero, ← hcl, ← hwl, ← htl, ← hel, len_add, ne_not]; ac_rfl) | (simp [w1, w2, w3, w4, w8, w14, w15, w16, w5, w10, w12, bad2, bad4, nameF_two, nameF_zero, exprF_zero, ← hcl, ← hwl, ← htl, ← hel, len_add, ne_not]; done)
  by_cases e4 : op = 4
  · subst e4
    first | (simp [bad2, bad4, zS, nameF_two, nameF_zero, exprF_two, ← hcl, ← hwl, ← htl, ← hel, len_add, ne_not]; ac_rfl) | (simp [bad2, bad4, zS, nameF_two, nameF_zero, exprF_one, exprF_zero, exprF_two, ← hcl, ← hwl, ← htl, ← hel, len_add, ne_not]; done)
  by_cases e5 : op = 5
  · subst e5
    first | (simp [bad2, bad4, zS, nameF_zero, exprF_one, ← hcl, ← hwl, ← htl, ← hel, ne_not]; ac_rfl) | (simp [bad2, bad4, zS, nameF_two, nameF_zero, exprF_one, exprF_zero, exprF_two, ← hcl, ← hwl, ← htl, ← hel, len_add, ne_not]; done)
  by_cases e6 : op = 6
  · subst e6
    rw [hI]
    first | (simp [bad2, bad4, zS, nameF_zero, exprF_zero, exprF_two, ← hcl, ← hwl, ← htl, ← hel, ne_not]; ac_rfl) | (simp [bad2, bad4, zS, nameF_two, nameF_zero, exprF_one, exprF_zero, exprF_two, ← hcl, ← hwl, ← htl, ← hel, len_add, ne_not]; done)
  by_cases e7 : op = 7
  · subst e7
    first | (simp [bad2, bad4, zS, nameF_zero, exprF_one, exprF_zero, ← hcl, ← hwl, ← htl, ← hel, len_add, ne_not]; ac_rfl) | (simp [bad2, bad4, zS, nameF_two, nameF_zero, exprF_one, exprF_zero, exprF_two, ← hcl, ← hwl, ← htl, ← hel, len_add, ne_not]; done)
  by_cases e8 : op = 8
  · subst e8
    first | (simp [bad2, bad4, zS, nameF_zero, exprF_zero, ← hcl, ← hwl, ← htl, ← hel, len_add, ne_not]; ac_rfl) | (simp [bad2, bad4, zS, nameF_two, nameF_zero, exprF_one, exprF_zero, exprF_two, ← hcl, ← hwl, ← htl, ← hel, len_add, ne_not]; done)
  by_cases e9 : op = 9
  · subst e9
    first | (simp [bad2, bad4, zS, nameF_two, nameF_zero, exprF_zero, exprF_two, ← hcl, ← hwl, ← htl, ← hel, len_add, ne_not]; ac_rfl) | (simp [bad2, bad4, zS, nameF_two, nameF_zero, exprF_one, exprF_zero, exprF_two, ← hcl, ← hwl, ← htl, ← hel, len_add, ne_not]; done)
  simp [e1, e2, e3, e4, e5, e6, e7, e8, e9, bad2, bad4, nameF_zero, exprF_zero, ← hcl, ← hwl, ← htl, ← hel, len_add, ne_not]
end Go.Proofs.Ytnknefdpglnbnaa
namespace Go.Proofs.Ytnknefdpglnbnaa
open Go.RowKit

abbrev RowX := Int × Bool × St
mutual
def walkX1 : St → Int → Bool → List RowX → List RowX
  | .mk op nm sec ab wh a b t e c ws, d, i, acc => walkX c (d + 1) true (walkX e (d + 1) i (walkX t (d + 1) i (acc ++ [(d, i, .mk op nm sec ab wh a b t e c ws)])))
def walkX : List St → Int → Bool → List RowX → List RowX
  | [], _, _, acc => acc
  | x :: l, d, i, acc => if acc.length ≤ 512 then walkX l d i (walkX1 x d i acc) else acc
end
mutual
def flatI : St → Int → Bool → List RowX
  | .mk op nm sec ab wh a b t e c ws, d, i => (d, i, .mk op nm sec ab wh a b t e c ws) :: (flatsI t (d + 1) i ++ (flatsI e (d + 1) i ++ flatsI c (d + 1) true))
def flatsI : List St → Int → Bool → List RowX
  | [], _, _ => []
  | x :: l, d, i => flatI x d i ++ flatsI l d i
end
mutual
theorem flatI_flat : ∀ (x : St) (d : Int) (i : Bool), (flatI x d i).map (fun r => (r.1, r.2.2)) = flat x d
  | .mk op nm sec ab wh a b t e c ws, d, i => by simp [flatI, flat, flatsI_flats t, flatsI_flats e, flatsI_flats c]
theorem flatsI_flats : ∀ (l : List St) (d : Int) (i : Bool), (flatsI l d i).map (fun r => (r.1, r.2.2)) = flats l d
  | [], _, _ => by simp [flatsI, flats]
  | x :: l, d, i => by simp [flatsI, flats, flatI_flat x, flatsI_flats l]
end
theorem take513 {α : Type} (a b : List α) (h : a.length ≤ 513) : ((a ++ b).take 513).length ≤ 513 := by simp; omega
theorem take_more {α : Type} (a b c : List α) (_h : a.length ≤ 513) : ((a ++ b).take 513 ++ c).take 513 = (a ++ (b ++ c)).take 513 := by
  rw [← List.append_assoc, List.take_append, List.take_append (l₁ := a ++ b), List.take_take, Nat.min_self, List.length_take]
  by_cases hl : (a ++ b).length ≤ 513
  · rw [Nat.min_eq_right hl]
  · rw [Nat.min_eq_left (by omega), Nat.sub_self, show 513 - (a ++ b).length = 0 by omega]
mutual
theorem walkX1_eq : ∀ (x : St) (d : Int) (i : Bool) (acc : List RowX), acc.length ≤ 512 → walkX1 x d i acc = (acc ++ flatI x d i).take 513
  | .mk op nm sec ab wh a b t e c ws, d, i, acc, h => by
    have h1 : (acc ++ [(d, i, St.mk op nm sec ab wh a b t e c ws)]).length ≤ 513 := by simp; omega
    rw [walkX1, walkX_eq t _ _ _ h1, walkX_eq e _ _ _ (take513 _ _ h1), take_more _ _ _ h1, walkX_eq c _ _ _ (take513 _ _ h1), take_more _ _ _ h1, flatI]
    simp
theorem walkX_eq : ∀ (l : List St) (d : Int) (i : Bool) (acc : List RowX), acc.length ≤ 513 → walkX l d i acc = (acc ++ flatsI l d i).take 513
  | [], d, i, acc, h => by rw [walkX, flatsI, List.append_nil, List.take_of_length_le h]
  | x :: l, d, i, acc, h => by
    rw [walkX, flatsI]
    by_cases h1 : acc.length ≤ 512
    · rw [if_pos h1, walkX1_eq x d i acc h1, walkX_eq l _ _ _ (take513 _ _ h), take_more _ _ _ h]
    · rw [if_neg h1, List.take_append_of_le_length (by omega), List.take_of_length_le (by omega)]
end
theorem walkX_len (l : List St) (d : Int) (i : Bool) (acc : List RowX) (h : acc.length ≤ 513) : (walkX l d i acc).length ≤ 513 ∧ acc.length ≤ (walkX l d i acc).length := by
  rw [walkX_eq l d i acc h]
  simp
  omega
theorem walkX_take (l : List St) (d : Int) (i : Bool) (acc : List RowX) (h : acc.length ≤ 513) (k : Nat) (hk : k < l.length) (hl : (walkX (l.take k) d i acc).length ≤ 512) : walkX (l.take (k + 1)) d i acc = walkX1 l[k] d i (walkX (l.take k) d i acc) := by
  have hf : flatsI (l.take (k + 1)) d i = flatsI (l.take k) d i ++ flatI l[k] d i := by
    rw [List.take_succ_eq_append_getElem hk]
    generalize l.take k = m
    induction m with
    | nil => simp [flatsI]
    | cons x m ih => simp [flatsI, ih]
  rw [walkX1_eq _ _ _ _ hl, walkX_eq _ _ _ _ h, walkX_eq _ _ _ _ h, take_more _ _ _ h, hf]
theorem walkX_stop (l : List St) (d : Int) (i : Bool) (acc : List RowX) (h : acc.length ≤ 513) (k : Nat) (hk : 512 < (walkX (l.take k) d i acc).length) : walkX l d i acc = walkX (l.take k) d i acc := by
  have hf : flatsI l d i = flatsI (l.take k) d i ++ flatsI (l.drop k) d i := by
    have : ∀ a b : List St, flatsI (a ++ b) d i = flatsI a d i ++ flatsI b d i := by
      intro a b
      induction a with
      | nil => simp [flatsI]
      | cons x m ih => simp [flatsI, ih]
    rw [← this, List.take_append_drop]
  rw [walkX_eq _ _ _ _ h] at hk
  rw [walkX_eq _ _ _ _ h, walkX_eq _ _ _ _ h, hf, ← List.append_assoc, List.take_append_of_le_length (by simp at hk ⊢; omega)]
end Go.Proofs.Ytnknefdpglnbnaa
namespace Go.Proofs.Ytnknefdpglnbnaa
open Go.RowKit

/-- Rows of a walk. -/
def RdW : Rd RowX where
  P := fun w R cs r => ∃ s : SV, cs = .int .i64 r.1 :: .bool r.2.1 :: s.arr.toList ∧ IsStR w R s r.2.2
  keep := fun hk ⟨s, h1, h2⟩ => ⟨s, h1, h2.keep hk⟩
  mono := fun hk ⟨s, h1, h2⟩ => ⟨s, h1, h2.mono hk⟩
/-- The row has grown in its own block, or lies in a new one. -/
structure Grew (w w' : World) (v v' : Value) : Prop where
  grown : w.grownBy w' v.ownBlock
  blk : v'.ownBlock = v.ownBlock ∨ ∃ g, v'.ownBlock = some g ∧ w.heap.size ≤ g
theorem Grew.refl (w : World) (v : Value) : Grew w w v v := ⟨grown_of_below (Below.refl _ _) _, .inl rfl⟩
theorem Grew.trans {a b c : World} {u v z : Value} (h : Grew a b u v) (k : Grew b c v z) : Grew a c u z := by
  obtain ⟨h1, h2⟩ := h
  obtain ⟨k1, k2⟩ := k
  refine ⟨⟨k1.os.trans h1.os, k1.tape.trans h1.tape, k1.output.trans h1.output, Nat.le_trans h1.size k1.size, fun i hi hn => ?_⟩, ?_⟩
  · refine (k1.block i (Nat.lt_of_lt_of_le hi h1.size) ?_).trans (h1.block i hi hn)
    rcases h2 with h2 | ⟨g, h2, hg⟩
    · rw [h2]; exact hn
    · rw [h2]; simp; omega
  · rcases k2 with k2 | ⟨g, k2, hg⟩
    · rw [k2]; exact h2
    · exact .inr ⟨g, k2, Nat.le_trans h1.size hg⟩
theorem Grew.below {a b c : World} {u v : Value} (h : Grew a b u v) (k : Below b.heap.size b c) : Grew a c u v := by
  refine ⟨⟨k.os.trans h.grown.os, k.tape.trans h.grown.tape, k.output.trans h.grown.output, Nat.le_trans h.grown.size k.size, fun i hi hn => ?_⟩, h.blk⟩
  exact (k.block i (Nat.lt_of_lt_of_le hi h.grown.size)).trans (h.grown.block i hi hn)
/-- The cells of a row. -/
def rowA (d : Int) (i : Bool) (s : SV) : Array Value := #[.int .i64 d, .bool i, .int .u8 s.op, .string s.nm, .string s.sec, .int .u8 s.ab, .int .u8 s.wh, .int .u8 s.a0, .int .i64 s.a1, .string s.a2, .slice s.aA s.al s.ac, .int .u8 s.b0, .int .i64 s.b1, .string s.b2, .slice s.bA s.bl s.bc,
  .slice s.tA s.tl s.tc, .slice s.eA s.el s.ec, .slice s.cA s.cl s.cc, .slice s.wA s.wl s.wc]
theorem rowA_list (d : Int) (i : Bool) (s : SV) : (rowA d i s).toList = .int .i64 d :: .bool i :: s.arr.toList := rfl
theorem rowA_one (d : Int) (i : Bool) (s : SV) : ∀ u ∈ (rowA d i s).toList, u.oneCell' = true := by
  rw [rowA_list]
  intro u hu
  rcases List.mem_cons.1 hu with rfl | hu
  · rfl
  rcases List.mem_cons.1 hu with rfl | hu
  · rfl
  exact s.one u hu
theorem info84 : (Try.prog.info? 84).map (fun i => (i.zero, i.size, i.bytes)) = some (some (.agg (rowA 0 false SV.zero)), 19, 272) := by kernel_rfl
theorem build84 (d : Int) (i : Bool) (s : SV) (w : World) : (Instr.build 84 #[(0, .int .i64 d), (1, .bool i), (2, .agg s.arr)]).run Try.prog w = .ok (.agg (rowA d i s)) w := by kernel_rfl
theorem buildS78 (d : Int) (i : Bool) (s : SV) (w : World) : (Instr.buildSlice 78 1 #[(0, .agg (rowA d i s))]).run Try.prog w = .ok (.slice (some ⟨w.heap.size, 0, Option.none⟩) 1 1) (w.alloc (.cells (rowA d i s) 84)) := by kernel_rfl
theorem wpList_build {P : Program} {w : World} {ops : Array Oper} {rest : List Oper} {o : Oper} {a : Act} {Q : Exit → Act → World → Prop} (hg : o.guard = Option.none) (T : TypeId) (ps : Array (Nat × Operand)) (hop : o.op = Op.build T ps) (vs : Array (Nat × Value)) (hv' : ps.toList.map (fun ix => (ix.1, a.eval ix.2)) = vs.toList) (v : Value)
    (hr : (Instr.build T vs).run P w = .ok v w) (h : wpList P ops Q rest (a.put o.dst v) w) : wpList P ops Q (o :: rest) a w := by
  have hv : ps.map (fun ix => (ix.1, a.eval ix.2)) = vs := by apply Array.ext'; rw [Array.toList_map]; exact hv'
  refine wpList_plain hg fun K hK => ?_
  unfold Oper.wp execOp
  simp only [hop, hv, Sem.run_bind, Sem.run_pure, hr, Result.andThen_ok]
  exact hK _ _ h
theorem wpList_buildS {P : Program} {w w' : World} {ops : Array Oper} {rest : List Oper} {o : Oper} {a : Act} {Q : Exit → Act → World → Prop} (hg : o.guard = Option.none) (T : TypeId) (n : Nat) (ps : Array (Nat × Operand)) (hop : o.op = Op.buildSlice T n ps) (vs : Array (Nat × Value)) (hv' : ps.toList.map (fun ix => (ix.1, a.eval ix.2)) = vs.toList) (v : Value)
    (hr : (Instr.buildSlice T n vs).run P w = .ok v w') (h : wpList P ops Q rest (a.put o.dst v) w') : wpList P ops Q (o :: rest) a w := by
  have hv : ps.map (fun ix => (ix.1, a.eval ix.2)) = vs := by apply Array.ext'; rw [Array.toList_map]; exact hv'
  refine wpList_plain hg fun K hK => ?_
  unfold Oper.wp execOp
  simp only [hop, hv, Sem.run_bind, Sem.run_pure, hr, Result.andThen_ok]
  exact hK _ _ h
def WalkRC (l : List St) : Prop := ∀ (w : World) (B lo : Nat) (A : Option Addr) (len cap : Nat) (d : Int) (ins : Bool) (sl : Value) (vs : List RowX) (xs : List Value),
  LR (fun b _ => b < B) 256 A len cap l (fun b o => IsSts w B b o l) → GRow RdW 84 19 w B lo sl vs xs → B ≤ lo → lo ≤ w.heap.size → 0 ≤ d → d ≤ vs.length → vs.length ≤ 513 →
    Calls Try.prog 90 #[.slice A len cap, .int .i64 d, .bool ins, sl] w fun e w' => ∃ sl' xs', e = .returned sl' ∧ GRow RdW 84 19 w' B lo sl' (walkX l d ins vs) xs' ∧ Grew w w' sl sl'
/-- What a walk of a block leaves as it was. -/
theorem grew_next {w w' : World} {v v' : Value} {vs : List RowX} {xs : List Value} {B lo p : Nat} {s : SV} {x : St} (h : Grew w w' v v') (hrow : GRow RdW 84 19 w B lo v vs xs) (hB : B ≤ lo) (hlo : lo ≤ w.heap.size) (hn : ∀ g, v.ownBlock = some g → g ≠ p) (hp : BlkN w p 58 s.arr) (hs : IsSt w B s x) :
    (∀ g, v'.ownBlock = some g → g ≠ p) ∧ BlkN w' p 58 s.arr ∧ IsSt w' B s x ∧ w.heap.size ≤ w'.heap.size := by
  refine ⟨fun g hg => ?_, ?_, ?_, h.grown.size⟩
  · rcases h.blk with h1 | ⟨g', h1, h2⟩
    · rw [h1] at hg; exact hn g hg
    · rw [h1] at hg; have := hp.lt; simp at hg; omega
  · exact (h.grown.block p hp.lt (fun e => hn p e.symm rfl)).trans hp
  · exact IsSt.keep (fun b hb => h.grown.block b (by omega) (fun e => by have := hrow.blk e.symm; omega)) hs
attribute [local go_sem] SV.g0 SV.g1 SV.g2 SV.g3 SV.g4 SV.g5 SV.g6 SV.g7 SV.g8 SV.g9 SV.g10 SV.g11 SV.g12 SV.g13 SV.g14 SV.g15 SV.g16
set_option maxRecDepth 100000 in
set_option maxHeartbeats 4000000 in
theorem walkR_step (l : List St) (IH : ∀ x ∈ l, ∀ op nm sec ab wh a b t e c ws, x = .mk op nm sec ab wh a b t e c ws → WalkRC t ∧ WalkRC e ∧ WalkRC c) : WalkRC l := by
  intro w B lo A len cap d ins sl0 vs0 xs0 hl hrow hBlo hlo hd0 hd hv513
  obtain ⟨rfl, hcap, hsz, h7⟩ := hl
  have H7 := Lib.hid h7
  have HI := Lib.hid IH
  have HROW := Lib.hid hrow
  have hlen : l.length ≤ 140737488351232 := by omega
  obtain ⟨A0, cap0, rfl, hcap0, _⟩ := hrow.list
  clear h7 IH hrow hsz
  go_enter Try.func90, Try.ntmps90
  go_wp2_with fail
  go_loopw [3, 9] (fun sl i wr => ∃ j : Nat, j ≤ l.length ∧ i = .int .i64 j ∧ ∃ (vs : List RowX) (xs : List Value), vs = walkX (l.take j) d ins vs0 ∧ GRow RdW 84 19 wr B lo sl vs xs ∧ Grew w wr (.slice A0 vs0.length cap0) sl) (fun _ i _ => l.length - (intOf i).toNat)
  case atStart => exact ⟨0, by omega, rfl, vs0, xs0, by simp [walkX], HROW.out, Grew.refl _ _⟩
  case round =>
    obtain ⟨j, hj, rfl, vs, xs, hvs, hrow, hgr⟩ := hrel
    obtain ⟨A1, cap1, rfl, hcap1, _⟩ := hrow.list
    have HVS := Lib.hid hvs
    have HR := Lib.hid hrow
    have HG := Lib.hid hgr
    have htk := walkX_len (l.take j) d ins vs0 hv513
    rw [← hvs] at htk
    have hv1 : vs.length ≤ 513 := htk.1
    have hv2 : vs0.length ≤ vs.length := htk.2
    have hlo2 : lo ≤ wr.heap.size := Nat.le_trans hlo hgr.grown.size
    have hkr : ∀ b, b < B → wr.heap[b]? = w.heap[b]? := fun b hb => hgr.grown.block b (by omega) (fun e => by have := HROW.out.blk e.symm; omega)
    have HKR := Lib.hid hkr
    clear hvs hrow hgr htk hkr
    by_cases hlt : j < l.length
    rotate_left
    · obtain rfl : j = l.length := by omega
      go_wp2_with fail
      go_ret
      have hE : walkX l d ins vs0 = vs := by rw [HVS.out, List.take_length]
      exact ⟨_, _, rfl, by rw [hE]; exact HR.out, HG.out⟩
    by_cases hv512 : vs.length ≤ 512
    rotate_left
    · go_wp2_with fail
      go_ret
      have hE : walkX l d ins vs0 = vs := by rw [walkX_stop l d ins vs0 hv513 j (by rw [← HVS.out]; omega), ← HVS.out]
      exact ⟨_, _, rfl, by rw [hE]; exact HR.out, HG.out⟩
    obtain ⟨b, o, hbB, hA, hx⟩ := H7.out (by rintro rfl; simp at hlt)
    subst hA
    obtain ⟨s, hat, hs⟩ := hx.at j hlt
    have HAT := Lib.hid (At.keep hat hbB HKR.out)
    have HS := Lib.hid (IsSt.keep HKR.out hs)
    have HSTEP := Lib.hid (walkX_take l d ins vs0 hv513 j hlt (by rw [← HVS.out]; exact hv512))
    have HI3 := Lib.hid (HI.out _ (List.getElem_mem hlt))
    obtain ⟨x, hxe⟩ : ∃ x, x = l[j] := ⟨_, rfl⟩
    rw [← hxe] at HS HSTEP HI3
    obtain ⟨i0, hi, hz0, hz1, hz2⟩ := info_parts info58
    clear hat hs hx hxe
    go_upto_region 5 with (first | (refine wpList_load_blk rfl 58 (.tmp 24) rfl ⟨b, o + j * 17, Option.none⟩ rfl (.agg s.arr) (run_loadVar_at Try.underlying58 hi HAT.out (by rw [hz1]; rfl)) ?_) | (refine wpList_store_blk rfl 58 (.tmp 10) (.tmp 25) rfl i0 hi wr.heap.size s.arr rfl rfl 58 SV.zero.arr (BlkN.at_ rfl 58 SV.zero.arr) (by rw [hz1]; rfl) rfl (SV.one _) ?_; intro w1 hB1 hbut))
    have hb1 : Below wr.heap.size wr w1 := hbut.below (Nat.le_refl _) ((Below.refl _ _).alloc (Nat.le_refl _) _)
    have HR1 := Lib.hid (HR.out.below hb1)
    have HG1 := Lib.hid (HG.out.below hb1)
    have HB1 := Lib.hid hB1
    have HS1 : Hid (IsSt w1 B s x) := Lib.hid (IsSt.keep (fun b hb => hb1.block b (by omega)) HS.out)
    have hs1 := hb1.size
    have hob : ∀ g, (Value.slice A1 vs.length cap1).ownBlock = some g → lo ≤ g ∧ g < wr.heap.size := fun g hg => HR.out.blk hg
    have HOB := Lib.hid hob
    have HBL1 := Lib.hid hb1
    clear hob hB1 hbut hb1
    refine wp_region_lit ?_
    iterate 3 (refine wpList_move rfl _ rfl ?_)
    refine wpList_load_blk rfl 58 (.tmp 10) rfl ⟨wr.heap.size, 0, Option.none⟩ rfl (.agg s.arr) (run_loadVar_blk Try.underlying58 hi HB1.out (by rw [hz1]; rfl)) ?_
    refine wpList_build rfl 84 _ rfl #[(0, .int .i64 d), (1, .bool ins), (2, .agg s.arr)] rfl _ (build84 d ins s w1) ?_
    refine wpList_buildS rfl 78 1 _ rfl #[(0, .agg (rowA d ins s))] rfl _ (buildS78 d ins s w1) ?_
    obtain ⟨i1, hi1, hy0, hy1, hy2⟩ := info_parts info84
    have hAl : Below w1.heap.size w1 (w1.alloc (.cells (rowA d ins s) 84)) := (Below.refl _ _).alloc (Nat.le_refl _) _
    refine wpList_append_row _ rfl (.tmp 26) (.tmp 31) 78 rfl lo 84 i1 (.agg (rowA 0 false SV.zero)) 19 272 Try.underlying78 hi1 hy0 hy1 hy2 rfl (by decide) (.slice A1 vs.length cap1) vs.length xs rfl (HR1.out.below hAl).1 ⟨w1.heap.size, 0, Option.none⟩ 1 1 (rowA d ins s).toList rfl rfl (row_new _ _ _) (rowA_one _ _ _) (by unfold maxLen; omega) (by omega) (by simp; omega) ?_
    intro sl' w3 hown' hgrow hor
    have hx3 : RdW.P (w1.alloc (.cells (rowA d ins s) 84)) (RN B w1.heap.size (w1.alloc (.cells (rowA d ins s) 84))) (rowA d ins s).toList (d, ins, x) :=
      ⟨s, rowA_list d ins s, IsStR.mono (fun b o hr => ⟨.inl hr, by simp; omega⟩) (IsSt.keep (fun b hb => hAl.block b (by omega)) HS1.out)⟩
    have hrow3 : GRow RdW 84 19 w3 B lo sl' (vs ++ [(d, ins, x)]) (xs ++ (rowA d ins s).toList) :=
      GRow.push (HR1.out.below hAl) (by simp [rowA]) hx3 (by omega) hBlo (fun g hg => by have := HOB.out g hg; omega) hown' hgrow hor
    have hg3 : Grew w w3 (.slice A0 vs0.length cap0) sl' := (HG1.out.below hAl).trans ⟨hgrow, hor⟩
    have hne3 : ∀ g, sl'.ownBlock = some g → g ≠ wr.heap.size := fun g hg => by
      rcases hor with h | ⟨g', h, h'⟩
      · rw [h] at hg; have := HOB.out g hg; omega
      · rw [h] at hg; simp at hg h'; omega
    have hk3 : ∀ b, b < B → w3.heap[b]? = w1.heap[b]? := fun b hb => (hgrow.block b (by simp; omega) (fun e => by have := HOB.out b e.symm; omega)).trans (hAl.block b (by omega))
    have HS3 := Lib.hid (IsSt.keep hk3 HS1.out)
    have hB3 : BlkN w3 wr.heap.size 58 s.arr := (hgrow.block _ (by have := HB1.out.lt; simp; omega) (fun e => by have := HOB.out _ e.symm; omega)).trans (HB1.out.alloc _)
    have HR3 := Lib.hid hrow3
    have HG3 := Lib.hid hg3
    have HN3 := Lib.hid hne3
    have HB3 := Lib.hid hB3
    have hs3 : w1.heap.size ≤ w3.heap.size := by have := hgrow.size; simp at this; omega
    have hvl3 : (vs ++ [(d, ins, x)]).length = vs.length + 1 := by simp
    obtain ⟨V3, hV3⟩ : ∃ V3, V3 = vs ++ [(d, ins, x)] := ⟨_, rfl⟩
    obtain ⟨X3, hX3⟩ : ∃ X3, X3 = xs ++ (rowA d ins s).toList := ⟨_, rfl⟩
    have HV3 := Lib.hid hV3
    rw [← hV3] at hvl3 HR3
    rw [← hX3] at HR3
    have hp3 := hB3.lt
    have q13 := hB3.cell 13 s.at13
    clear hx3 hrow3 hg3 hne3 hk3 hB3 hown' hgrow hor hV3 hX3 HAT HR HR1 HG HG1 HB1 HS HS1 HOB HBL1 hAl
    obtain ⟨op, nm, sec, ab, wh, xa, xb, t, e, c, ws⟩ := x
    have HI4 := Lib.hid (HI3.out _ _ _ _ _ _ _ _ _ _ _ rfl)
    have hLt := HS3.out.form.2.2.2.2.1
    have HCT := Lib.hid (HI4.out.1 w3 B lo s.tA s.tl s.tc (d + 1) ins sl' V3 X3 hLt HR3.out hBlo (by omega) (by omega) (by omega) (by omega))
    clear hLt
    go_upto_region 7 with (go_at_call 90; refine HCT.out.mono ?_; rintro e4 w4 ⟨sl4, X4, rfl, hrow4, hg4⟩)
    obtain ⟨hn4, hB4, hS4, hs4⟩ := grew_next hg4 HR3.out hBlo (by omega) HN3.out HB3.out HS3.out
    have hw4 := walkX_len t (d + 1) ins V3 (by omega)
    have HE4 : Hid (Grew w w4 (.slice A0 vs0.length cap0) sl4) := Lib.hid (HG3.out.trans hg4)
    obtain ⟨V4, hV4⟩ : ∃ V4, V4 = walkX t (d + 1) ins V3 := ⟨_, rfl⟩
    rw [← hV4] at hrow4 hw4
    have HV4 := Lib.hid hV4
    have HR4 := Lib.hid hrow4
    have HN4 := Lib.hid hn4
    have HB4 := Lib.hid hB4
    have HS4 := Lib.hid hS4
    have hp4 := hB4.lt
    have q14 := hB4.cell 14 s.at14
    have hv41 := hw4.1
    have hv42 := hw4.2
    have hLe := hS4.form.2.2.2.2.2.1
    have HCE := Lib.hid (HI4.out.2.1 w4 B lo s.eA s.el s.ec (d + 1) ins sl4 V4 X4 hLe hrow4 hBlo (by omega) (by omega) (by omega) (by omega))
    clear hLe hrow4 hg4 hn4 hB4 hS4 hw4 hV4 HG3 HN3 HB3 HR3 HS3 HCT q13
    go_upto_region 8 with (go_at_call 90; refine HCE.out.mono ?_; rintro e5 w5 ⟨sl5, X5, rfl, hrow5, hg5⟩)
    obtain ⟨hn5, hB5, hS5, hs5⟩ := grew_next hg5 HR4.out hBlo (by omega) HN4.out HB4.out HS4.out
    have hw5 := walkX_len e (d + 1) ins V4 (by omega)
    have HE5 : Hid (Grew w w5 (.slice A0 vs0.length cap0) sl5) := Lib.hid (HE4.out.trans hg5)
    obtain ⟨V5, hV5⟩ : ∃ V5, V5 = walkX e (d + 1) ins V4 := ⟨_, rfl⟩
    rw [← hV5] at hrow5 hw5
    have HV5 := Lib.hid hV5
    have hp5 := hB5.lt
    have q15 := hB5.cell 15 s.at15
    have hv51 := hw5.1
    have hv52 := hw5.2
    have hLc := hS5.form.2.2.2.2.2.2.1
    have HCC := Lib.hid (HI4.out.2.2 w5 B lo s.cA s.cl s.cc (d + 1) true sl5 V5 X5 hLc hrow5 hBlo (by omega) (by omega) (by omega) (by omega))
    clear hLc hrow5 hg5 hn5 hB5 hS5 hw5 hV5 HE4 HN4 HB4 HR4 HS4 HCE q14
    go_wp2_with (go_at_call 90; refine HCC.out.mono ?_; rintro e6 w6 ⟨sl6, X6, rfl, hrow6, hg6⟩; have HR6 := Lib.hid hrow6; have HE6 : Hid (Grew w w6 (.slice A0 vs0.length cap0) sl6) := Lib.hid (HE5.out.trans hg6); clear hrow6 hg6)
    go_roundw
    case rel =>
      refine ⟨j + 1, by omega, by go_num, _, X6, ?_, HR6.out, HE6.out⟩
      rw [HSTEP.out, walkX1, ← HVS.out, ← HV3.out, ← HV4.out, ← HV5.out]
    case measure => simp [intOf]; omega
theorem walk90_any : ∀ l : List St, WalkRC l := by
  have h : ∀ x : St, ∀ op nm sec ab wh a b t e c ws, x = .mk op nm sec ab wh a b t e c ws → WalkRC t ∧ WalkRC e ∧ WalkRC c := fun x => by
    induction x using St.ind with
    | h op nm sec ab wh a b t e c ws IHt IHe IHc =>
      intro op' nm' sec' ab' wh' a' b' t' e' c' ws' heq
      obtain ⟨_, _, _, _, _, _, _, rfl, rfl, rfl, _⟩ := St.mk.inj heq
      exact ⟨walkR_step _ fun x hx => IHt x hx, walkR_step _ fun x hx => IHe x hx, walkR_step _ fun x hx => IHc x hx⟩
  exact fun l => walkR_step l fun x _ => h x
end Go.Proofs.Ytnknefdpglnbnaa
