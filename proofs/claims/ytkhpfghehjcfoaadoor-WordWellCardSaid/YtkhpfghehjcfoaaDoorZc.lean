/- Plain laws: a value's text is read as it; what is read of any text is written as that: lists, whole values. -/
import Derived.Test.YtkhpfghehjcfoaaDoorZb
namespace Go.Proofs.YtkhpfghehjcfoaaDoor
open Go.RowKit

theorem txtV_data (s : ByteArray) : txtV s.data.toList = s := by apply ByteArray.ext; simp [txtV]
theorem emp_of {s : ByteArray} (h : s.toList.isEmpty = true) : s = ⟨#[]⟩ := by
  apply ByteArray.ext
  apply Array.ext'
  rw [← Lib.toList_data]; simpa using h
theorem emp_true : (⟨#[]⟩ : ByteArray).toList.isEmpty = true := by rw [Lib.toList_data]; rfl
/-- A value's text begins with one of its signs. -/
theorem text_head (x : Va) : ∃ c t, textL x = c :: t ∧ c ≠ 93 ∧ c ≠ 32 := by
  obtain ⟨k, n, s, l, r⟩ := x
  have hd : ∀ n : Int, ∃ c t, Lib.itoa n = c :: t ∧ c ≠ 93 ∧ c ≠ 32 := fun n => by
    unfold Lib.itoa
    split
    · exact ⟨45, _, rfl, by decide, by decide⟩
    · obtain ⟨c, ds, e1, e2, -⟩ := dec_cons n.toNat
      exact ⟨c, ds, e1, by rintro rfl; exact absurd e2 (by decide), by rintro rfl; exact absurd e2 (by decide)⟩
  unfold textL
  split
  · exact hd n
  · split
    · exact ⟨34, _, rfl, by decide, by decide⟩
    · split
      · exact ⟨35, _, rfl, by decide, by decide⟩
      · split
        · exact ⟨91, _, rfl, by decide, by decide⟩
        · exact ⟨95, [], rfl, by decide, by decide⟩
theorem dig0_tail (l : List Va) (r : L8) : dig0 (textsT l ++ 93 :: r) = false := by
  cases l with
  | nil => rfl
  | cons x l => rfl
theorem takeV_3 (n : Int) (s : ByteArray) (l : List Va) (r : Int) (q m : Nat) : takeV (.mk 3 n s l r) (q + 1) (m + 1) = if q < l.length then Option.none else match takeVs l q m with
    | Option.none => Option.none
    | some q' => if n == 0 && s.toList.isEmpty && r == 0 then some q' else Option.none := by rw [takeV]; rfl
theorem takeV_0 (n : Int) (s : ByteArray) (l : List Va) (r : Int) (q nest : Nat) : takeV (.mk 0 n s l r) (q + 1) nest = if n == 0 && s.toList.isEmpty && r == 0 && l.isEmpty then some q else Option.none := by unfold takeV; rfl
theorem takeV_1 (n : Int) (s : ByteArray) (l : List Va) (r : Int) (q nest : Nat) : takeV (.mk 1 n s l r) (q + 1) nest = if s.toList.isEmpty && r == 0 && l.isEmpty then some q else Option.none := by unfold takeV; rfl
theorem takeV_2 (n : Int) (s : ByteArray) (l : List Va) (r : Int) (q nest : Nat) : takeV (.mk 2 n s l r) (q + 1) nest = if decide ((s.size : Int) ≤ 256) && n == 0 && r == 0 && l.isEmpty then some q else Option.none := by unfold takeV; rfl
theorem takeV_4 (n : Int) (s : ByteArray) (l : List Va) (r : Int) (q nest : Nat) : takeV (.mk 4 n s l r) (q + 1) nest = if decide (1 ≤ r) && n == 0 && s.toList.isEmpty && l.isEmpty then some q else Option.none := by unfold takeV; rfl
theorem rdV_num (nest : Nat) (c : UInt8) (t : L8) (p : Nat) (h95 : c ≠ 95) (hc : c = 45 ∨ digB c = true) : rdV nest (c :: t) p = match numV true (c :: t) with | .ok n r => .ok (.mk 1 n ⟨#[]⟩ [] 0, p + 1) r | .no r => .no r := by
  cases nest <;> (unfold rdV; rw [if_neg h95, if_pos hc]; rfl)
theorem rdV_list (m : Nat) (t : L8) (p : Nat) : rdV (m + 1) (91 :: t) p = match lsV (rdV m) 514 t (p + 1) [] with | .ok (l, q) r => .ok (.mk 3 0 ⟨#[]⟩ l 0, q) r | .no r => .no r := by
  unfold rdV
  rw [if_neg (by decide), if_neg (by decide), if_neg (by decide), if_neg (by decide), if_pos rfl]
  rfl
theorem rdV_ref (nest : Nat) (d : UInt8) (t : L8) (p : Nat) (hd : 49 ≤ d.toNat ∧ d.toNat ≤ 57) : rdV nest (35 :: d :: t) p = match numV false (d :: t) with | .ok n r => .ok (.mk 4 0 ⟨#[]⟩ [] n, p + 1) r | .no r => .no r := by
  cases nest <;> (unfold rdV; rw [if_neg (by decide), if_neg (by decide), if_pos rfl]; simp only; rw [if_neg (by omega)]; rfl)
theorem rdV_text (nest : Nat) (t : L8) (p : Nat) : rdV nest (34 :: t) p = match qa 256 .run t [] with | .ok b r => .ok (.mk 2 0 (txtV b) [] 0, p + 1) r | .no r => .no r := by
  cases nest <;> (unfold rdV; rw [if_neg (by decide), if_neg (by decide), if_neg (by decide), if_pos rfl]; rfl)
mutual
/-- A value's text is read as it. -/
theorem rd_text : ∀ (x : Va) (p nest q' : Nat) (r : L8), takeV x (512 - p) nest = some q' → p < 512 → Fit x → dig0 r = false → rdV nest (textL x ++ r) p = .ok (x, 512 - q') r
  | .mk k n s l r0, p, nest, q', r, h, hp, hf, hr => by
    obtain ⟨q, hq⟩ : ∃ q, 512 - p = q + 1 := ⟨511 - p, by omega⟩
    rw [hq] at h
    unfold Fit at hf
    by_cases k1 : k = 1
    · subst k1
      have h' : (if s.toList.isEmpty && r0 == 0 && l.isEmpty then some q else Option.none) = some q' := by rw [takeV_1] at h; exact h
      by_cases hc : (s.toList.isEmpty && r0 == 0 && l.isEmpty) = true
      · rw [if_pos hc] at h'
        simp only [Bool.and_eq_true, beq_iff_eq] at hc
        obtain ⟨⟨c1, c2⟩, c3⟩ := hc
        obtain rfl := emp_of c1
        obtain rfl : l = [] := by simpa using c3
        subst c2
        injection h' with h'
        have e : textL (.mk 1 n ⟨#[]⟩ [] 0) = Lib.itoa n := by unfold textL; rfl
        rw [e]
        have hnum := num_text n hf.1.1 hf.1.2 r hr
        cases hi : Lib.itoa n ++ r with
        | nil => rw [hi] at hnum; cases hnum
        | cons c t =>
          have hc2 : c = 45 ∨ digB c = true := by
            unfold Lib.itoa at hi
            split at hi
            · injection hi with e1 _; exact .inl e1.symm
            · obtain ⟨c2, ds, e1, e2, -⟩ := dec_cons n.toNat
              rw [e1] at hi
              injection hi with e3 _
              exact .inr (by rw [← e3]; exact e2)
          rw [rdV_num nest c t p (by rintro rfl; rcases hc2 with h | h <;> exact absurd h (by decide)) hc2, ← hi, hnum]
          rw [show p + 1 = 512 - q' by omega]
      · rw [if_neg hc] at h'; cases h'
    by_cases k2 : k = 2
    · subst k2
      have h' : (if decide ((s.size : Int) ≤ 256) && n == 0 && r0 == 0 && l.isEmpty then some q else Option.none) = some q' := by rw [takeV_2] at h; exact h
      by_cases hc : (decide ((s.size : Int) ≤ 256) && n == 0 && r0 == 0 && l.isEmpty) = true
      · rw [if_pos hc] at h'
        simp only [Bool.and_eq_true, beq_iff_eq, decide_eq_true_eq] at hc
        obtain ⟨⟨⟨c1, c2⟩, c3⟩, c4⟩ := hc
        obtain rfl : l = [] := by simpa using c4
        subst c2 c3
        injection h' with h'
        have e : textL (.mk 2 0 s [] 0) = quoteL s.data.toList := by unfold textL; rfl
        rw [e]
        show rdV nest (34 :: (qbs s.data.toList ++ [34] ++ r)) p = _
        have hsz : s.data.toList.length = s.size := by simp
        rw [rdV_text, List.append_assoc, show ([34] ++ r : L8) = 34 :: r from rfl, qa_qbs 256 r s.data.toList [] (by rw [hsz]; simp; omega)]
        simp only [List.nil_append]
        rw [txtV_data, show p + 1 = 512 - q' by omega]
      · rw [if_neg hc] at h'; cases h'
    by_cases k4 : k = 4
    · subst k4
      have h' : (if decide (1 ≤ r0) && n == 0 && s.toList.isEmpty && l.isEmpty then some q else Option.none) = some q' := by rw [takeV_4] at h; exact h
      by_cases hc : (decide (1 ≤ r0) && n == 0 && s.toList.isEmpty && l.isEmpty) = true
      · rw [if_pos hc] at h'
        simp only [Bool.and_eq_true, beq_iff_eq, decide_eq_true_eq] at hc
        obtain ⟨⟨⟨c1, c2⟩, c3⟩, c4⟩ := hc
        obtain rfl := emp_of c3
        obtain rfl : l = [] := by simpa using c4
        subst c2
        injection h' with h'
        have e : textL (.mk 4 0 ⟨#[]⟩ [] r0) = 35 :: Lib.itoa r0 := by unfold textL; rfl
        rw [e]
        obtain ⟨c, t, e1, e2, e3, e4⟩ := ref_text r0 c1 hf.2.1.2 r hr
        show rdV nest (35 :: (Lib.itoa r0 ++ r)) p = _
        rw [e1, rdV_ref nest c t p ⟨e2, e3⟩, e4]
        rw [show p + 1 = 512 - q' by omega]
      · rw [if_neg hc] at h'; cases h'
    by_cases k3 : k = 3
    · subst k3
      cases nest with
      | zero => rw [takeV] at h; cases h
      | succ m =>
        rw [takeV_3] at h
        by_cases hql : q < l.length
        · rw [if_pos hql] at h; cases h
        rw [if_neg hql] at h
        cases ht : takeVs l q m with
        | none => rw [ht] at h; cases h
        | some q2 =>
          rw [ht] at h
          simp only at h
          by_cases hc : (n == 0 && s.toList.isEmpty && r0 == 0) = true
          · rw [if_pos hc] at h
            injection h with h
            subst h
            simp only [Bool.and_eq_true, beq_iff_eq] at hc
            obtain ⟨⟨c1, c2⟩, c3⟩ := hc
            obtain rfl := emp_of c2
            subst c1 c3
            have e : textL (.mk 3 0 ⟨#[]⟩ l 0) = 91 :: (textsL l ++ [93]) := by unfold textL; rfl
            rw [e]
            show rdV (m + 1) (91 :: (textsL l ++ [93] ++ r)) p = _
            rw [rdV_list, List.append_assoc, show ([93] ++ r : L8) = 93 :: r from rfl]
            have hqp : q = 512 - (p + 1) := by omega
            rw [hqp] at ht hql
            rw [rds_first l (p + 1) m q2 514 r ht (by omega) hf.2.2 (by omega)]
          · rw [if_neg hc] at h; cases h
    by_cases k0 : k = 0
    · subst k0
      have h' : (if n == 0 && s.toList.isEmpty && r0 == 0 && l.isEmpty then some q else Option.none) = some q' := by rw [takeV_0] at h; exact h
      by_cases hc : (n == 0 && s.toList.isEmpty && r0 == 0 && l.isEmpty) = true
      · rw [if_pos hc] at h'
        simp only [Bool.and_eq_true, beq_iff_eq] at hc
        obtain ⟨⟨⟨c1, c2⟩, c3⟩, c4⟩ := hc
        obtain rfl := emp_of c2
        obtain rfl : l = [] := by simpa using c4
        subst c1 c3
        injection h' with h'
        have e : textL (.mk 0 0 ⟨#[]⟩ [] 0) = [95] := by unfold textL; rfl
        rw [e]
        have e2 : rdV nest (95 :: r) p = .ok (.mk 0 0 ⟨#[]⟩ [] 0, p + 1) r := by cases nest <;> (unfold rdV; rw [if_pos rfl])
        show rdV nest (95 :: r) p = _
        rw [e2, show p + 1 = 512 - q' by omega]
      · rw [if_neg hc] at h'; cases h'
    · exfalso
      have b0 : (k == 0) = false := by simpa using k0
      have b1 : (k == 1) = false := by simpa using k1
      have b2 : (k == 2) = false := by simpa using k2
      have b3 : (k == 3) = false := by simpa using k3
      have b4 : (k == 4) = false := by simpa using k4
      unfold takeV at h
      simp only [b0, b1, b2, b3, b4, Bool.false_eq_true, if_false] at h
      cases h
theorem rds_first : ∀ (l : List Va) (p m q' k : Nat) (r : L8), takeVs l (512 - p) m = some q' → p ≤ 512 → Fits l → l.length + 1 ≤ k → lsV (rdV m) k (textsL l ++ 93 :: r) p [] = .ok (l, 512 - q') r
  | [], p, m, q', k, r, h, hp, hf, hk => by
    obtain ⟨k, rfl⟩ : ∃ j, k = j + 1 := ⟨k - 1, by simp at hk; omega⟩
    rw [takeVs] at h
    injection h with h
    show lsV (rdV m) (k + 1) (93 :: r) p [] = _
    rw [lsV, if_pos rfl, show p = 512 - q' by omega]
  | x :: l, p, m, q', k, r, h, hp, hf, hk => by
    obtain ⟨k, rfl⟩ : ∃ j, k = j + 1 := ⟨k - 1, by simp at hk; omega⟩
    simp only [List.length_cons] at hk
    rw [takeVs] at h
    unfold Fits at hf
    cases hx : takeV x (512 - p) m with
    | none => rw [hx] at h; cases h
    | some q2 =>
      rw [hx] at h
      have hlt := takeV_sz x _ _ _ hx
      have hge := szV_ge x
      obtain ⟨c, t, e1, e2, -⟩ := text_head x
      have hrd := rd_text x p m q2 (textsT l ++ 93 :: r) hx (by omega) hf.1 (dig0_tail l r)
      show lsV (rdV m) (k + 1) (textL x ++ textsT l ++ 93 :: r) p [] = _
      rw [List.append_assoc]
      rw [e1] at hrd ⊢
      show lsV (rdV m) (k + 1) (c :: (t ++ (textsT l ++ 93 :: r))) p [] = _
      rw [lsV, if_neg e2, if_neg (by rintro (h1 | h1); omega; exact h1.1 rfl), if_pos rfl]
      have hrd2 : rdV m (c :: (t ++ (textsT l ++ 93 :: r))) p = .ok (x, 512 - q2) (textsT l ++ 93 :: r) := hrd
      rw [hrd2]
      simp only [List.nil_append]
      exact rds_text l [x] (512 - q2) m q' k r (by rw [show 512 - (512 - q2) = q2 by omega]; exact h) (by omega) hf.2 (by omega) (by simp)
theorem rds_text : ∀ (l done : List Va) (p m q' k : Nat) (r : L8), takeVs l (512 - p) m = some q' → p ≤ 512 → Fits l → l.length + 1 ≤ k → done ≠ [] → lsV (rdV m) k (textsT l ++ 93 :: r) p done = .ok (done ++ l, 512 - q') r
  | [], done, p, m, q', k, r, h, hp, hf, hk, hd => by
    obtain ⟨k, rfl⟩ : ∃ j, k = j + 1 := ⟨k - 1, by simp at hk; omega⟩
    rw [takeVs] at h
    injection h with h
    show lsV (rdV m) (k + 1) (93 :: r) p done = _
    rw [lsV, if_pos rfl, List.append_nil, show p = 512 - q' by omega]
  | x :: l, done, p, m, q', k, r, h, hp, hf, hk, hd => by
    obtain ⟨k, rfl⟩ : ∃ j, k = j + 1 := ⟨k - 1, by simp at hk; omega⟩
    simp only [List.length_cons] at hk
    rw [takeVs] at h
    unfold Fits at hf
    cases hx : takeV x (512 - p) m with
    | none => rw [hx] at h; cases h
    | some q2 =>
      rw [hx] at h
      have hlt := takeV_sz x _ _ _ hx
      have hge := szV_ge x
      have hrd := rd_text x p m q2 (textsT l ++ 93 :: r) hx (by omega) hf.1 (dig0_tail l r)
      show lsV (rdV m) (k + 1) (32 :: (textL x ++ textsT l ++ 93 :: r)) p done = _
      rw [lsV, if_neg (by decide), if_neg (by rintro (h1 | h1); omega; exact h1.2 rfl), if_neg hd, List.append_assoc, hrd]
      simp only
      rw [rds_text l (done ++ [x]) (512 - q2) m q' k r (by rw [show 512 - (512 - q2) = q2 by omega]; exact h) (by omega) hf.2 (by omega) (by simp)]
      rw [List.append_assoc]; rfl
end
/-- What a reader has read is written as it was. -/
def InvF (f : L8 → Nat → Rs (Va × Nat)) (m : Nat) : Prop := ∀ (t : L8) (p : Nat) (x : Va) (q : Nat) (r : L8), f t p = .ok (x, q) r → p < 512 →
  t = textL x ++ r ∧ takeV x (512 - p) m = some (512 - q) ∧ p < q ∧ q ≤ 512 ∧ Fit x
theorem ls_inv {f : L8 → Nat → Rs (Va × Nat)} {m : Nat} (hf : InvF f m) : ∀ (k : Nat) (t : L8) (p : Nat) (l l' : List Va) (q : Nat) (r : L8), lsV f k t p l = .ok (l', q) r → p ≤ 512 →
    ∃ ys, l' = l ++ ys ∧ t = (if l = [] then textsL ys else textsT ys) ++ 93 :: r ∧ takeVs ys (512 - p) m = some (512 - q) ∧ p + ys.length ≤ q ∧ q ≤ 512 ∧ Fits ys
  | 0, t, p, l, l', q, r, h, _ => by rw [lsV] at h; cases h
  | k + 1, [], p, l, l', q, r, h, _ => by rw [lsV] at h; cases h
  | k + 1, c :: t, p, l, l', q, r, h, hp => by
    rw [lsV] at h
    by_cases h93 : c = 93
    · rw [if_pos h93] at h
      injection h with e1 e2
      injection e1 with e1 e3
      subst e1 e2 e3 h93
      exact ⟨[], by simp, by split <;> rfl, by rw [takeVs], by simp, hp, by unfold Fits; trivial⟩
    rw [if_neg h93] at h
    by_cases hb : 512 ≤ p ∨ (l ≠ [] ∧ c ≠ 32)
    · rw [if_pos hb] at h; cases h
    rw [if_neg hb] at h
    cases hx : f (if l = [] then c :: t else t) p with
    | no r2 => rw [hx] at h; cases h
    | ok y r2 =>
      obtain ⟨x, q2⟩ := y
      rw [hx] at h
      obtain ⟨g1, g2, g3, g4, g5⟩ := hf _ p x q2 r2 hx (by omega)
      obtain ⟨ys, e1, e2, e3, e4, e5, e6⟩ := ls_inv hf k r2 q2 (l ++ [x]) l' q r h g4
      refine ⟨x :: ys, by rw [e1]; simp, ?_, ?_, by simp only [List.length_cons]; omega, e5, by unfold Fits; exact ⟨g5, e6⟩⟩
      · rw [if_neg (by simp)] at e2
        by_cases hl : l = []
        · rw [if_pos hl] at g1 ⊢
          rw [g1, e2]
          show _ = textL x ++ textsT ys ++ 93 :: r
          rw [List.append_assoc]
        · rw [if_neg hl] at g1 ⊢
          have hc : c = 32 := by
            by_cases hc : c = 32
            · exact hc
            · exact absurd (.inr ⟨hl, hc⟩) hb
          rw [g1, e2, hc]
          show _ = 32 :: (textL x ++ textsT ys) ++ 93 :: r
          simp
      · rw [takeVs, g2]
        exact e3
theorem rd_inv : ∀ (nest : Nat), InvF (rdV nest) nest
  | nest, [], p, x, q, r, h, hp => by cases nest <;> (unfold rdV at h; cases h)
  | nest, c :: t, p, x, q, r, h, hp => by
    obtain ⟨q0, hq0⟩ : ∃ q0, 512 - p = q0 + 1 := ⟨511 - p, by omega⟩
    have hqe : q0 = 512 - (p + 1) := by omega
    rw [hq0]
    by_cases h95 : c = 95
    · subst h95
      have e2 : rdV nest (95 :: t) p = .ok (.mk 0 0 ⟨#[]⟩ [] 0, p + 1) t := by cases nest <;> (unfold rdV; rw [if_pos rfl])
      rw [e2] at h
      injection h with e1 e3
      injection e1 with e1 e4
      subst e1 e3 e4
      refine ⟨by unfold textL; rfl, ?_, by omega, by omega, by unfold Fit Fits; decide⟩
      rw [takeV_0]
      simp only [emp_true]
      rw [hqe]; rfl
    by_cases hnum : c = 45 ∨ digB c = true
    · rw [rdV_num nest c t p h95 hnum] at h
      cases hN : numV true (c :: t) with
      | no r2 => rw [hN] at h; cases h
      | ok n r2 =>
        rw [hN] at h
        injection h with e1 e3
        injection e1 with e1 e4
        subst e1 e3 e4
        obtain ⟨g1, g2, g3, g4⟩ := text_num c t n r2 hnum hN
        refine ⟨by rw [g1]; unfold textL; rfl, ?_, by omega, by omega, by unfold Fit Fits; exact ⟨⟨g3, g4⟩, by decide, trivial⟩⟩
        rw [takeV_1]
        simp only [emp_true]
        rw [hqe]; rfl
    by_cases h35 : c = 35
    · subst h35
      cases t with
      | nil => cases nest <;> (unfold rdV at h; rw [if_neg (by decide), if_neg (by decide), if_pos rfl] at h; cases h)
      | cons d t =>
        by_cases hd : d.toNat < 49 ∨ 57 < d.toNat
        · have e2 : rdV nest (35 :: d :: t) p = .no (d :: t) := by cases nest <;> (unfold rdV; rw [if_neg (by decide), if_neg (by decide), if_pos rfl]; simp only; rw [if_pos hd])
          rw [e2] at h; cases h
        have hd2 : 49 ≤ d.toNat ∧ d.toNat ≤ 57 := by omega
        rw [rdV_ref nest d t p hd2] at h
        cases hN : numV false (d :: t) with
        | no r2 => rw [hN] at h; cases h
        | ok n r2 =>
          rw [hN] at h
          injection h with e1 e3
          injection e1 with e1 e4
          subst e1 e3 e4
          obtain ⟨g1, g2, g3, g4⟩ := text_ref d t n r2 hd2 hN
          refine ⟨by rw [g1]; unfold textL; rfl, ?_, by omega, by omega, by unfold Fit Fits; exact ⟨by decide, ⟨by omega, g4⟩, trivial⟩⟩
          rw [takeV_4]
          simp only [emp_true, decide_eq_true g3]
          rw [hqe]; rfl
    by_cases h34 : c = 34
    · subst h34
      rw [rdV_text] at h
      cases hQ : qa 256 .run t [] with
      | no r2 => rw [hQ] at h; cases h
      | ok b r2 =>
        rw [hQ] at h
        injection h with e1 e3
        injection e1 with e1 e4
        subst e1 e3 e4
        obtain ⟨l, g1, g2, g3, g4⟩ := qa_inv 256 _ t [] b r2 (Nat.le_refl _) hQ
        rw [List.nil_append] at g1
        subst g1
        have hb : (txtV b).size ≤ 256 := by have := g4 (by simp); show b.length ≤ 256; simpa using this
        refine ⟨?_, ?_, by omega, by omega, by unfold Fit Fits; decide⟩
        · unfold textL
          show 34 :: t = (34 :: (qbs b ++ [34])) ++ r2
          rw [g2]; simp
        · have hb2 : decide (((txtV b).size : Int) ≤ 256) = true := decide_eq_true (by omega)
          rw [takeV_2]
          simp only [hb2]
          rw [hqe]; rfl
    by_cases h91 : c = 91
    · subst h91
      cases nest with
      | zero => unfold rdV at h; rw [if_neg (by decide), if_neg (by decide), if_neg (by decide), if_neg (by decide), if_pos rfl] at h; cases h
      | succ m =>
        rw [rdV_list] at h
        cases hL : lsV (rdV m) 514 t (p + 1) [] with
        | no r2 => rw [hL] at h; cases h
        | ok y r2 =>
          obtain ⟨ys, q2⟩ := y
          rw [hL] at h
          injection h with e1 e3
          injection e1 with e1 e4
          subst e1 e3 e4
          obtain ⟨zs, g1, g2, g3, g4, g5, g6⟩ := ls_inv (rd_inv m) 514 t (p + 1) [] ys q2 r2 hL (by omega)
          rw [List.nil_append] at g1
          subst g1
          refine ⟨?_, ?_, by omega, g5, by unfold Fit; exact ⟨by decide, by decide, g6⟩⟩
          · rw [g2, if_pos rfl]; unfold textL; simp
          · rw [takeV_3, if_neg (by omega), hqe, g3]
            simp only [emp_true]
            rfl
    · exfalso
      have e2 : rdV nest (c :: t) p = .no (c :: t) := by cases nest <;> (unfold rdV; rw [if_neg h95, if_neg hnum, if_neg h35, if_neg h34, if_neg h91])
      rw [e2] at h; cases h
/-- A value that may be is read out of its text. -/
theorem read_text (x : Va) (h : mayV x = true) (hf : Fit x) : readL (textL x) = .ok x [] := by
  unfold mayV at h
  cases ht : takeV x 512 16 with
  | none => rw [ht] at h; cases h
  | some q =>
    have := rd_text x 0 16 q [] ht (by decide) hf rfl
    rw [List.append_nil] at this
    unfold readL
    rw [this]
/-- What is read of a text is a value that may be, of this text. -/
theorem text_read (t : L8) (x : Va) (r : L8) (h : readL t = .ok x r) : mayV x = true ∧ textL x = t ∧ Fit x := by
  unfold readL at h
  cases ht : rdV 16 t 0 with
  | no r2 => rw [ht] at h; cases h
  | ok y r2 =>
    obtain ⟨x2, q⟩ := y
    rw [ht] at h
    cases r2 with
    | cons c u => cases h
    | nil =>
      injection h with e1 e2
      subst e1
      obtain ⟨g1, g2, g3, g4, g5⟩ := rd_inv 16 t 0 x2 q [] ht (by decide)
      rw [List.append_nil] at g1
      refine ⟨?_, g1.symm, g5⟩
      unfold mayV
      rw [g2]; rfl
end Go.Proofs.YtkhpfghehjcfoaaDoor
