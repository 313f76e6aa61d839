/- Contracts of package value: take, measure, May. (Carried over by program from the texts on code.) -/
import Derived.Test.YthafojadcodkoaaA
namespace Go.Proofs.Ythafojadcodkoaa
open Go.RowKit


theorem lts {p n : Nat} (h : p < n) : p < n ∧ p < n + 1 ∧ p < n + 1 + 1 ∧ p < n + 1 + 1 + 1 ∧ p < n + 1 + 1 + 1 + 1 := by omega
mutual
/-- What is left of the parts behind a value; none: it may not be. -/
def takeV : Va → Nat → Nat → Option Nat
  | .mk k n s l r, parts, nest =>
    match parts with
    | 0 => Option.none
    | q + 1 =>
      if k == 0 then (if n == 0 && s.toList.isEmpty && r == 0 && l.isEmpty then some q else Option.none)
      else if k == 1 then (if s.toList.isEmpty && r == 0 && l.isEmpty then some q else Option.none)
      else if k == 2 then (if decide ((s.size : Int) ≤ 256) && n == 0 && r == 0 && l.isEmpty then some q else Option.none)
      else if k == 4 then (if decide (1 ≤ r) && n == 0 && s.toList.isEmpty && l.isEmpty then some q else Option.none)
      else if k == 3 then (match nest with
        | 0 => Option.none
        | m + 1 => if q < l.length then Option.none else match takeVs l q m with
          | Option.none => Option.none
          | some q' => if n == 0 && s.toList.isEmpty && r == 0 then some q' else Option.none)
      else Option.none
def takeVs : List Va → Nat → Nat → Option Nat
  | [], parts, _ => some parts
  | x :: l, parts, nest => match takeV x parts nest with
    | Option.none => Option.none
    | some q => takeVs l q nest
end
/-- What take leaves. -/
def TakeP (p : Nat) (w : World) (o : Option Nat) (nest : Nat) (e : Ending) (w' : World) : Prop :=
  e = .returned (.bool o.isSome) ∧ (∀ q : Nat, o = some q → BlkN w' p 125 #[.int .i64 q, .int .i64 nest]) ∧ Upd p w w'
def TakeC (x : Va) : Prop := ∀ (w : World) (B : Nat) (v : Value) (p parts nest : Nat), IsVa w B v x → B ≤ p → BlkN w p 125 #[.int .i64 parts, .int .i64 nest] → parts ≤ 512 → nest ≤ 16 →
  Calls Try.prog 69 #[.pointer (some ⟨p, 0, Option.none⟩), v] w (TakeP p w (takeV x parts nest) nest)
theorem some_ite {α : Type} (c : Prop) [Decidable c] (a : α) : (if c then some a else Option.none).isSome = decide c := by split <;> simp [*]
theorem takeV_plain (k n : Int) (s : ByteArray) (l : List Va) (r : Int) (q nest q' : Nat) (hk : ¬ k = 3) (h : takeV (.mk k n s l r) (q + 1) nest = some q') : q' = q := by
  unfold takeV at h
  by_cases h0 : k = 0
  · simp [h0] at h; exact h.2.symm
  · by_cases h1 : k = 1
    · simp [h1] at h; exact h.2.symm
    · by_cases h2 : k = 2
      · simp [h2] at h; exact h.2.symm
      · by_cases h4 : k = 4
        · simp [h4] at h; exact h.2.symm
        · simp [h0, h1, h2, hk, h4] at h
theorem take_end {x : Va} {parts nest q : Nat} {b : Bool} {w : World} {p : Nat} (hb : b = (takeV x parts nest).isSome) (hq : ∀ q', takeV x parts nest = some q' → q' = q) (hp : BlkN w p 125 #[.int .i64 parts, .int .i64 nest]) (o1 o2 : Obj) :
    TakeP p w (takeV x parts nest) nest (.returned (.bool b)) (((w.setCell ⟨p, 0, Option.none⟩ (.int .i64 q)).alloc o1).alloc o2) := by
  refine ⟨by rw [hb], fun q' h => ?_, (((Upd.refl p w).set 0 _).alloc _).alloc _⟩
  rw [hq q' h]
  exact ((hp.set 0 (.int .i64 q)).alloc _).alloc _
set_option maxRecDepth 100000 in
set_option maxHeartbeats 1000000 in
theorem take_zero (k n : Int) (s : ByteArray) (l : List Va) (r : Int) (A : Option Addr) (cap : Nat) (w : World) (p parts nest : Nat) (_h4 : l.length ≤ 140737488351232) (hp : BlkN w p 125 #[.int .i64 parts, .int .i64 nest]) (h512 : parts ≤ 512) (_hn : nest ≤ 16) (hz : parts = 0) :
    Calls Try.prog 69 #[.pointer (some ⟨p, 0, Option.none⟩), .agg #[.int .u8 k, .int .i64 n, .string s, .slice A l.length cap, .int .i64 r]] w (TakeP p w (takeV (.mk k n s l r) parts nest) nest) := by
  have hc0 := hp.cell 0 rfl
  have hf0 := hp.free 0
  have hc1 := hp.cell 1 rfl
  have hf1 := hp.free 1
  obtain ⟨l0, l1, l2, l3, l4⟩ := lts hp.lt
  have HP := Lib.hid hp
  clear hp
  subst hz
  go_enter Try.func69, Try.ntmps69
  go_wp2_with fail
  go_ret
  exact ⟨by simp [takeV], fun q h => by simp [takeV] at h, (Upd.refl p w).alloc _⟩
set_option maxRecDepth 100000 in
set_option maxHeartbeats 1000000 in
theorem take_k0 (k n : Int) (s : ByteArray) (l : List Va) (r : Int) (A : Option Addr) (cap : Nat) (w : World) (p parts nest : Nat) (_h4 : l.length ≤ 140737488351232) (hp : BlkN w p 125 #[.int .i64 parts, .int .i64 nest]) (h512 : parts ≤ 512) (_hn : nest ≤ 16) (hz : 0 < parts) (hk : k = 0) :
    Calls Try.prog 69 #[.pointer (some ⟨p, 0, Option.none⟩), .agg #[.int .u8 k, .int .i64 n, .string s, .slice A l.length cap, .int .i64 r]] w (TakeP p w (takeV (.mk k n s l r) parts nest) nest) := by
  have hc0 := hp.cell 0 rfl
  have hf0 := hp.free 0
  have hc1 := hp.cell 1 rfl
  have hf1 := hp.free 1
  obtain ⟨l0, l1, l2, l3, l4⟩ := lts hp.lt
  have HP := Lib.hid hp
  clear hp
  subst hk
  obtain ⟨q, rfl⟩ : ∃ q, parts = q + 1 := ⟨parts - 1, by omega⟩
  go_enter Try.func69, Try.ntmps69
  go_wp2_with fail
  all_goals
    go_ret
    exact take_end (by first | (simp [takeV, len1, some_ite, *]; done) | (simp [takeV, len1, some_ite, *]; intro h; omega)) (fun q' h => takeV_plain _ _ _ _ _ _ _ _ (by omega) h) HP.out _ _
set_option maxRecDepth 100000 in
set_option maxHeartbeats 1000000 in
theorem take_k1 (k n : Int) (s : ByteArray) (l : List Va) (r : Int) (A : Option Addr) (cap : Nat) (w : World) (p parts nest : Nat) (_h4 : l.length ≤ 140737488351232) (hp : BlkN w p 125 #[.int .i64 parts, .int .i64 nest]) (h512 : parts ≤ 512) (_hn : nest ≤ 16) (hz : 0 < parts) (hk : k = 1) :
    Calls Try.prog 69 #[.pointer (some ⟨p, 0, Option.none⟩), .agg #[.int .u8 k, .int .i64 n, .string s, .slice A l.length cap, .int .i64 r]] w (TakeP p w (takeV (.mk k n s l r) parts nest) nest) := by
  have hc0 := hp.cell 0 rfl
  have hf0 := hp.free 0
  have hc1 := hp.cell 1 rfl
  have hf1 := hp.free 1
  obtain ⟨l0, l1, l2, l3, l4⟩ := lts hp.lt
  have HP := Lib.hid hp
  clear hp
  subst hk
  obtain ⟨q, rfl⟩ : ∃ q, parts = q + 1 := ⟨parts - 1, by omega⟩
  go_enter Try.func69, Try.ntmps69
  go_wp2_with fail
  all_goals
    go_ret
    exact take_end (by first | (simp [takeV, len1, some_ite, *]; done) | (simp [takeV, len1, some_ite, *]; intro h; omega)) (fun q' h => takeV_plain _ _ _ _ _ _ _ _ (by omega) h) HP.out _ _
set_option maxRecDepth 100000 in
set_option maxHeartbeats 1000000 in
theorem take_k2 (k n : Int) (s : ByteArray) (l : List Va) (r : Int) (A : Option Addr) (cap : Nat) (w : World) (p parts nest : Nat) (_h4 : l.length ≤ 140737488351232) (hp : BlkN w p 125 #[.int .i64 parts, .int .i64 nest]) (h512 : parts ≤ 512) (_hn : nest ≤ 16) (hz : 0 < parts) (hk : k = 2) (hs3 : s.size ≤ 140737488351232) :
    Calls Try.prog 69 #[.pointer (some ⟨p, 0, Option.none⟩), .agg #[.int .u8 k, .int .i64 n, .string s, .slice A l.length cap, .int .i64 r]] w (TakeP p w (takeV (.mk k n s l r) parts nest) nest) := by
  have hc0 := hp.cell 0 rfl
  have hf0 := hp.free 0
  have hc1 := hp.cell 1 rfl
  have hf1 := hp.free 1
  obtain ⟨l0, l1, l2, l3, l4⟩ := lts hp.lt
  have HP := Lib.hid hp
  clear hp
  subst hk
  obtain ⟨q, rfl⟩ : ∃ q, parts = q + 1 := ⟨parts - 1, by omega⟩
  go_enter Try.func69, Try.ntmps69
  go_wp2_with fail
  all_goals
    go_ret
    exact take_end (by first | (simp [takeV, len1, some_ite, *]; done) | (simp [takeV, some_ite, *]; intro h; omega)) (fun q' h => takeV_plain _ _ _ _ _ _ _ _ (by omega) h) HP.out _ _
set_option maxRecDepth 100000 in
set_option maxHeartbeats 1000000 in
theorem take_k4 (k n : Int) (s : ByteArray) (l : List Va) (r : Int) (A : Option Addr) (cap : Nat) (w : World) (p parts nest : Nat) (_h4 : l.length ≤ 140737488351232) (hp : BlkN w p 125 #[.int .i64 parts, .int .i64 nest]) (h512 : parts ≤ 512) (_hn : nest ≤ 16) (hz : 0 < parts) (hk : k = 4) :
    Calls Try.prog 69 #[.pointer (some ⟨p, 0, Option.none⟩), .agg #[.int .u8 k, .int .i64 n, .string s, .slice A l.length cap, .int .i64 r]] w (TakeP p w (takeV (.mk k n s l r) parts nest) nest) := by
  have hc0 := hp.cell 0 rfl
  have hf0 := hp.free 0
  have hc1 := hp.cell 1 rfl
  have hf1 := hp.free 1
  obtain ⟨l0, l1, l2, l3, l4⟩ := lts hp.lt
  have HP := Lib.hid hp
  clear hp
  subst hk
  obtain ⟨q, rfl⟩ : ∃ q, parts = q + 1 := ⟨parts - 1, by omega⟩
  go_enter Try.func69, Try.ntmps69
  go_wp2_with fail
  all_goals
    go_ret
    exact take_end (by first | (simp [takeV, len1, some_ite, *]; done) | (simp [takeV, some_ite, *]; intro h; omega)) (fun q' h => takeV_plain _ _ _ _ _ _ _ _ (by omega) h) HP.out _ _
set_option maxRecDepth 100000 in
set_option maxHeartbeats 1000000 in
theorem take_kx (k n : Int) (s : ByteArray) (l : List Va) (r : Int) (A : Option Addr) (cap : Nat) (w : World) (p parts nest : Nat) (_h4 : l.length ≤ 140737488351232) (hp : BlkN w p 125 #[.int .i64 parts, .int .i64 nest]) (h512 : parts ≤ 512) (_hn : nest ≤ 16) (hz : 0 < parts) (hk0 : ¬ k = 0) (hk1 : ¬ k = 1) (hk2 : ¬ k = 2) (hk3 : ¬ k = 3) (hk4 : ¬ k = 4) :
    Calls Try.prog 69 #[.pointer (some ⟨p, 0, Option.none⟩), .agg #[.int .u8 k, .int .i64 n, .string s, .slice A l.length cap, .int .i64 r]] w (TakeP p w (takeV (.mk k n s l r) parts nest) nest) := by
  have hc0 := hp.cell 0 rfl
  have hf0 := hp.free 0
  have hc1 := hp.cell 1 rfl
  have hf1 := hp.free 1
  obtain ⟨l0, l1, l2, l3, l4⟩ := lts hp.lt
  have HP := Lib.hid hp
  clear hp
  obtain ⟨q, rfl⟩ : ∃ q, parts = q + 1 := ⟨parts - 1, by omega⟩
  go_enter Try.func69, Try.ntmps69
  go_wp2_with fail
  all_goals
    go_ret
    exact take_end (by first | (simp [takeV, *]; done) | (simp [takeV, len1, some_ite, *]; intro h; omega)) (fun q' h => takeV_plain _ _ _ _ _ _ _ _ hk3 h) HP.out _ _
set_option maxRecDepth 100000 in
set_option maxHeartbeats 1000000 in
theorem take_k3n (k n : Int) (s : ByteArray) (l : List Va) (r : Int) (A : Option Addr) (cap : Nat) (w : World) (p parts nest : Nat) (_h4 : l.length ≤ 140737488351232) (hp : BlkN w p 125 #[.int .i64 parts, .int .i64 nest]) (h512 : parts ≤ 512) (hn : nest ≤ 16) (hz : 0 < parts) (hk : k = 3) (hn0 : nest = 0) :
    Calls Try.prog 69 #[.pointer (some ⟨p, 0, Option.none⟩), .agg #[.int .u8 k, .int .i64 n, .string s, .slice A l.length cap, .int .i64 r]] w (TakeP p w (takeV (.mk k n s l r) parts nest) nest) := by
  have hc0 := hp.cell 0 rfl
  have hf0 := hp.free 0
  have hc1 := hp.cell 1 rfl
  have hf1 := hp.free 1
  obtain ⟨l0, l1, l2, l3, l4⟩ := lts hp.lt
  have HP := Lib.hid hp
  clear hp
  subst hk hn0
  obtain ⟨q, rfl⟩ : ∃ q, parts = q + 1 := ⟨parts - 1, by omega⟩
  go_enter Try.func69, Try.ntmps69
  go_wp2_with fail
  go_quiet (fail)
  go_wp2_with fail
  go_ret
  exact ⟨by simp [takeV], fun q' h => by simp [takeV] at h, ((((Upd.refl p w).set 0 _).alloc _).alloc _).drewN _⟩
set_option maxRecDepth 100000 in
set_option maxHeartbeats 1000000 in
theorem take_k3g (k n : Int) (s : ByteArray) (l : List Va) (r : Int) (A : Option Addr) (cap : Nat) (w : World) (p q m : Nat) (_h4 : l.length ≤ 140737488351232) (hp : BlkN w p 125 #[.int .i64 ((q + 1 : Nat) : Int), .int .i64 ((m + 1 : Nat) : Int)]) (h512 : q ≤ 511) (hn : m ≤ 15) (hk : k = 3) (hg : q < l.length) :
    Calls Try.prog 69 #[.pointer (some ⟨p, 0, Option.none⟩), .agg #[.int .u8 k, .int .i64 n, .string s, .slice A l.length cap, .int .i64 r]] w (TakeP p w (takeV (.mk k n s l r) (q + 1) (m + 1)) (m + 1)) := by
  have hc0 := hp.cell 0 rfl
  have hf0 := hp.free 0
  have hc1 := hp.cell 1 rfl
  have hf1 := hp.free 1
  obtain ⟨l0, l1, l2, l3, l4⟩ := lts hp.lt
  have HP := Lib.hid hp
  clear hp
  subst hk
  have gl : (q : Int) < l.length := by omega
  have gq : ((((q : Nat) : Int) + 1) == 0) = false := by rw [beq_eq_false_iff_ne]; omega
  have gm : ((((m : Nat) : Int) + 1) == 0) = false := by rw [beq_eq_false_iff_ne]; omega
  go_enter Try.func69, Try.ntmps69
  go_wp2_with fail
  go_quiet (fail)
  go_wp2_with fail
  go_ret
  exact ⟨by simp [takeV, hg], fun q' h => by simp [takeV, hg] at h, ((((Upd.refl p w).set 0 _).alloc _).alloc _).drewN _⟩
theorem takeVs_take (l : List Va) (m : Nat) : ∀ (q i : Nat) (h : i < l.length), takeVs (l.take (i + 1)) q m = (takeVs (l.take i) q m).bind (fun q' => takeV l[i] q' m) := by
  induction l with
  | nil => intro q i h; simp at h
  | cons x l ih =>
    intro q i h
    cases i with
    | zero => simp [takeVs]; cases takeV x q m <;> rfl
    | succ i =>
      simp only [List.take_succ_cons, takeVs, List.getElem_cons_succ]
      cases takeV x q m with
      | none => rfl
      | some q' => exact ih q' i (by simpa using h)
theorem takeVs_stop (l : List Va) (m : Nat) : ∀ (q i : Nat), takeVs (l.take i) q m = Option.none → takeVs l q m = Option.none := by
  induction l with
  | nil => intro q i h; simpa using h
  | cons x l ih =>
    intro q i h
    cases i with
    | zero => simp [takeVs] at h
    | succ i =>
      simp only [List.take_succ_cons, takeVs] at h ⊢
      cases hx : takeV x q m with
      | none => rfl
      | some q' => simp only [hx] at h; exact ih q' i h
mutual
theorem takeV_le : ∀ (x : Va) (q m q' : Nat), takeV x q m = some q' → q' < q
  | .mk k n s l r, q, m, q', h => by
    cases q with
    | zero => unfold takeV at h; cases h
    | succ q =>
      by_cases hk : k = 3
      · subst hk
        unfold takeV at h
        cases m with
        | zero => simp at h
        | succ m =>
          simp only [show ((3 : Int) == 0) = false from rfl, show ((3 : Int) == 1) = false from rfl, show ((3 : Int) == 2) = false from rfl, show ((3 : Int) == 4) = false from rfl, show ((3 : Int) == 3) = true from rfl, if_true, Bool.false_eq_true, if_false] at h
          split at h
          · cases h
          · split at h
            · cases h
            · rename_i q2 h2
              split at h
              · simp at h; subst h; have := takeVs_le l q m q2 h2; omega
              · cases h
      · have := takeV_plain k n s l r q m q' hk h; omega
theorem takeVs_le : ∀ (l : List Va) (q m q' : Nat), takeVs l q m = some q' → q' ≤ q
  | [], q, m, q', h => by simp [takeVs] at h; omega
  | x :: l, q, m, q', h => by
    unfold takeVs at h
    split at h
    · cases h
    · rename_i q1 h1
      have a := takeV_le x q m q1 h1
      have b := takeVs_le l q1 m q' h
      omega
end
theorem takeV_list (n : Int) (s : ByteArray) (l : List Va) (r : Int) (q m : Nat) (hg : ¬ q < l.length) : takeV (.mk 3 n s l r) (q + 1) (m + 1) = (takeVs l q m).bind (fun q' => if n == 0 && s.toList.isEmpty && r == 0 then some q' else Option.none) := by
  unfold takeV
  simp only [show ((3 : Int) == 0) = false from rfl, show ((3 : Int) == 1) = false from rfl, show ((3 : Int) == 2) = false from rfl, show ((3 : Int) == 4) = false from rfl, show ((3 : Int) == 3) = true from rfl, if_true, Bool.false_eq_true, if_false, hg]
  cases takeVs l q m <;> rfl
set_option maxRecDepth 100000 in
set_option maxHeartbeats 2000000 in
theorem take_k3 (k n : Int) (s : ByteArray) (l : List Va) (r : Int) (A : Option Addr) (cap : Nat) (w : World) (p q m : Nat) (h4 : l.length ≤ 140737488351232) (hp : BlkN w p 125 #[.int .i64 ((q + 1 : Nat) : Int), .int .i64 ((m + 1 : Nat) : Int)]) (h512 : q ≤ 511) (hn : m ≤ 15) (hk : k = 3) (hg : ¬ q < l.length) (IH : ∀ x ∈ l, TakeC x) (B : Nat) (hB : B ≤ p) (h7 : l ≠ [] → ∃ b o, b < B ∧ A = some ⟨b, o, Option.none⟩ ∧ IsVas w B b o l) :
    Calls Try.prog 69 #[.pointer (some ⟨p, 0, Option.none⟩), .agg #[.int .u8 k, .int .i64 n, .string s, .slice A l.length cap, .int .i64 r]] w (TakeP p w (takeV (.mk k n s l r) (q + 1) (m + 1)) (m + 1)) := by
  have hc0 := hp.cell 0 rfl
  have hf0 := hp.free 0
  have hc1 := hp.cell 1 rfl
  have hf1 := hp.free 1
  obtain ⟨l0, l1, l2, l3, l4⟩ := lts hp.lt
  have HP := Lib.hid hp
  clear hp
  subst hk
  have gl : (l.length : Int) ≤ q := by omega
  have HI := Lib.hid IH
  have H7 := Lib.hid h7
  have HE := Lib.hid (takeV_list n s l r q m hg)
  clear IH h7
  have gq : ((((q : Nat) : Int) + 1) == 0) = false := by rw [beq_eq_false_iff_ne]; omega
  have gm : ((((m : Nat) : Int) + 1) == 0) = false := by rw [beq_eq_false_iff_ne]; omega
  go_enter Try.func69, Try.ntmps69
  go_wp2_with fail
  go_quiet (fail)
  go_wp2_with fail
  have hW : Upd p w (((((w.setCell ⟨p, 0, Option.none⟩ (.int .i64 q)).alloc (.cells #[.int .u8 3, .int .i64 n, .string s, .slice A l.length cap, .int .i64 r] 49)).alloc (.cells #[.int .u8 3, .int .i64 n, .string s, .slice A l.length cap, .int .i64 r] 49)).drewN nq).setCell ⟨p, 1, Option.none⟩ (.int .i64 m)) :=
    ((((((Upd.refl p w).set 0 _).alloc _).alloc _).drewN _).set 1 _)
  have hP : BlkN (((((w.setCell ⟨p, 0, Option.none⟩ (.int .i64 q)).alloc (.cells #[.int .u8 3, .int .i64 n, .string s, .slice A l.length cap, .int .i64 r] 49)).alloc (.cells #[.int .u8 3, .int .i64 n, .string s, .slice A l.length cap, .int .i64 r] 49)).drewN nq).setCell ⟨p, 1, Option.none⟩ (.int .i64 m)) p 125 #[.int .i64 q, .int .i64 m] :=
    ((((HP.out.set 0 (.int .i64 q)).alloc _).alloc _).drewN nq).set 1 (.int .i64 m)
  have hC : BlkN (((((w.setCell ⟨p, 0, Option.none⟩ (.int .i64 q)).alloc (.cells #[.int .u8 3, .int .i64 n, .string s, .slice A l.length cap, .int .i64 r] 49)).alloc (.cells #[.int .u8 3, .int .i64 n, .string s, .slice A l.length cap, .int .i64 r] 49)).drewN nq).setCell ⟨p, 1, Option.none⟩ (.int .i64 m)) (w.heap.size + 1) 49 #[.int .u8 3, .int .i64 n, .string s, .slice A l.length cap, .int .i64 r] :=
    (((BlkN.at_ (by simp) _ _).drewN nq).setOther (by simp; omega) _)
  have HW := Lib.hid hW
  have HPP := Lib.hid hP
  have HCC := Lib.hid hC
  clear hW hP hC hc0 hc1 hf0 hf1
  go_loopw [68] (fun i wr => ∃ k : Nat, k ≤ l.length ∧ i = .int .i64 k ∧ ∃ qi : Nat, takeVs (l.take k) q m = some qi ∧ BlkN wr p 125 #[.int .i64 qi, .int .i64 m] ∧ BlkN wr (w.heap.size + 1) 49 #[.int .u8 3, .int .i64 n, .string s, .slice A l.length cap, .int .i64 r] ∧ Upd p w wr) (fun i _ => l.length - (intOf i).toNat)
  case atStart => exact ⟨0, by omega, rfl, q, by simp [takeVs], HPP.out, HCC.out, HW.out⟩
  case round =>
    obtain ⟨k, hk, rfl, qi, ht, hpr, hcr, hu⟩ := hrel
    have HT := Lib.hid ht
    have HPR := Lib.hid hpr
    have HCR := Lib.hid hcr
    have HU := Lib.hid hu
    have hqi := takeVs_le _ _ _ _ ht
    clear ht hpr hcr hu
    by_cases hlt : k < l.length
    · obtain ⟨b, o, hbB, hA, hx⟩ := H7.out (by rintro rfl; simp at hlt)
      subst hA
      obtain ⟨k', n', s', A', len', cap', r', hat, hx1⟩ := hx.at2 k hlt
      have hat' := hat.keep hbB (HU.out.keep hB (Nat.le_trans hB (Nat.le_of_lt HP.out.lt)))
      obtain ⟨e0, e1, e2, e3, e4⟩ := hat'.five
      have HX1 := Lib.hid (IsVa.keep (w' := wr.alloc (.cells #[.int .u8 k', .int .i64 n', .string s', .slice A' len' cap', .int .i64 r'] 49)) ((HU.out.alloc _).keep hB (Nat.le_trans hB (Nat.le_of_lt HP.out.lt))) hx1)
      clear hat hat' hx hx1
      have hsz := HU.out.size
      go_wp2_with fail
      refine (HI.out _ (List.getElem_mem hlt) _ B _ p qi m HX1.out hB (HPR.out.alloc _) (by omega) (by omega)).mono ?_
      rintro e w1 ⟨rfl, hb1, hu1⟩
      have HS := Lib.hid (takeVs_take l m q k hlt)
      have HB1 := Lib.hid hb1
      have HU1 := Lib.hid hu1
      clear hb1 hu1 e0 e1 e2 e3 e4
      cases hr : takeV l[k] qi m with
      | none =>
        have HR : Hid (takeVs l q m = Option.none) := Lib.hid (takeVs_stop l m q (k + 1) (by rw [HS.out, HT.out]; exact hr))
        go_wp2
        go_ret
        refine ⟨by rw [HE.out, HR.out]; rfl, (fun q' h => by rw [HE.out, HR.out] at h; cases h), (HU.out.alloc _).trans HU1.out⟩
      | some q2 =>
        have HR := Lib.hid hr
        clear hr
        go_wp2
        go_roundw
        case rel => exact ⟨k + 1, by omega, by go_num, q2, by rw [HS.out, HT.out]; exact HR.out, HB1.out q2 HR.out, (HCR.out.alloc _).upd HU1.out (by omega), (HU.out.alloc _).trans HU1.out⟩
        case measure => simp [intOf]; omega
    · obtain rfl : k = l.length := by omega
      have g0 := HPR.out.cell 0 rfl
      have g1 := HPR.out.cell 1 rfl
      have f1 := HPR.out.free 1
      have d0 := HCR.out.cell 0 rfl
      have d1 := HCR.out.cell 1 rfl
      have d2 := HCR.out.cell 2 rfl
      have d3 := HCR.out.cell 3 rfl
      have d4 := HCR.out.cell 4 rfl
      have z3 := HCR.out.free 3
      have hT : Hid (takeVs l q m = some qi) := Lib.hid (by have := HT.out; rwa [List.take_length] at this)
      have hB1 : BlkN ((wr.setCell ⟨p, 1, Option.none⟩ (.int .i64 ((m : Int) + 1))).setCell ⟨w.heap.size + 1, 3, Option.none⟩ (.slice Option.none 0 0)) p 125 #[.int .i64 qi, .int .i64 ((m + 1 : Nat) : Int)] := (HPR.out.set 1 (.int .i64 ((m : Int) + 1))).setOther (by simp; omega) _
      have hU1 : Upd p w ((wr.setCell ⟨p, 1, Option.none⟩ (.int .i64 ((m : Int) + 1))).setCell ⟨w.heap.size + 1, 3, Option.none⟩ (.slice Option.none 0 0)) := (HU.out.set 1 _).setNew (by simp) _
      have HB1 := Lib.hid hB1
      have HU1 := Lib.hid hU1
      clear hB1 hU1
      go_wp2_with fail
      all_goals
        go_ret
        refine ⟨by rw [HE.out, hT.out]; simp [*], fun q' h => ?_, HU1.out⟩
        have hq : q' = qi := by
          rw [HE.out, hT.out] at h
          simp only [Option.bind_some] at h
          split at h
          · exact (Option.some.inj h).symm
          · cases h
        subst hq
        exact HB1.out
theorem take_any (x : Va) : TakeC x := by
  induction x using Va.ind with
  | h k n s l r IH =>
    intro w B v p parts nest h hB hp h512 hn
    obtain ⟨h1, h2, h3, h4, A, cap, h5, rfl, h7⟩ := h.form
    by_cases hz : parts = 0
    · exact take_zero k n s l r A cap w p parts nest h4 hp h512 hn hz
    have hz : 0 < parts := by omega
    by_cases hk0 : k = 0
    · exact take_k0 k n s l r A cap w p parts nest h4 hp h512 hn hz hk0
    by_cases hk1 : k = 1
    · exact take_k1 k n s l r A cap w p parts nest h4 hp h512 hn hz hk1
    by_cases hk2 : k = 2
    · exact take_k2 k n s l r A cap w p parts nest h4 hp h512 hn hz hk2 h3
    by_cases hk4 : k = 4
    · exact take_k4 k n s l r A cap w p parts nest h4 hp h512 hn hz hk4
    by_cases hk3 : k = 3
    · cases nest with
      | zero => exact take_k3n k n s l r A cap w p parts 0 h4 hp h512 hn hz hk3 rfl
      | succ m =>
        obtain ⟨q, rfl⟩ : ∃ q, parts = q + 1 := ⟨parts - 1, by omega⟩
        by_cases hg : q < l.length
        · exact take_k3g k n s l r A cap w p q m h4 hp (by omega) (by omega) hk3 hg
        · exact take_k3 k n s l r A cap w p q m h4 hp (by omega) (by omega) hk3 hg IH B hB h7
    · exact take_kx k n s l r A cap w p parts nest h4 hp h512 hn hz hk0 hk1 hk2 hk3 hk4
/-- How many parts; 0: it may not be. -/
def measV (x : Va) : Nat := match takeV x 512 16 with | Option.none => 0 | some q => 512 - q
def mayV (x : Va) : Bool := (takeV x 512 16).isSome
theorem measV_pos (x : Va) : decide (0 < measV x) = mayV x := by
  unfold measV mayV
  cases h : takeV x 512 16 with
  | none => simp
  | some q => have := takeV_le x 512 16 q h; simp; omega
theorem measV_le (x : Va) : measV x ≤ 512 := by
  unfold measV; split <;> omega
set_option maxRecDepth 100000 in
set_option maxHeartbeats 400000 in
theorem measure_any {B : Nat} {v : Value} {x : Va} (w : World) (h : IsVa w B v x) (hB : B ≤ w.heap.size) :
    Calls Try.prog 57 #[v] w fun e w' => e = .returned (.int .i64 (measV x)) ∧ Below w.heap.size w w' := by
  have HH := Lib.hid h
  obtain ⟨k, n, s, l, r⟩ := x
  obtain ⟨h1, h2, h3, h4, A, cap, h5, rfl, h7⟩ := h.form
  clear h h7
  obtain ⟨y, hy⟩ : ∃ y, y = Va.mk k n s l r := ⟨_, rfl⟩
  rw [← hy] at HH ⊢
  clear hy
  have HM : Hid (measV y = match takeV y 512 16 with | Option.none => 0 | some q => 512 - q) := rfl
  have HL := Lib.hid (takeV_le y 512 16)
  have HB : Below w.heap.size w ((w.alloc (.cells #[.int .u8 k, .int .i64 n, .string s, .slice A l.length cap, .int .i64 r] 49)).alloc (.cells #[.int .i64 512, .int .i64 16] 125)) := ((Below.refl _ _).alloc (Nat.le_refl _) _).alloc (by simp) _
  have HBB := Lib.hid HB
  clear HB
  go_enter Try.func57, Try.ntmps57
  go_wp2_with fail
  refine (take_any y _ B _ (w.heap.size + 1) 512 16 (HH.out.keep (fun b hb => HBB.out.block b (by omega))) (by omega) (BlkN.at_ (by simp) _ _) (by omega) (by omega)).mono ?_
  rintro e w1 ⟨rfl, hb, hu⟩
  have HU := Lib.hid hu
  have HR := Lib.hid hb
  clear hb hu
  cases ht : takeV y 512 16 with
  | none =>
    have HT := Lib.hid ht
    clear ht
    go_wp2
    go_ret
    exact ⟨by rw [HM.out, HT.out]; rfl, HU.out.toBelow (by omega) HBB.out⟩
  | some q =>
    have hq := HL.out q ht
    have hc := (HR.out q ht).cell 0 rfl
    have HT := Lib.hid ht
    clear ht
    go_wp2
    go_ret
    exact ⟨ret_int (by rw [HM.out, HT.out]; simp only; omega), HU.out.toBelow (by omega) HBB.out⟩
set_option maxRecDepth 100000 in
set_option maxHeartbeats 400000 in
theorem vmay_any {B : Nat} {v : Value} {x : Va} (w : World) (h : IsVa w B v x) (hB : B ≤ w.heap.size) :
    Calls Try.prog 36 #[v] w fun e w' => e = .returned (.bool (mayV x)) ∧ Below w.heap.size w w' := by
  have HH := Lib.hid h
  obtain ⟨k, n, s, l, r⟩ := x
  obtain ⟨h1, h2, h3, h4, A, cap, h5, rfl, h7⟩ := h.form
  clear h h7
  obtain ⟨y, hy⟩ : ∃ y, y = Va.mk k n s l r := ⟨_, rfl⟩
  rw [← hy] at HH ⊢
  clear hy
  have HP := Lib.hid (measV_pos y)
  have HB : Below w.heap.size w (w.alloc (.cells #[.int .u8 k, .int .i64 n, .string s, .slice A l.length cap, .int .i64 r] 49)) := (Below.refl _ _).alloc (Nat.le_refl _) _
  have HBB := Lib.hid HB
  clear HB
  go_enter Try.func36, Try.ntmps36
  go_wp2_with fail
  refine (measure_any (B := B) (x := y) _ (HH.out.keep (fun b hb => HBB.out.block b (by omega))) (by simp; omega)).mono ?_
  rintro e w1 ⟨rfl, hb⟩
  have HB1 := Lib.hid (HBB.out.trans (hb.mono (by simp)))
  clear hb
  go_wp2
  go_ret
  exact ⟨ret_bool (by rw [← HP.out]), HB1.out⟩
end Go.Proofs.Ythafojadcodkoaa
