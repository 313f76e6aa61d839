/- Contracts of the small functions of package code on expressions: none, mayExpr, MayExpr, orNone. -/
import Derived.Test.YtnknefdpglnbnaaA
namespace Go.Proofs.Ytnknefdpglnbnaa
open Go.RowKit

theorem lts {p n : Nat} (h : p < n) : p < n ∧ p < n + 1 ∧ p < n + 1 + 1 ∧ p < n + 1 + 1 + 1 ∧ p < n + 1 + 1 + 1 + 1 := by omega
theorem At.four {w : World} {b o : Nat} {c0 c1 c2 c3 : Value} (h : At w b o [c0, c1, c2, c3]) :
    w.cell? ⟨b, o, Option.none⟩ = some c0 ∧ w.cell? ⟨b, o + 1, Option.none⟩ = some c1 ∧ w.cell? ⟨b, o + 2, Option.none⟩ = some c2 ∧ w.cell? ⟨b, o + 3, Option.none⟩ = some c3 :=
  ⟨h 0 _ rfl, h 1 _ rfl, h 2 _ rfl, h 3 _ rfl⟩
def noneX : Ex → Bool | .mk k n s l => k == 0 && n == 0 && s.toList.isEmpty && l.length == 0
set_option maxHeartbeats 400000 in
theorem none_any {B : Nat} {v : Value} {x : Ex} (w : World) (h : IsEx w B v x) :
    Calls Try.prog 106 #[v] w fun e w' => e = .returned (.bool (noneX x)) ∧ Below w.heap.size w w' := by
  obtain ⟨k, n, s, l⟩ := x
  obtain ⟨h1, h2, h3, h4, A, cap, h5, rfl, h7⟩ := h.form
  clear h h7
  go_enter Try.func106, Try.ntmps106
  go_wp2
  all_goals
    go_ret
    refine ⟨ret_bool ?_, (Below.refl _ _).alloc (Nat.le_refl _) _⟩
    first | (simp [noneX, *]; done) | (simp [noneX, *]; rw [Bool.eq_iff_iff]; simp)

mutual
def mayX : Ex → Nat → Int → Bool × Int
  | .mk k n s l, nest, left =>
    if left - 1 < 0 || (k != 1 && n != 0) || (k != 3 && l.length != 0) || (k != 2 && k != 4 && !s.toList.isEmpty) then (false, left - 1)
    else if k == 1 then (true, left - 1)
    else if k == 2 then (decide (s.size ≤ 256), left - 1)
    else if k == 4 then (mayN s, left - 1)
    else if k == 3 then (match nest with | 0 => (false, left - 1) | nest + 1 => mayXs l nest (left - 1))
    else (false, left - 1)
def mayXs : List Ex → Nat → Int → Bool × Int
  | [], _, left => (true, left)
  | x :: l, nest, left => if (mayX x nest left).1 then mayXs l nest (mayX x nest left).2 else (false, (mayX x nest left).2)
end
/-- What is said of mayExpr at one expression. -/
def MayC (x : Ex) : Prop := ∀ (w : World) (B : Nat) (v : Value) (p : Nat) (left : Int) (nest : Nat), IsEx w B v x → B ≤ p → Blk w p 3 (.int .i64 left) → 0 ≤ left → left ≤ 512 → nest ≤ 16 →
  Calls Try.prog 68 #[v, .pointer (some ⟨p, 0, Option.none⟩), .int .i64 nest] w fun e w' =>
    e = .returned (.bool (mayX x nest left).1) ∧ Blk w' p 3 (.int .i64 (mayX x nest left).2) ∧ Upd p w w'
set_option maxRecDepth 100000 in
set_option maxHeartbeats 400000 in
theorem mayClo_any (x : Ex) (IH : MayC x) (w : World) (B : Nat) (v : Value) (p b4 b5 : Nat) (left : Int) (nest : Nat) (h : IsEx w B v x) (hB : B ≤ p) (hp : Blk w p 3 (.int .i64 left)) (h0 : 0 ≤ left) (h512 : left ≤ 512) (hn : nest ≤ 15)
    (h4 : Blk w b4 96 (.pointer (some ⟨p, 0, Option.none⟩))) (h5 : Blk w b5 3 (.int .i64 ((nest + 1 : Nat) : Int))) :
    Calls Try.prog 113 #[v, .pointer (some ⟨b4, 0, Option.none⟩), .pointer (some ⟨b5, 0, Option.none⟩)] w fun e w' =>
      e = .returned (.bool (!(mayX x nest left).1)) ∧ Blk w' p 3 (.int .i64 (mayX x nest left).2) ∧ Upd p w w' := by
  obtain ⟨k, n, s, l⟩ := x
  obtain ⟨g1, g2, g3, g4, A, cap, g5, rfl, g7⟩ := h.form
  have c4 := h4.cell
  have c5 := h5.cell
  have l4 := h4.lt
  have l5 := h5.lt
  have hlt := hp.lt
  have HP := Lib.hid (hp.alloc (.cells #[.int .u8 k, .int .i64 n, .string s, .slice A l.length cap] 26))
  have HX := Lib.hid (h.keep (w' := w.alloc (.cells #[.int .u8 k, .int .i64 n, .string s, .slice A l.length cap] 26)) (fun b hb => Below.heap_alloc _ _ _ (by omega)))
  clear h g7 hp h4 h5
  go_enter Try.func113, Try.ntmps113
  go_wp2_with fail
  refine (IH _ B _ p left nest HX.out hB HP.out h0 h512 (by omega)).mono ?_
  rintro e w' ⟨rfl, hb, hu⟩
  go_wp2_with fail
  go_ret
  exact ⟨rfl, hb, ((Upd.refl p w).alloc _).trans hu⟩
theorem mayXs_take (l : List Ex) (nest : Nat) (left : Int) : ∀ k (h : k < l.length), (mayXs (l.take k) nest left).1 = true →
    mayXs (l.take (k + 1)) nest left = mayX l[k] nest (mayXs (l.take k) nest left).2 := by
  induction l generalizing left with
  | nil => intro k h; simp at h
  | cons x l ih =>
    intro k h ht
    cases k with
    | zero => simp [mayXs]; cases hx : mayX x nest left; rename_i a b; cases a <;> simp
    | succ k =>
      simp only [List.take_succ_cons, mayXs, List.getElem_cons_succ] at ht ⊢
      cases hb : (mayX x nest left).1 with
      | false => simp [hb] at ht
      | true =>
        simp only [hb, if_true] at ht ⊢
        exact ih _ k (by simpa using h) ht
theorem mayXs_stop (l : List Ex) (nest : Nat) (left : Int) : ∀ k, (mayXs (l.take k) nest left).1 = false → mayXs l nest left = mayXs (l.take k) nest left := by
  induction l generalizing left with
  | nil => intro k h; simp
  | cons x l ih =>
    intro k ht
    cases k with
    | zero => simp [mayXs] at ht
    | succ k =>
      simp only [List.take_succ_cons, mayXs] at ht ⊢
      cases hb : (mayX x nest left).1 with
      | false => simp
      | true =>
        simp only [hb, if_true] at ht ⊢
        exact ih _ k ht
mutual
theorem mayX_left : ∀ (x : Ex) (nest : Nat) (left : Int), 0 ≤ left → (mayX x nest left).2 ≤ left ∧ ((mayX x nest left).1 = true → 0 ≤ (mayX x nest left).2)
  | .mk k n s l, nest, left, h => by
    unfold mayX
    split
    · simp; omega
    · rename_i hc
      simp only [Bool.or_eq_true, decide_eq_true_eq, not_or] at hc
      have hc' : ¬ (left - 1 < 0) := hc.1.1.1
      split
      · simp; omega
      · split
        · simp; omega
        · split
          · simp; omega
          · split
            · cases nest with
              | zero => simp; omega
              | succ nest =>
                have := mayXs_left l nest (left - 1) (by omega)
                exact ⟨Int.le_trans this.1 (by omega), this.2⟩
            · simp; omega
theorem mayXs_left : ∀ (l : List Ex) (nest : Nat) (left : Int), 0 ≤ left → (mayXs l nest left).2 ≤ left ∧ ((mayXs l nest left).1 = true → 0 ≤ (mayXs l nest left).2)
  | [], nest, left, h => by simp [mayXs]; omega
  | x :: l, nest, left, h => by
    have h1 := mayX_left x nest left h
    unfold mayXs
    split
    · rename_i hx
      have h2 := mayXs_left l nest _ (h1.2 hx)
      exact ⟨by omega, h2.2⟩
    · rename_i hx
      exact ⟨h1.1, fun h => by cases h⟩
end
def RetIdx (ok : Bool) (e : Ending) : Prop := ∃ r : Int, e = .returned (.int .i64 r) ∧ r < 9223372036854775808 ∧ decide (0 ≤ r) = !ok
set_option maxRecDepth 100000 in
set_option maxHeartbeats 400000 in
theorem mayIdx_any (l : List Ex) (IH : ∀ x ∈ l, MayC x) (w : World) (B : Nat) (b o cap : Nat) (p b4 b5 : Nat) (left : Int) (nest : Nat) (hl : l.length ≤ 140737488351232) (h : IsExs w B b o l) (hbB : b < B) (hB : B ≤ p) (hp : Blk w p 3 (.int .i64 left)) (h0 : 0 ≤ left) (h512 : left ≤ 512) (hn : nest ≤ 15)
    (h4 : Blk w b4 96 (.pointer (some ⟨p, 0, Option.none⟩))) (h5 : Blk w b5 3 (.int .i64 ((nest + 1 : Nat) : Int))) (h4p : b4 ≠ p) (h5p : b5 ≠ p) :
    Calls Try.prog 136 #[.slice (some ⟨b, o, Option.none⟩) l.length cap, .func (Fn.func 113) #[] #[.pointer (some ⟨b4, 0, Option.none⟩), .pointer (some ⟨b5, 0, Option.none⟩)]] w fun e w' =>
      RetIdx (mayXs l nest left).1 e ∧ Blk w' p 3 (.int .i64 (mayXs l nest left).2) ∧ Upd p w w' := by
  have HX := Lib.hid h
  have H4 := Lib.hid h4
  have H5 := Lib.hid h5
  have HP := Lib.hid hp
  have HI := Lib.hid IH
  clear h h4 h5 hp IH
  go_enter Try.func136, Try.ntmps136
  go_wp2_with fail
  go_loopw [5, 8] (fun _ i wr => ∃ k : Nat, k ≤ l.length ∧ i = .int .i64 k ∧ (mayXs (l.take k) nest left).1 = true ∧ Blk wr p 3 (.int .i64 (mayXs (l.take k) nest left).2) ∧ Upd p w wr) (fun _ i _ => l.length - (intOf i).toNat)
  case atStart => exact ⟨0, by omega, rfl, by simp [mayXs], by simpa [mayXs] using HP.out, Upd.refl _ _⟩
  case round =>
    obtain ⟨k, hk, rfl, ht, hpr, hu⟩ := hrel
    have HT := Lib.hid ht
    have HPR := Lib.hid hpr
    have HU := Lib.hid hu
    clear ht hpr hu
    by_cases hlt : k < l.length
    · obtain ⟨c0, c1, c2, c3, hat, hx⟩ := HX.out.at k hlt
      have hat' := hat.keep hbB (HU.out.keep hB (Nat.le_trans hB (Nat.le_of_lt HP.out.lt)))
      obtain ⟨e0, e1, e2, e3⟩ := hat'.four
      have HX1 := Lib.hid (IsEx.keep (w' := wr) (HU.out.keep hB (Nat.le_trans hB (Nat.le_of_lt HP.out.lt))) hx)
      clear hat hat' hx
      go_wp2_with fail
      refine (mayClo_any l[k] (HI.out _ (List.getElem_mem hlt)) wr B _ p b4 b5 _ nest HX1.out hB HPR.out ((mayXs_left _ _ _ h0).2 HT.out) (Int.le_trans (mayXs_left _ _ _ h0).1 h512) hn (HU.out.blk H4.out h4p) (HU.out.blk H5.out h5p)).mono ?_
      rintro e w1 ⟨rfl, hb1, hu1⟩
      have HS := Lib.hid (mayXs_take l nest left k hlt HT.out)
      have HB1 := Lib.hid hb1
      have HU1 := Lib.hid hu1
      clear hb1 hu1
      cases hr : (mayX l[k] nest (mayXs (l.take k) nest left).2).1
      · have HE := Lib.hid (mayXs_stop l nest left (k + 1) (by rw [HS.out]; exact hr))
        go_wp2
        go_ret
        rw [HE.out, HS.out, hr]
        exact ⟨⟨k, rfl, by omega, by simp⟩, HB1.out, HU.out.trans HU1.out⟩
      · go_wp2
        go_roundw
        case rel => exact ⟨k + 1, by omega, by go_num, by rw [HS.out, hr], by rw [HS.out]; exact HB1.out, HU.out.trans HU1.out⟩
        case measure => simp [intOf]; omega
    · obtain rfl : k = l.length := by omega
      go_wp2
      go_ret
      have hT := HT.out
      have hB1 := HPR.out
      rw [List.take_length] at hT hB1
      exact ⟨⟨-1, rfl, by omega, by rw [hT]; simp⟩, hB1, HU.out⟩
set_option maxRecDepth 100000 in
set_option maxHeartbeats 400000 in
theorem mayIdx_nil (A : Option Addr) (cap : Nat) (f : Value) (w : World) :
    Calls Try.prog 136 #[.slice A 0 cap, f] w fun e w' => e = .returned (.int .i64 (-1)) ∧ w = w' := by
  go_enter Try.func136, Try.ntmps136
  go_wp2_with fail
  go_loop [5, 8] (fun _ i => i = .int .i64 0) (fun _ _ => 0)
  case atStart => rfl
  case round =>
    subst hrel
    go_wp2
    go_ret
    exact ⟨rfl, rfl⟩
set_option maxRecDepth 100000 in
set_option maxHeartbeats 400000 in
theorem mayCont_any (A : Option Addr) (cap : Nat) (l : List Ex) (IH : ∀ x ∈ l, MayC x) (w : World) (B : Nat) (p b4 b5 : Nat) (left : Int) (nest : Nat) (hl : l.length ≤ 140737488351232)
    (h : l ≠ [] → ∃ b o, b < B ∧ A = some ⟨b, o, Option.none⟩ ∧ IsExs w B b o l) (hB : B ≤ p) (hp : Blk w p 3 (.int .i64 left)) (h0 : 0 ≤ left) (h512 : left ≤ 512) (hn : nest ≤ 15)
    (h4 : Blk w b4 96 (.pointer (some ⟨p, 0, Option.none⟩))) (h5 : Blk w b5 3 (.int .i64 ((nest + 1 : Nat) : Int))) (h4p : b4 ≠ p) (h5p : b5 ≠ p) :
    Calls Try.prog 112 #[.slice A l.length cap, .func (Fn.func 113) #[] #[.pointer (some ⟨b4, 0, Option.none⟩), .pointer (some ⟨b5, 0, Option.none⟩)]] w fun e w' =>
      e = .returned (.bool (!(mayXs l nest left).1)) ∧ Blk w' p 3 (.int .i64 (mayXs l nest left).2) ∧ Upd p w w' := by
  cases l with
  | nil =>
    have HP := Lib.hid hp
    clear hp h h4 h5 IH
    go_enter Try.func112, Try.ntmps112
    go_wp2_with fail
    refine (mayIdx_nil _ _ _ _).mono ?_
    rintro e w1 ⟨rfl, rfl⟩
    go_wp2
    go_ret
    exact ⟨by simp [mayXs], by simpa [mayXs] using HP.out, Upd.refl _ _⟩
  | cons x l =>
    obtain ⟨b, o, hbB, rfl, hx⟩ := h (by simp)
    have HC := Lib.hid (mayIdx_any (x :: l) IH w B b o cap p b4 b5 left nest hl hx hbB hB hp h0 h512 hn h4 h5 h4p h5p)
    clear hp h h4 h5 IH hx
    obtain ⟨n, hn⟩ : ∃ n, n = (x :: l).length := ⟨_, rfl⟩
    rw [← hn] at HC hl ⊢
    obtain ⟨r, hr⟩ : ∃ r, r = mayXs (x :: l) nest left := ⟨_, rfl⟩
    rw [← hr] at HC ⊢
    clear hn hr
    go_enter Try.func112, Try.ntmps112
    go_wp2_with fail
    refine (HC.out).mono ?_
    rintro e w1 ⟨⟨q, rfl, hq, hqq⟩, hb1, hu1⟩
    have HQ := Lib.hid hqq
    have HB := Lib.hid hb1
    have HU := Lib.hid hu1
    clear hb1 hu1 hqq
    go_wp2
    go_ret
    exact ⟨ret_bool (by rw [← HQ.out]), HB.out, HU.out⟩
theorem Blk.at_ {w : World} {b : Nat} (h : b = w.heap.size) (T : TypeId) (v : Value) : Blk (w.alloc (.cells #[v] T)) b T v := h ▸ Blk.new w T v
theorem pos_of_ne {l : List Ex} (h : l ≠ []) : 0 < (l.length : Int) := by
  have : 0 < l.length := List.length_pos_iff.2 h
  omega
theorem may_end {x : Ex} {nest : Nat} {left : Int} {b : Bool} {w : World} {p : Nat} (e2 : mayX x nest left = (b, left - 1)) (hp : Blk w p 3 (.int .i64 left)) (o1 o2 o3 : Obj) :
    Ending.returned (.bool b) = .returned (.bool (mayX x nest left).1) ∧ Blk ((((w.setCell ⟨p, 0, Option.none⟩ (.int .i64 (left - 1))).alloc o1).alloc o2).alloc o3) p 3 (.int .i64 (mayX x nest left).2) ∧
      Upd p w ((((w.setCell ⟨p, 0, Option.none⟩ (.int .i64 (left - 1))).alloc o1).alloc o2).alloc o3) := by
  rw [e2]
  exact ⟨rfl, (((hp.set _).alloc _).alloc _).alloc _, ((((Upd.refl p w).set 0 _).alloc _).alloc _).alloc _⟩
set_option maxRecDepth 100000 in
set_option maxHeartbeats 1000000 in
theorem mayExpr_low (k n : Int) (s : ByteArray) (l : List Ex) (A : Option Addr) (cap : Nat) (w : World) (p : Nat) (left : Int) (nest : Nat) (_h4 : l.length ≤ 140737488351232) (hp : Blk w p 3 (.int .i64 left)) (h0 : 0 ≤ left) (h512 : left ≤ 512) (_hn : nest ≤ 16) (hl : left < 1) :
    Calls Try.prog 68 #[.agg #[.int .u8 k, .int .i64 n, .string s, .slice A l.length cap], .pointer (some ⟨p, 0, Option.none⟩), .int .i64 nest] w fun e w' =>
      e = .returned (.bool (mayX (.mk k n s l) nest left).1) ∧ Blk w' p 3 (.int .i64 (mayX (.mk k n s l) nest left).2) ∧ Upd p w w' := by
  have hc := hp.cell
  have hf := hp.free
  obtain ⟨l0, l1, l2, l3, l4⟩ := lts hp.lt
  have HP := Lib.hid hp
  clear hp
  have E2 : Hid (mayX (.mk k n s l) nest left = (false, left - 1)) := Lib.hid (by simp [mayX, show left - 1 < 0 from by omega])
  go_enter Try.func68, Try.ntmps68
  go_wp2_with fail
  all_goals
    go_ret
    first | exact may_end E2.out HP.out _ _ _ | exact (by have := may_end E2.out HP.out; simpa using this _ _ _)
set_option maxRecDepth 100000 in
set_option maxHeartbeats 1000000 in
theorem mayExpr_badn (k n : Int) (s : ByteArray) (l : List Ex) (A : Option Addr) (cap : Nat) (w : World) (p : Nat) (left : Int) (nest : Nat) (_h4 : l.length ≤ 140737488351232) (hp : Blk w p 3 (.int .i64 left)) (h0 : 0 ≤ left) (h512 : left ≤ 512) (_hn : nest ≤ 16) (hl : 1 ≤ left) (hk : ¬ k = 1) (hn0 : ¬ n = 0) :
    Calls Try.prog 68 #[.agg #[.int .u8 k, .int .i64 n, .string s, .slice A l.length cap], .pointer (some ⟨p, 0, Option.none⟩), .int .i64 nest] w fun e w' =>
      e = .returned (.bool (mayX (.mk k n s l) nest left).1) ∧ Blk w' p 3 (.int .i64 (mayX (.mk k n s l) nest left).2) ∧ Upd p w w' := by
  have hc := hp.cell
  have hf := hp.free
  obtain ⟨l0, l1, l2, l3, l4⟩ := lts hp.lt
  have HP := Lib.hid hp
  clear hp
  have E2 : Hid (mayX (.mk k n s l) nest left = (false, left - 1)) := Lib.hid (by simp [mayX, hk, hn0])
  go_enter Try.func68, Try.ntmps68
  go_wp2_with fail
  all_goals
    go_ret
    first | exact may_end E2.out HP.out _ _ _ | exact (by have := may_end E2.out HP.out; simpa using this _ _ _)
set_option maxRecDepth 100000 in
set_option maxHeartbeats 1000000 in
theorem mayExpr_badl (k n : Int) (s : ByteArray) (l : List Ex) (A : Option Addr) (cap : Nat) (w : World) (p : Nat) (left : Int) (nest : Nat) (h4 : l.length ≤ 140737488351232) (hp : Blk w p 3 (.int .i64 left)) (h0 : 0 ≤ left) (h512 : left ≤ 512) (_hn : nest ≤ 16) (hl : 1 ≤ left) (hk : ¬ k = 3) (hkn : k = 1 ∨ n = 0) (hl0 : ¬ l = []) :
    Calls Try.prog 68 #[.agg #[.int .u8 k, .int .i64 n, .string s, .slice A l.length cap], .pointer (some ⟨p, 0, Option.none⟩), .int .i64 nest] w fun e w' =>
      e = .returned (.bool (mayX (.mk k n s l) nest left).1) ∧ Blk w' p 3 (.int .i64 (mayX (.mk k n s l) nest left).2) ∧ Upd p w w' := by
  have hc := hp.cell
  have hf := hp.free
  obtain ⟨l0, l1, l2, l3, l4⟩ := lts hp.lt
  have HP := Lib.hid hp
  clear hp
  have hpos := pos_of_ne hl0
  have E2 : Hid (mayX (.mk k n s l) nest left = (false, left - 1)) := Lib.hid (by simp [mayX, hk, hl0])
  go_enter Try.func68, Try.ntmps68
  go_wp2_with fail
  all_goals
    go_ret
    first | exact may_end E2.out HP.out _ _ _ | exact (by have := may_end E2.out HP.out; simpa using this _ _ _)
set_option maxRecDepth 100000 in
set_option maxHeartbeats 1000000 in
theorem mayExpr_bads1 (k n : Int) (s : ByteArray) (l : List Ex) (A : Option Addr) (cap : Nat) (w : World) (p : Nat) (left : Int) (nest : Nat) (h4 : l.length ≤ 140737488351232) (hp : Blk w p 3 (.int .i64 left)) (h0 : 0 ≤ left) (h512 : left ≤ 512) (_hn : nest ≤ 16) (hl : 1 ≤ left) (hk : k = 1) (hl0 : l = []) (hs : s.toList.isEmpty = false) :
    Calls Try.prog 68 #[.agg #[.int .u8 k, .int .i64 n, .string s, .slice A l.length cap], .pointer (some ⟨p, 0, Option.none⟩), .int .i64 nest] w fun e w' =>
      e = .returned (.bool (mayX (.mk k n s l) nest left).1) ∧ Blk w' p 3 (.int .i64 (mayX (.mk k n s l) nest left).2) ∧ Upd p w w' := by
  have hc := hp.cell
  have hf := hp.free
  obtain ⟨l0, l1, l2, l3, l4⟩ := lts hp.lt
  have HP := Lib.hid hp
  clear hp
  subst hk hl0
  have E2 : Hid (mayX (.mk 1 n s []) nest left = (false, left - 1)) := Lib.hid (by simp [mayX, hs])
  go_enter Try.func68, Try.ntmps68
  go_wp2_with fail
  all_goals
    go_ret
    first | exact may_end E2.out HP.out _ _ _ | exact (by have := may_end E2.out HP.out; simpa using this _ _ _)
set_option maxRecDepth 100000 in
set_option maxHeartbeats 1000000 in
theorem mayExpr_bads3 (k n : Int) (s : ByteArray) (l : List Ex) (A : Option Addr) (cap : Nat) (w : World) (p : Nat) (left : Int) (nest : Nat) (_h4 : l.length ≤ 140737488351232) (hp : Blk w p 3 (.int .i64 left)) (h0 : 0 ≤ left) (h512 : left ≤ 512) (_hn : nest ≤ 16) (hl : 1 ≤ left) (hk : k = 3) (hn0 : n = 0) (hs : s.toList.isEmpty = false) :
    Calls Try.prog 68 #[.agg #[.int .u8 k, .int .i64 n, .string s, .slice A l.length cap], .pointer (some ⟨p, 0, Option.none⟩), .int .i64 nest] w fun e w' =>
      e = .returned (.bool (mayX (.mk k n s l) nest left).1) ∧ Blk w' p 3 (.int .i64 (mayX (.mk k n s l) nest left).2) ∧ Upd p w w' := by
  have hc := hp.cell
  have hf := hp.free
  obtain ⟨l0, l1, l2, l3, l4⟩ := lts hp.lt
  have HP := Lib.hid hp
  clear hp
  subst hk hn0
  have E2 : Hid (mayX (.mk 3 0 s l) nest left = (false, left - 1)) := Lib.hid (by simp [mayX, hs])
  go_enter Try.func68, Try.ntmps68
  go_wp2_with fail
  all_goals
    go_ret
    first | exact may_end E2.out HP.out _ _ _ | exact (by have := may_end E2.out HP.out; simpa using this _ _ _)
set_option maxRecDepth 100000 in
set_option maxHeartbeats 1000000 in
theorem mayExpr_bads (k n : Int) (s : ByteArray) (l : List Ex) (A : Option Addr) (cap : Nat) (w : World) (p : Nat) (left : Int) (nest : Nat) (h4 : l.length ≤ 140737488351232) (hp : Blk w p 3 (.int .i64 left)) (h0 : 0 ≤ left) (h512 : left ≤ 512) (_hn : nest ≤ 16) (hl : 1 ≤ left) (hk1 : ¬ k = 1) (hk2 : ¬ k = 2) (hk3 : ¬ k = 3) (hk4 : ¬ k = 4) (hn0 : n = 0) (hl0 : l = []) (hs : s.toList.isEmpty = false) :
    Calls Try.prog 68 #[.agg #[.int .u8 k, .int .i64 n, .string s, .slice A l.length cap], .pointer (some ⟨p, 0, Option.none⟩), .int .i64 nest] w fun e w' =>
      e = .returned (.bool (mayX (.mk k n s l) nest left).1) ∧ Blk w' p 3 (.int .i64 (mayX (.mk k n s l) nest left).2) ∧ Upd p w w' := by
  have hc := hp.cell
  have hf := hp.free
  obtain ⟨l0, l1, l2, l3, l4⟩ := lts hp.lt
  have HP := Lib.hid hp
  clear hp
  subst hn0 hl0
  have E2 : Hid (mayX (.mk k 0 s []) nest left = (false, left - 1)) := Lib.hid (by simp [mayX, hk2, hk4, hs])
  go_enter Try.func68, Try.ntmps68
  go_wp2_with fail
  all_goals
    go_ret
    first | exact may_end E2.out HP.out _ _ _ | exact (by have := may_end E2.out HP.out; simpa using this _ _ _)
set_option maxRecDepth 100000 in
set_option maxHeartbeats 1000000 in
theorem mayExpr_one (k n : Int) (s : ByteArray) (l : List Ex) (A : Option Addr) (cap : Nat) (w : World) (p : Nat) (left : Int) (nest : Nat) (h4 : l.length ≤ 140737488351232) (hp : Blk w p 3 (.int .i64 left)) (h0 : 0 ≤ left) (h512 : left ≤ 512) (_hn : nest ≤ 16) (hl : 1 ≤ left) (hk : k = 1) (hl0 : l = []) (hs : s.toList.isEmpty = true) :
    Calls Try.prog 68 #[.agg #[.int .u8 k, .int .i64 n, .string s, .slice A l.length cap], .pointer (some ⟨p, 0, Option.none⟩), .int .i64 nest] w fun e w' =>
      e = .returned (.bool (mayX (.mk k n s l) nest left).1) ∧ Blk w' p 3 (.int .i64 (mayX (.mk k n s l) nest left).2) ∧ Upd p w w' := by
  have hc := hp.cell
  have hf := hp.free
  obtain ⟨l0, l1, l2, l3, l4⟩ := lts hp.lt
  have HP := Lib.hid hp
  clear hp
  subst hk hl0
  have E2 : Hid (mayX (.mk 1 n s []) nest left = (true, left - 1)) := Lib.hid (by simp [mayX, show ¬ (left - 1 < 0) from by omega, hs])
  go_enter Try.func68, Try.ntmps68
  go_wp2_with fail
  all_goals
    go_ret
    first | exact may_end E2.out HP.out _ _ _ | exact (by have := may_end E2.out HP.out; simpa using this _ _ _)
set_option maxRecDepth 100000 in
set_option maxHeartbeats 1000000 in
theorem mayExpr_two (k n : Int) (s : ByteArray) (l : List Ex) (A : Option Addr) (cap : Nat) (w : World) (p : Nat) (left : Int) (nest : Nat) (h4 : l.length ≤ 140737488351232) (hp : Blk w p 3 (.int .i64 left)) (h0 : 0 ≤ left) (h512 : left ≤ 512) (_hn : nest ≤ 16) (hl : 1 ≤ left) (hk : k = 2) (hn0 : n = 0) (hl0 : l = []) (hs3 : s.size ≤ 140737488351232) :
    Calls Try.prog 68 #[.agg #[.int .u8 k, .int .i64 n, .string s, .slice A l.length cap], .pointer (some ⟨p, 0, Option.none⟩), .int .i64 nest] w fun e w' =>
      e = .returned (.bool (mayX (.mk k n s l) nest left).1) ∧ Blk w' p 3 (.int .i64 (mayX (.mk k n s l) nest left).2) ∧ Upd p w w' := by
  have hc := hp.cell
  have hf := hp.free
  obtain ⟨l0, l1, l2, l3, l4⟩ := lts hp.lt
  have HP := Lib.hid hp
  clear hp
  subst hk hn0 hl0
  have E2 : Hid (mayX (.mk 2 0 s []) nest left = (decide ((s.size : Int) ≤ 256), left - 1)) := Lib.hid (by simp [mayX, show ¬ (left - 1 < 0) from by omega]; omega)
  go_enter Try.func68, Try.ntmps68
  go_wp2_with fail
  all_goals
    go_ret
    first | exact may_end E2.out HP.out _ _ _ | exact (by have := may_end E2.out HP.out; simpa using this _ _ _)
set_option maxRecDepth 100000 in
set_option maxHeartbeats 1000000 in
theorem mayExpr_none (k n : Int) (s : ByteArray) (l : List Ex) (A : Option Addr) (cap : Nat) (w : World) (p : Nat) (left : Int) (nest : Nat) (h4 : l.length ≤ 140737488351232) (hp : Blk w p 3 (.int .i64 left)) (h0 : 0 ≤ left) (h512 : left ≤ 512) (_hn : nest ≤ 16) (hl : 1 ≤ left) (hk1 : ¬ k = 1) (hk2 : ¬ k = 2) (hk3 : ¬ k = 3) (hk4 : ¬ k = 4) (hn0 : n = 0) (hl0 : l = []) (hs : s.toList.isEmpty = true) :
    Calls Try.prog 68 #[.agg #[.int .u8 k, .int .i64 n, .string s, .slice A l.length cap], .pointer (some ⟨p, 0, Option.none⟩), .int .i64 nest] w fun e w' =>
      e = .returned (.bool (mayX (.mk k n s l) nest left).1) ∧ Blk w' p 3 (.int .i64 (mayX (.mk k n s l) nest left).2) ∧ Upd p w w' := by
  have hc := hp.cell
  have hf := hp.free
  obtain ⟨l0, l1, l2, l3, l4⟩ := lts hp.lt
  have HP := Lib.hid hp
  clear hp
  subst hn0 hl0
  have E2 : Hid (mayX (.mk k 0 s []) nest left = (false, left - 1)) := Lib.hid (by simp [mayX, show ¬ (left - 1 < 0) from by omega, hk1, hk2, hk3, hk4, hs])
  go_enter Try.func68, Try.ntmps68
  go_wp2_with fail
  all_goals
    go_ret
    first | exact may_end E2.out HP.out _ _ _ | exact (by have := may_end E2.out HP.out; simpa using this _ _ _)
set_option maxRecDepth 100000 in
set_option maxHeartbeats 1000000 in
theorem mayExpr_lst0 (k n : Int) (s : ByteArray) (l : List Ex) (A : Option Addr) (cap : Nat) (w : World) (p : Nat) (left : Int) (nest : Nat) (_h4 : l.length ≤ 140737488351232) (hp : Blk w p 3 (.int .i64 left)) (h0 : 0 ≤ left) (h512 : left ≤ 512) (hn : nest ≤ 16) (hl : 1 ≤ left) (hk : k = 3) (hn0 : n = 0) (hs : s.toList.isEmpty = true) (hm : nest = 0) :
    Calls Try.prog 68 #[.agg #[.int .u8 k, .int .i64 n, .string s, .slice A l.length cap], .pointer (some ⟨p, 0, Option.none⟩), .int .i64 nest] w fun e w' =>
      e = .returned (.bool (mayX (.mk k n s l) nest left).1) ∧ Blk w' p 3 (.int .i64 (mayX (.mk k n s l) nest left).2) ∧ Upd p w w' := by
  have hc := hp.cell
  have hf := hp.free
  obtain ⟨l0, l1, l2, l3, l4⟩ := lts hp.lt
  have HP := Lib.hid hp
  clear hp
  subst hk hn0 hm
  have E2 : Hid (mayX (.mk 3 0 s l) 0 left = (false, left - 1)) := Lib.hid (by simp [mayX, show ¬ (left - 1 < 0) from by omega, hs])
  go_enter Try.func68, Try.ntmps68
  go_wp2_with fail
  all_goals
    go_ret
    first | exact may_end E2.out HP.out _ _ _ | exact (by have := may_end E2.out HP.out; simpa using this _ _ _)
set_option maxRecDepth 100000 in
set_option maxHeartbeats 1000000 in
theorem mayExpr_four (k n : Int) (s : ByteArray) (l : List Ex) (A : Option Addr) (cap : Nat) (w : World) (p : Nat) (left : Int) (nest : Nat) (h4 : l.length ≤ 140737488351232) (hp : Blk w p 3 (.int .i64 left)) (h0 : 0 ≤ left) (h512 : left ≤ 512) (_hn : nest ≤ 16) (hl : 1 ≤ left) (hk : k = 4) (hn0 : n = 0) (hl0 : l = []) :
    Calls Try.prog 68 #[.agg #[.int .u8 k, .int .i64 n, .string s, .slice A l.length cap], .pointer (some ⟨p, 0, Option.none⟩), .int .i64 nest] w fun e w' =>
      e = .returned (.bool (mayX (.mk k n s l) nest left).1) ∧ Blk w' p 3 (.int .i64 (mayX (.mk k n s l) nest left).2) ∧ Upd p w w' := by
  have hc := hp.cell
  have hf := hp.free
  obtain ⟨l0, l1, l2, l3, l4⟩ := lts hp.lt
  have HP := Lib.hid hp
  clear hp
  subst hk hn0 hl0
  have E2 : Hid (mayX (.mk 4 0 s []) nest left = (mayN s, left - 1)) := Lib.hid (by simp [mayX, show ¬ (left - 1 < 0) from by omega])
  go_enter Try.func68, Try.ntmps68
  go_wp2_with fail
  refine (mayName_any s _).mono ?_
  rintro e w1 ⟨rfl, hb⟩
  have HB := Lib.hid hb
  clear hb
  go_wp2
  go_ret
  rw [E2.out]
  have hU := ((((Upd.refl p w).set 0 (.int .i64 (left - 1))).alloc (.cells #[.int .u8 4, .int .i64 0, .string s, .slice A 0 cap] 26)).alloc (.cells #[.pointer (some ⟨p, 0, Option.none⟩)] 96)).alloc (.cells #[.int .i64 nest] 3)
  exact ⟨rfl, Blk.below ((((HP.out.set _).alloc _).alloc _).alloc _) HB.out, hU.below HB.out⟩
set_option maxRecDepth 100000 in
set_option maxHeartbeats 1000000 in
theorem mayExpr_lst (k n : Int) (s : ByteArray) (l : List Ex) (A : Option Addr) (cap : Nat) (w : World) (p : Nat) (left : Int) (m : Nat) (h4 : l.length ≤ 140737488351232) (hp : Blk w p 3 (.int .i64 left)) (h0 : 0 ≤ left) (h512 : left ≤ 512) (hn : m ≤ 15) (hl : 1 ≤ left) (hk : k = 3) (hn0 : n = 0) (hs : s.toList.isEmpty = true) (IH : ∀ x ∈ l, MayC x) (B : Nat) (hB : B ≤ p) (h7 : l ≠ [] → ∃ b o, b < B ∧ A = some ⟨b, o, Option.none⟩ ∧ IsExs w B b o l) :
    Calls Try.prog 68 #[.agg #[.int .u8 k, .int .i64 n, .string s, .slice A l.length cap], .pointer (some ⟨p, 0, Option.none⟩), .int .i64 ((m + 1 : Nat) : Int)] w fun e w' =>
      e = .returned (.bool (mayX (.mk k n s l) (m + 1) left).1) ∧ Blk w' p 3 (.int .i64 (mayX (.mk k n s l) (m + 1) left).2) ∧ Upd p w w' := by
  have hc := hp.cell
  have hf := hp.free
  obtain ⟨l0, l1, l2, l3, l4⟩ := lts hp.lt
  have HP := Lib.hid hp
  clear hp
  subst hk hn0
  have E2 : Hid (mayX (.mk 3 0 s l) (m + 1) left = mayXs l m (left - 1)) := Lib.hid (by simp [mayX, show ¬ (left - 1 < 0) from by omega, hs])
  have HI := Lib.hid IH
  have H7 := Lib.hid h7
  clear IH h7
  go_enter Try.func68, Try.ntmps68
  go_wp2_with fail
  refine (mayCont_any A cap l HI.out _ B p (w.heap.size + 1) (w.heap.size + 1 + 1) (left - 1) m h4 ?hx1 hB ((((HP.out.set _).alloc _).alloc _).alloc _) (by omega) (by omega) hn ((Blk.at_ (by simp) _ _).alloc _) (Blk.at_ (by simp) _ _) (by omega) (by omega)).mono ?_
  case hx1 =>
    intro hne
    obtain ⟨b, o, hb, hA, hx⟩ := H7.out hne
    have hU := ((((Upd.refl p w).set 0 (.int .i64 (left - 1))).alloc (.cells #[.int .u8 3, .int .i64 0, .string s, .slice A l.length cap] 26)).alloc (.cells #[.pointer (some ⟨p, 0, Option.none⟩)] 96)).alloc (.cells #[.int .i64 ((m : Int) + 1)] 3)
    exact ⟨b, o, hb, hA, IsExs.keep (hU.keep hB (by omega)) hb hx⟩
  rintro e w1 ⟨rfl, hb, hu⟩
  have HB := Lib.hid hb
  have HU := Lib.hid hu
  clear hb hu
  go_wp2
  go_ret
  rw [E2.out]
  have hU := ((((Upd.refl p w).set 0 (.int .i64 (left - 1))).alloc (.cells #[.int .u8 3, .int .i64 0, .string s, .slice A l.length cap] 26)).alloc (.cells #[.pointer (some ⟨p, 0, Option.none⟩)] 96)).alloc (.cells #[.int .i64 ((m : Int) + 1)] 3)
  exact ⟨by simp, HB.out, hU.trans HU.out⟩
theorem mayExpr_any (x : Ex) : MayC x := by
  induction x using Ex.ind with
  | h k n s l IH =>
    intro w B v p left nest h hB hp h0 h512 hn
    obtain ⟨h1, h2, h3, h4, A, cap, h5, rfl, h7⟩ := h.form
    by_cases hl : left < 1
    · exact mayExpr_low k n s l A cap w p left nest h4 hp h0 h512 hn hl
    have hl : 1 ≤ left := by omega
    by_cases hkn : k = 1 ∨ n = 0
    · by_cases hl0 : k = 3 ∨ l = []
      · cases hs : s.toList.isEmpty
        · by_cases hk2 : k = 2
          · subst hk2
            have hn0 : n = 0 := by omega
            have hl1 : l = [] := hl0.resolve_left (by omega)
            exact mayExpr_two 2 n s l A cap w p left nest h4 hp h0 h512 hn hl rfl hn0 hl1 h3
          · by_cases hk4 : k = 4
            · subst hk4
              have hn0 : n = 0 := by omega
              have hl1 : l = [] := hl0.resolve_left (by omega)
              exact mayExpr_four 4 n s l A cap w p left nest h4 hp h0 h512 hn hl rfl hn0 hl1
            · by_cases hk1 : k = 1
              · exact mayExpr_bads1 k n s l A cap w p left nest h4 hp h0 h512 hn hl hk1 (hl0.resolve_left (by omega)) hs
              · have hn0 : n = 0 := hkn.resolve_left hk1
                by_cases hk3 : k = 3
                · exact mayExpr_bads3 k n s l A cap w p left nest h4 hp h0 h512 hn hl hk3 hn0 hs
                · exact mayExpr_bads k n s l A cap w p left nest h4 hp h0 h512 hn hl hk1 hk2 hk3 hk4 hn0 (hl0.resolve_left hk3) hs
        · by_cases hk1 : k = 1
          · subst hk1
            have hl1 : l = [] := hl0.resolve_left (by omega)
            exact mayExpr_one 1 n s l A cap w p left nest h4 hp h0 h512 hn hl rfl hl1 hs
          · have hn0 : n = 0 := hkn.resolve_left hk1
            by_cases hk3 : k = 3
            · cases nest with
              | zero => exact mayExpr_lst0 k n s l A cap w p left 0 h4 hp h0 h512 hn hl hk3 hn0 hs rfl
              | succ m => exact mayExpr_lst k n s l A cap w p left m h4 hp h0 h512 (by omega) hl hk3 hn0 hs IH B hB h7
            · have hl1 : l = [] := hl0.resolve_left hk3
              by_cases hk2 : k = 2
              · exact mayExpr_two k n s l A cap w p left nest h4 hp h0 h512 hn hl hk2 hn0 hl1 h3
              · by_cases hk4 : k = 4
                · exact mayExpr_four k n s l A cap w p left nest h4 hp h0 h512 hn hl hk4 hn0 hl1
                · exact mayExpr_none k n s l A cap w p left nest h4 hp h0 h512 hn hl hk1 hk2 hk3 hk4 hn0 hl1 hs
      · exact mayExpr_badl k n s l A cap w p left nest h4 hp h0 h512 hn hl (fun h => hl0 (.inl h)) hkn (fun h => hl0 (.inr h))
    · exact mayExpr_badn k n s l A cap w p left nest h4 hp h0 h512 hn hl (fun h => hkn (.inl h)) (fun h => hkn (.inr h))
def mayE (x : Ex) : Bool := (mayX x 16 512).1
set_option maxRecDepth 100000 in
set_option maxHeartbeats 400000 in
theorem MayExpr_any {B : Nat} {v : Value} {x : Ex} (w : World) (h : IsEx w B v x) (hB : B ≤ w.heap.size) :
    Calls Try.prog 21 #[v] w fun e w' => e = .returned (.bool (mayE x)) ∧ Below w.heap.size w w' := by
  have HH := Lib.hid h
  obtain ⟨k, n, s, l⟩ := x
  obtain ⟨h1, h2, h3, h4, A, cap, h5, rfl, h7⟩ := h.form
  clear h h7
  obtain ⟨y, hy⟩ : ∃ y, y = Ex.mk k n s l := ⟨_, rfl⟩
  rw [← hy] at HH ⊢
  clear hy
  go_enter Try.func21, Try.ntmps21
  go_wp2_with fail
  have HB : Below w.heap.size w ((w.alloc (.cells #[.int .u8 k, .int .i64 n, .string s, .slice A l.length cap] 26)).alloc (.cells #[.int .i64 512] 3)) := ((Below.refl _ _).alloc (Nat.le_refl _) _).alloc (by simp) _
  refine (mayExpr_any y _ B _ (w.heap.size + 1) 512 16 (HH.out.keep (fun b hb => HB.block b (by omega))) (by omega) (Blk.at_ (by simp) _ _) (by omega) (by omega) (by omega)).mono ?_
  rintro e w1 ⟨rfl, hb, hu⟩
  have HU := Lib.hid hu
  have HBB := Lib.hid HB
  clear hb hu HB
  go_wp2
  go_ret
  exact ⟨rfl, HU.out.toBelow (by omega) HBB.out⟩
def orNoneE (x : Ex) : Bool := noneX x || mayE x
set_option maxRecDepth 100000 in
set_option maxHeartbeats 400000 in
theorem orNone_any {B : Nat} {v : Value} {x : Ex} (w : World) (h : IsEx w B v x) (hB : B ≤ w.heap.size) :
    Calls Try.prog 62 #[v] w fun e w' => e = .returned (.bool (orNoneE x)) ∧ Below w.heap.size w w' := by
  have HH := Lib.hid h
  obtain ⟨k, n, s, l⟩ := x
  obtain ⟨h1, h2, h3, h4, A, cap, h5, rfl, h7⟩ := h.form
  clear h h7
  obtain ⟨y, hy⟩ : ∃ y, y = Ex.mk k n s l := ⟨_, rfl⟩
  rw [← hy] at HH ⊢
  clear hy
  have HB : Below w.heap.size w (w.alloc (.cells #[.int .u8 k, .int .i64 n, .string s, .slice A l.length cap] 26)) := (Below.refl _ _).alloc (Nat.le_refl _) _
  have HBB := Lib.hid HB
  clear HB
  go_enter Try.func62, Try.ntmps62
  go_wp2_with fail
  refine (none_any (B := B) (x := y) _ (HH.out.keep (fun b hb => HBB.out.block b (by omega)))).mono ?_
  rintro e w1 ⟨rfl, hb⟩
  have HB1 := Lib.hid (HBB.out.trans (hb.mono (by simp)))
  have hbc := bcell hb
  have hbs : w.heap.size + 1 ≤ w1.heap.size := by have := hb.size; simp at this; omega
  obtain ⟨hc, hf⟩ := hbc
  clear hb hf
  cases hn : noneX y
  · go_wp2_with fail
    refine (MayExpr_any (B := B) (x := y) _ (HH.out.keep (fun b hb => HB1.out.block b (by omega))) (by omega)).mono ?_
    rintro e w2 ⟨rfl, hb2⟩
    have HB2 := Lib.hid (HB1.out.trans (hb2.mono (by omega)))
    have HN := Lib.hid hn
    clear hb2 hc hn
    go_wp2
    go_ret
    exact ⟨ret_bool (by simp [orNoneE, HN.out]), HB2.out⟩
  · have HN := Lib.hid hn
    go_wp2_with fail
    go_ret
    exact ⟨ret_bool (by simp [orNoneE, HN.out]), HB1.out⟩
end Go.Proofs.Ytnknefdpglnbnaa
