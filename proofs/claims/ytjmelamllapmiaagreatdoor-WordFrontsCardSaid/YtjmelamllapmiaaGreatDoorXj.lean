/- The document's look, Parts, May: may a value be? -/
import Derived.Test.YtjmelamllapmiaaGreatDoorM
namespace Go.Proofs.YtjmelamllapmiaaGreatDoor
open Go.RowKit

/-- What look answers. -/
def lookL (x : Va) (room deep : Nat) : Int := match takeV x room deep with
  | some q => (room : Int) - q
  | Option.none => -1
theorem takeV_lt {x : Va} {q m q' : Nat} (h : takeV x q m = some q') : q' < q := by
  have h1 := takeV_sz x q m q' h
  have h2 := szV_ge x
  omega
theorem lookL_none {x : Va} {q m : Nat} (h : takeV x q m = Option.none) : lookL x q m = -1 := by unfold lookL; rw [h]
theorem lookL_some {x : Va} {q m q' : Nat} (h : takeV x q m = some q') : lookL x q m = (q : Int) - q' := by unfold lookL; rw [h]
theorem look_end {w : World} {a b : Int} {o1 : Obj} (h : a = b) : Ending.returned (.int .i64 a) = .returned (.int .i64 b) ∧ Below w.heap.size w (w.alloc o1) :=
  ⟨ret_int h, (Below.refl _ _).alloc (Nat.le_refl _) _⟩
theorem emp_eq' {s : ByteArray} (h : s.toList = []) : s = ⟨#[]⟩ := by
  apply ByteArray.ext
  apply Array.ext'
  rw [← Lib.toList_data]; exact h
set_option maxRecDepth 100000 in
set_option maxHeartbeats 4000000 in
theorem look_0 (n : Int) (s : ByteArray) (l : List Va) (r : Int) (A : Option Addr) (cap : Nat) (w : World) (q deep : Nat) (_h4 : l.length ≤ 140737488351232) (_hs : s.size ≤ 140737488351232) (_hq : q ≤ 511) :
    Calls Tryz.prog 215 #[.agg #[.int .u8 0, .int .i64 n, .string s, .slice A l.length cap, .int .i64 r], .int .i64 ((q : Int) + 1), .int .i64 (deep : Nat)] w fun e w' => e = .returned (.int .i64 (lookL (.mk 0 n s l r) (q + 1) deep)) ∧ Below w.heap.size w w' := by
  by_cases hse : s = ⟨#[]⟩
  · subst hse
    by_cases hle : l = []
    · subst hle
      go_enter Tryz.func215, Tryz.ntmps215
      go_wp2_with fail
      all_goals
        go_ret
        refine look_end ?_
        unfold lookL takeV
        first
          | (simp_all; done)
          | (simp_all; omega)
          | (have h' : ¬ ((s.size : Int) ≤ 256) := by omega
             simp [h'])
          | (have h' : ¬ (1 ≤ r) := by omega
             simp [h'])
    · have hl1 : 0 < l.length := List.length_pos_iff.2 hle
      have hl2 : (0 : Int) < l.length := by omega
      go_enter Tryz.func215, Tryz.ntmps215
      go_wp2_with fail
      all_goals
        go_ret
        refine look_end ?_
        unfold lookL takeV
        first
          | (simp_all; done)
          | (simp_all; omega)
          | (have h' : ¬ ((s.size : Int) ≤ 256) := by omega
             simp [h'])
          | (have h' : ¬ (1 ≤ r) := by omega
             simp [h'])
  · have hne : ¬ s.toList = [] := fun h => hse (emp_eq' h)
    clear hse
    by_cases hle : l = []
    · subst hle
      go_enter Tryz.func215, Tryz.ntmps215
      go_wp2_with fail
      all_goals
        go_ret
        refine look_end ?_
        unfold lookL takeV
        first
          | (simp_all; done)
          | (simp_all; omega)
          | (have h' : ¬ ((s.size : Int) ≤ 256) := by omega
             simp [h'])
          | (have h' : ¬ (1 ≤ r) := by omega
             simp [h'])
    · have hl1 : 0 < l.length := List.length_pos_iff.2 hle
      have hl2 : (0 : Int) < l.length := by omega
      go_enter Tryz.func215, Tryz.ntmps215
      go_wp2_with fail
      all_goals
        go_ret
        refine look_end ?_
        unfold lookL takeV
        first
          | (simp_all; done)
          | (simp_all; omega)
          | (have h' : ¬ ((s.size : Int) ≤ 256) := by omega
             simp [h'])
          | (have h' : ¬ (1 ≤ r) := by omega
             simp [h'])
set_option maxRecDepth 100000 in
set_option maxHeartbeats 4000000 in
theorem look_1 (n : Int) (s : ByteArray) (l : List Va) (r : Int) (A : Option Addr) (cap : Nat) (w : World) (q deep : Nat) (_h4 : l.length ≤ 140737488351232) (_hs : s.size ≤ 140737488351232) (_hq : q ≤ 511) :
    Calls Tryz.prog 215 #[.agg #[.int .u8 1, .int .i64 n, .string s, .slice A l.length cap, .int .i64 r], .int .i64 ((q : Int) + 1), .int .i64 (deep : Nat)] w fun e w' => e = .returned (.int .i64 (lookL (.mk 1 n s l r) (q + 1) deep)) ∧ Below w.heap.size w w' := by
  by_cases hse : s = ⟨#[]⟩
  · subst hse
    by_cases hle : l = []
    · subst hle
      go_enter Tryz.func215, Tryz.ntmps215
      go_wp2_with fail
      all_goals
        go_ret
        refine look_end ?_
        unfold lookL takeV
        first
          | (simp_all; done)
          | (simp_all; omega)
          | (have h' : ¬ ((s.size : Int) ≤ 256) := by omega
             simp [h'])
          | (have h' : ¬ (1 ≤ r) := by omega
             simp [h'])
    · have hl1 : 0 < l.length := List.length_pos_iff.2 hle
      have hl2 : (0 : Int) < l.length := by omega
      go_enter Tryz.func215, Tryz.ntmps215
      go_wp2_with fail
      all_goals
        go_ret
        refine look_end ?_
        unfold lookL takeV
        first
          | (simp_all; done)
          | (simp_all; omega)
          | (have h' : ¬ ((s.size : Int) ≤ 256) := by omega
             simp [h'])
          | (have h' : ¬ (1 ≤ r) := by omega
             simp [h'])
  · have hne : ¬ s.toList = [] := fun h => hse (emp_eq' h)
    clear hse
    by_cases hle : l = []
    · subst hle
      go_enter Tryz.func215, Tryz.ntmps215
      go_wp2_with fail
      all_goals
        go_ret
        refine look_end ?_
        unfold lookL takeV
        first
          | (simp_all; done)
          | (simp_all; omega)
          | (have h' : ¬ ((s.size : Int) ≤ 256) := by omega
             simp [h'])
          | (have h' : ¬ (1 ≤ r) := by omega
             simp [h'])
    · have hl1 : 0 < l.length := List.length_pos_iff.2 hle
      have hl2 : (0 : Int) < l.length := by omega
      go_enter Tryz.func215, Tryz.ntmps215
      go_wp2_with fail
      all_goals
        go_ret
        refine look_end ?_
        unfold lookL takeV
        first
          | (simp_all; done)
          | (simp_all; omega)
          | (have h' : ¬ ((s.size : Int) ≤ 256) := by omega
             simp [h'])
          | (have h' : ¬ (1 ≤ r) := by omega
             simp [h'])
set_option maxRecDepth 100000 in
set_option maxHeartbeats 4000000 in
theorem look_2 (n : Int) (s : ByteArray) (l : List Va) (r : Int) (A : Option Addr) (cap : Nat) (w : World) (q deep : Nat) (_h4 : l.length ≤ 140737488351232) (_hs : s.size ≤ 140737488351232) (_hq : q ≤ 511) :
    Calls Tryz.prog 215 #[.agg #[.int .u8 2, .int .i64 n, .string s, .slice A l.length cap, .int .i64 r], .int .i64 ((q : Int) + 1), .int .i64 (deep : Nat)] w fun e w' => e = .returned (.int .i64 (lookL (.mk 2 n s l r) (q + 1) deep)) ∧ Below w.heap.size w w' := by
  by_cases hle : l = []
  · subst hle
    go_enter Tryz.func215, Tryz.ntmps215
    go_wp2_with fail
    all_goals
      go_ret
      refine look_end ?_
      unfold lookL takeV
      first
        | (simp_all; done)
        | (simp_all; omega)
        | (have h' : ¬ ((s.size : Int) ≤ 256) := by omega
           simp [h'])
        | (have h' : ¬ (1 ≤ r) := by omega
           simp [h'])
  · have hl1 : 0 < l.length := List.length_pos_iff.2 hle
    have hl2 : (0 : Int) < l.length := by omega
    go_enter Tryz.func215, Tryz.ntmps215
    go_wp2_with fail
    all_goals
      go_ret
      refine look_end ?_
      unfold lookL takeV
      first
        | (simp_all; done)
        | (simp_all; omega)
        | (have h' : ¬ ((s.size : Int) ≤ 256) := by omega
           simp [h'])
        | (have h' : ¬ (1 ≤ r) := by omega
           simp [h'])
set_option maxRecDepth 100000 in
set_option maxHeartbeats 4000000 in
theorem look_4 (n : Int) (s : ByteArray) (l : List Va) (r : Int) (A : Option Addr) (cap : Nat) (w : World) (q deep : Nat) (_h4 : l.length ≤ 140737488351232) (_hs : s.size ≤ 140737488351232) (_hq : q ≤ 511) :
    Calls Tryz.prog 215 #[.agg #[.int .u8 4, .int .i64 n, .string s, .slice A l.length cap, .int .i64 r], .int .i64 ((q : Int) + 1), .int .i64 (deep : Nat)] w fun e w' => e = .returned (.int .i64 (lookL (.mk 4 n s l r) (q + 1) deep)) ∧ Below w.heap.size w w' := by
  by_cases hse : s = ⟨#[]⟩
  · subst hse
    by_cases hle : l = []
    · subst hle
      go_enter Tryz.func215, Tryz.ntmps215
      go_wp2_with fail
      all_goals
        go_ret
        refine look_end ?_
        unfold lookL takeV
        first
          | (simp_all; done)
          | (simp_all; omega)
          | (have h' : ¬ ((s.size : Int) ≤ 256) := by omega
             simp [h'])
          | (have h' : ¬ (1 ≤ r) := by omega
             simp [h'])
    · have hl1 : 0 < l.length := List.length_pos_iff.2 hle
      have hl2 : (0 : Int) < l.length := by omega
      go_enter Tryz.func215, Tryz.ntmps215
      go_wp2_with fail
      all_goals
        go_ret
        refine look_end ?_
        unfold lookL takeV
        first
          | (simp_all; done)
          | (simp_all; omega)
          | (have h' : ¬ ((s.size : Int) ≤ 256) := by omega
             simp [h'])
          | (have h' : ¬ (1 ≤ r) := by omega
             simp [h'])
  · have hne : ¬ s.toList = [] := fun h => hse (emp_eq' h)
    clear hse
    by_cases hle : l = []
    · subst hle
      go_enter Tryz.func215, Tryz.ntmps215
      go_wp2_with fail
      all_goals
        go_ret
        refine look_end ?_
        unfold lookL takeV
        first
          | (simp_all; done)
          | (simp_all; omega)
          | (have h' : ¬ ((s.size : Int) ≤ 256) := by omega
             simp [h'])
          | (have h' : ¬ (1 ≤ r) := by omega
             simp [h'])
    · have hl1 : 0 < l.length := List.length_pos_iff.2 hle
      have hl2 : (0 : Int) < l.length := by omega
      go_enter Tryz.func215, Tryz.ntmps215
      go_wp2_with fail
      all_goals
        go_ret
        refine look_end ?_
        unfold lookL takeV
        first
          | (simp_all; done)
          | (simp_all; omega)
          | (have h' : ¬ ((s.size : Int) ≤ 256) := by omega
             simp [h'])
          | (have h' : ¬ (1 ≤ r) := by omega
             simp [h'])
set_option maxRecDepth 100000 in
set_option maxHeartbeats 4000000 in
theorem look_x (k : Int) (h0 : 0 ≤ k) (h256 : k < 256) (hk : ¬ k = 0 ∧ ¬ k = 1 ∧ ¬ k = 2 ∧ ¬ k = 3 ∧ ¬ k = 4) (n : Int) (s : ByteArray) (l : List Va) (r : Int) (A : Option Addr) (cap : Nat) (w : World) (q deep : Nat) (_h4 : l.length ≤ 140737488351232) (_hs : s.size ≤ 140737488351232) (_hq : q ≤ 511) :
    Calls Tryz.prog 215 #[.agg #[.int .u8 k, .int .i64 n, .string s, .slice A l.length cap, .int .i64 r], .int .i64 ((q : Int) + 1), .int .i64 (deep : Nat)] w fun e w' => e = .returned (.int .i64 (lookL (.mk k n s l r) (q + 1) deep)) ∧ Below w.heap.size w w' := by
  by_cases hse : s = ⟨#[]⟩
  · subst hse
    by_cases hle : l = []
    · subst hle
      have b0 : (k == 0) = false := by simpa using hk.1
      have b1 : (k == 1) = false := by simpa using hk.2.1
      have b2 : (k == 2) = false := by simpa using hk.2.2.1
      have b3 : (k == 3) = false := by simpa using hk.2.2.2.1
      have b4 : (k == 4) = false := by simpa using hk.2.2.2.2
      have g4 : (4 : Int) < k := by omega
      go_enter Tryz.func215, Tryz.ntmps215
      go_wp2_with fail
      all_goals
        go_ret
        refine look_end ?_
        unfold lookL takeV
        first
          | (simp_all; done)
          | (simp_all; omega)
          | (have h' : ¬ ((s.size : Int) ≤ 256) := by omega
             simp [h'])
          | (have h' : ¬ (1 ≤ r) := by omega
             simp [h'])
    · have hl1 : 0 < l.length := List.length_pos_iff.2 hle
      have hl2 : (0 : Int) < l.length := by omega
      have b0 : (k == 0) = false := by simpa using hk.1
      have b1 : (k == 1) = false := by simpa using hk.2.1
      have b2 : (k == 2) = false := by simpa using hk.2.2.1
      have b3 : (k == 3) = false := by simpa using hk.2.2.2.1
      have b4 : (k == 4) = false := by simpa using hk.2.2.2.2
      have g4 : (4 : Int) < k := by omega
      go_enter Tryz.func215, Tryz.ntmps215
      go_wp2_with fail
      all_goals
        go_ret
        refine look_end ?_
        unfold lookL takeV
        first
          | (simp_all; done)
          | (simp_all; omega)
          | (have h' : ¬ ((s.size : Int) ≤ 256) := by omega
             simp [h'])
          | (have h' : ¬ (1 ≤ r) := by omega
             simp [h'])
  · have hne : ¬ s.toList = [] := fun h => hse (emp_eq' h)
    clear hse
    by_cases hle : l = []
    · subst hle
      have b0 : (k == 0) = false := by simpa using hk.1
      have b1 : (k == 1) = false := by simpa using hk.2.1
      have b2 : (k == 2) = false := by simpa using hk.2.2.1
      have b3 : (k == 3) = false := by simpa using hk.2.2.2.1
      have b4 : (k == 4) = false := by simpa using hk.2.2.2.2
      have g4 : (4 : Int) < k := by omega
      go_enter Tryz.func215, Tryz.ntmps215
      go_wp2_with fail
      all_goals
        go_ret
        refine look_end ?_
        unfold lookL takeV
        first
          | (simp_all; done)
          | (simp_all; omega)
          | (have h' : ¬ ((s.size : Int) ≤ 256) := by omega
             simp [h'])
          | (have h' : ¬ (1 ≤ r) := by omega
             simp [h'])
    · have hl1 : 0 < l.length := List.length_pos_iff.2 hle
      have hl2 : (0 : Int) < l.length := by omega
      have b0 : (k == 0) = false := by simpa using hk.1
      have b1 : (k == 1) = false := by simpa using hk.2.1
      have b2 : (k == 2) = false := by simpa using hk.2.2.1
      have b3 : (k == 3) = false := by simpa using hk.2.2.2.1
      have b4 : (k == 4) = false := by simpa using hk.2.2.2.2
      have g4 : (4 : Int) < k := by omega
      go_enter Tryz.func215, Tryz.ntmps215
      go_wp2_with fail
      all_goals
        go_ret
        refine look_end ?_
        unfold lookL takeV
        first
          | (simp_all; done)
          | (simp_all; omega)
          | (have h' : ¬ ((s.size : Int) ≤ 256) := by omega
             simp [h'])
          | (have h' : ¬ (1 ≤ r) := by omega
             simp [h'])
def LookC (x : Va) : Prop := ∀ (w : World) (B : Nat) (v : Value) (q deep : Nat), IsVa w B v x → B ≤ w.heap.size → q ≤ 512 → deep ≤ 16 →
  Calls Tryz.prog 215 #[v, .int .i64 q, .int .i64 deep] w fun e w' => e = .returned (.int .i64 (lookL x q deep)) ∧ Below w.heap.size w w'
set_option maxRecDepth 100000 in
set_option maxHeartbeats 4000000 in
theorem look_any (x : Va) : LookC x := by
  induction x using Va.ind with
  | h k n s l r IH =>
  intro w B v q deep h hB hq hd
  obtain ⟨h1, h2, h3, h4, A, cap, h5, rfl, h7⟩ := h.form
  cases q with
  | zero =>
    have HL : Hid (lookL (.mk k n s l r) 0 deep = -1) := Lib.hid (by unfold lookL takeV; rfl)
    clear h h7 IH
    go_enter Tryz.func215, Tryz.ntmps215
    go_wp2_with fail
    go_ret
    exact ⟨ret_int HL.out.symm, (Below.refl _ _).alloc (Nat.le_refl _) _⟩
  | succ q =>
  rw [show ((q + 1 : Nat) : Int) = (q : Int) + 1 from rfl]
  by_cases k0 : k = 0
  · subst k0; exact look_0 n s l r A cap w q deep h4 h3 (by omega)
  by_cases k1 : k = 1
  · subst k1; exact look_1 n s l r A cap w q deep h4 h3 (by omega)
  by_cases k2 : k = 2
  · subst k2; exact look_2 n s l r A cap w q deep h4 h3 (by omega)
  by_cases k4 : k = 4
  · subst k4; exact look_4 n s l r A cap w q deep h4 h3 (by omega)
  by_cases k3 : k = 3
  rotate_left
  · exact look_x k h1 h2 ⟨k0, k1, k2, k3, k4⟩ n s l r A cap w q deep h4 h3 (by omega)
  subst k3
  clear k0 k1 k2 k4
  have hln := h.len
  have HI := Lib.hid IH
  have H7 := Lib.hid h7
  clear h h7 IH
  by_cases hbad : ¬ s = ⟨#[]⟩ ∨ ¬ n = 0 ∨ ¬ r = 0
  · have HL : Hid (lookL (.mk 3 n s l r) (q + 1) deep = -1) := Lib.hid (by
      refine lookL_none ?_
      have hb : (n == 0 && s.toList.isEmpty && r == 0) = false := by
        rcases hbad with hb | hb | hb
        · have : s.toList.isEmpty = false := by
            cases e : s.toList.isEmpty with
            | false => rfl
            | true => exact absurd (emp_eq' (by simpa using e)) hb
          rw [this]; simp
        · have : (n == 0) = false := by simpa using hb
          rw [this]; rfl
        · have : (r == 0) = false := by simpa using hb
          rw [this]; simp
      cases deep with
      | zero => unfold takeV; rfl
      | succ m =>
        have e : takeV (.mk 3 n s l r) (q + 1) (m + 1) = if q < l.length then Option.none else match takeVs l q m with
          | Option.none => Option.none
          | some q' => if n == 0 && s.toList.isEmpty && r == 0 then some q' else Option.none := by rw [takeV]; rfl
        rw [e]
        split
        · rfl
        · split
          · rfl
          · rw [hb]; rfl)
    have hcase : (¬ n = 0) ∨ (n = 0 ∧ ¬ s.toList = []) ∨ (n = 0 ∧ s.toList = [] ∧ ¬ r = 0) := by
      by_cases hn : n = 0
      · by_cases hs : s.toList = []
        · rcases hbad with hb | hb | hb
          · exact absurd (emp_eq' hs) hb
          · exact absurd hn hb
          · exact .inr (.inr ⟨hn, hs, hb⟩)
        · exact .inr (.inl ⟨hn, hs⟩)
      · exact .inl hn
    clear hbad HI H7
    rcases hcase with hn | ⟨rfl, hs⟩ | ⟨rfl, hs, hr⟩
    all_goals
      go_enter Tryz.func215, Tryz.ntmps215
      go_wp2_with fail
      all_goals
        go_ret
        exact ⟨ret_int HL.out.symm, (Below.refl _ _).alloc (Nat.le_refl _) _⟩
  obtain ⟨rfl, rfl, rfl⟩ : s = ⟨#[]⟩ ∧ n = 0 ∧ r = 0 := by
    refine ⟨?_, ?_, ?_⟩
    · by_cases e : s = ⟨#[]⟩
      · exact e
      · exact absurd (.inl e) hbad
    · by_cases e : n = 0
      · exact e
      · exact absurd (.inr (.inl e)) hbad
    · by_cases e : r = 0
      · exact e
      · exact absurd (.inr (.inr e)) hbad
  clear hbad
  cases deep with
  | zero =>
    have HL : Hid (lookL (.mk 3 0 ⟨#[]⟩ l 0) (q + 1) 0 = -1) := Lib.hid (lookL_none (by unfold takeV; rfl))
    go_enter Tryz.func215, Tryz.ntmps215
    go_wp2_with fail
    go_ret
    exact ⟨ret_int HL.out.symm, (Below.refl _ _).alloc (Nat.le_refl _) _⟩
  | succ m =>
  have HTV : Hid (takeV (.mk 3 0 ⟨#[]⟩ l 0) (q + 1) (m + 1) = if q < l.length then Option.none else takeVs l q m) := Lib.hid (by
    have e : takeV (.mk 3 0 ⟨#[]⟩ l 0) (q + 1) (m + 1) = if q < l.length then Option.none else match takeVs l q m with
      | Option.none => Option.none
      | some q' => if (0 : Int) == 0 && (⟨#[]⟩ : ByteArray).toList.isEmpty && (0 : Int) == 0 then some q' else Option.none := by rw [takeV]; rfl
    have hb : ((0 : Int) == 0 && (⟨#[]⟩ : ByteArray).toList.isEmpty && (0 : Int) == 0) = true := by rw [Lib.toList_data]; rfl
    rw [e]
    split
    · rfl
    · cases takeVs l q m with
      | none => rfl
      | some q' => first | rfl | exact if_pos hb)
  rw [show ((m + 1 : Nat) : Int) = (m : Int) + 1 from rfl]
  have hmd : ¬ (m : Int) + 1 < 1 := by omega
  by_cases hql : q < l.length
  · have HL : Hid (lookL (.mk 3 0 ⟨#[]⟩ l 0) (q + 1) (m + 1) = -1) := Lib.hid (lookL_none (by rw [HTV.out, if_pos hql]))
    have hqi : (q : Int) + 1 ≤ l.length := by omega
    go_enter Tryz.func215, Tryz.ntmps215
    go_wp2_with fail
    go_ret
    exact ⟨ret_int HL.out.symm, (Below.refl _ _).alloc (Nat.le_refl _) _⟩
  have hqi : ¬ (q : Int) + 1 ≤ l.length := by omega
  have HTQ : Hid (takeV (.mk 3 0 ⟨#[]⟩ l 0) (q + 1) (m + 1) = takeVs l q m) := Lib.hid (by rw [HTV.out, if_neg hql])
  clear HTV hql
  obtain ⟨T, hT⟩ : ∃ T, T = takeVs l q m := ⟨_, rfl⟩
  rw [← hT] at HTQ
  have HT := Lib.hid hT
  clear hT
  go_enter Tryz.func215, Tryz.ntmps215
  go_wp2_with fail
  go_loopw [7, 8, 9] (fun nx ix _ wr => ∃ j q' : Nat, nx = .int .i64 ((q : Int) + 1 - q') ∧ ix = .int .i64 j ∧ j ≤ l.length ∧ q' ≤ q ∧ takeVs (l.drop j) q' m = T ∧ Below w.heap.size w wr ∧ BlkN wr w.heap.size 27 #[.int .u8 3, .int .i64 0, .string ⟨#[]⟩, .slice A l.length cap, .int .i64 0]) (fun _ ix _ _ => l.length - (intOf ix).toNat)
  case atStart => exact ⟨0, q, by go_num, rfl, by omega, Nat.le_refl _, HT.out.symm, (Below.refl _ _).alloc (Nat.le_refl _) _, BlkN.at_ rfl _ _⟩
  case round =>
    obtain ⟨j, q', rfl, rfl, hj, hq', htk, hb, hz⟩ := hrel
    have HTK := Lib.hid htk
    have HB := Lib.hid hb
    have HZ := Lib.hid hz
    have hzl := hz.lt
    have z3 := hz.cell 3 rfl
    clear htk hb hz
    by_cases hlt : j < l.length
    rotate_left
    · have hji : ¬ (j : Int) < l.length := by omega
      have HL : Hid (lookL (.mk 3 0 ⟨#[]⟩ l 0) (q + 1) (m + 1) = (q : Int) + 1 - q') := Lib.hid (by
        have := HTK.out
        rw [List.drop_of_length_le (by omega)] at this
        have e : takeVs [] q' m = some q' := by rw [takeVs]
        rw [lookL_some (q' := q') (by rw [HTQ.out, ← this, e])]
        rfl)
      go_wp2_with fail
      go_ret
      exact ⟨ret_int HL.out.symm, HB.out⟩
    obtain ⟨b, o, hbB, hA, hx⟩ := H7.out (by rintro rfl; simp at hlt)
    subst hA
    obtain ⟨k1, n1, s1, A1, len1, cap1, r1, hat, hx1⟩ := hx.at2 j hlt
    have hat' := hat.keep hbB (fun b hb => HB.out.block b (by omega))
    obtain ⟨e0, e1, e2, e3, e4⟩ := hat'.five
    have hji : (j : Int) < l.length := by omega
    have HD := Lib.hid (List.drop_eq_getElem_cons hlt)
    have C91 := Lib.hid (HI.out l[j] (List.getElem_mem hlt) wr B _ q' m (IsVa.keep (fun b hb' => HB.out.block b (by omega)) hx1) (Nat.le_trans hB HB.out.size) (by omega) (by omega))
    have HST : Hid ((match takeV l[j] q' m with | Option.none => Option.none | some q2 => takeVs (l.drop (j + 1)) q2 m) = T) := Lib.hid (by have := HTK.out; rw [HD.out, takeVs] at this; exact this)
    clear hat hat' hx hx1
    have hsub : (q : Int) + 1 - ((q : Int) + 1 - q') = q' := by omega
    cases hE : takeV l[j] q' m with
    | none =>
      rw [hE] at HST
      rw [lookL_none hE] at C91
      have HL : Hid (lookL (.mk 3 0 ⟨#[]⟩ l 0) (q + 1) (m + 1) = -1) := Lib.hid (lookL_none (by rw [HTQ.out, ← HST.out]))
      clear hE
      go_wp2_with (first | (go_at_call 215; refine C91.out.mono ?_; rintro e w1 ⟨rfl, hb1⟩))
      go_ret
      exact ⟨ret_int HL.out.symm, bnext HB.out hb1⟩
    | some q2 =>
      rw [hE] at HST
      rw [lookL_some hE] at C91
      have hlt2 := takeV_lt hE
      clear hE
      have hpos : ¬ (q' : Int) - q2 < 0 := by omega
      go_wp2_with (first | (go_at_call 215; refine C91.out.mono ?_; rintro e w1 ⟨rfl, hb1⟩))
      go_roundw
      case rel => exact ⟨j + 1, q2, by go_num, by go_num, by omega, by omega, HST.out, bnext HB.out hb1, HZ.out.below hb1⟩
      case measure => simp only [intOf]; omega
/-- Parts' contract; May's. -/
theorem rmay_val {B : Nat} {v : Value} {x : Va} (w : World) (h : IsVa w B v x) (hB : B ≤ w.heap.size) :
    Calls Tryz.prog 108 #[v] w fun e w' => e = .returned (.bool (mayV x)) ∧ Below w.heap.size w w' := by
  have HH := Lib.hid h
  obtain ⟨k, n, s, A, len, cap, r, rfl⟩ := h.shape
  clear h
  have C82 : Hid (∀ w', Below w.heap.size w w' → Calls Tryz.prog 165 #[.agg #[.int .u8 k, .int .i64 n, .string s, .slice A len cap, .int .i64 r]] w' fun e w2 => e = .returned (.int .i64 (if lookL x 512 16 < 0 then 0 else lookL x 512 16)) ∧ Below w'.heap.size w' w2) := Lib.hid (fun w' hb => by
    have C91 := Lib.hid (fun w2 (hb2 : Below w'.heap.size w' w2) => look_any x w2 B _ 512 16 (HH.out.keep fun b hl => (hb2.block b (by have := hb.size; omega)).trans (hb.block b (by omega))) (Nat.le_trans hB (Nat.le_trans hb.size hb2.size)) (Nat.le_refl _) (Nat.le_refl _))
    have HB0 : Hid (Below w'.heap.size w' (w'.alloc (.cells #[.int .u8 k, .int .i64 n, .string s, .slice A len cap, .int .i64 r] 27))) := Lib.hid ((Below.refl _ _).alloc (Nat.le_refl _) _)
    obtain ⟨L, hL⟩ : ∃ L, L = lookL x 512 16 := ⟨_, rfl⟩
    rw [← hL] at C91 ⊢
    clear hL
    by_cases hneg : L < 0
    · rw [if_pos hneg]
      go_enter Tryz.func165, Tryz.ntmps165
      go_wp2_with (first | (go_at_call 215; refine (C91.out _ HB0.out).mono ?_; rintro e w1 ⟨rfl, hb1⟩))
      go_ret
      exact ⟨rfl, bnext HB0.out hb1⟩
    · rw [if_neg hneg]
      go_enter Tryz.func165, Tryz.ntmps165
      go_wp2_with (first | (go_at_call 215; refine (C91.out _ HB0.out).mono ?_; rintro e w1 ⟨rfl, hb1⟩))
      go_ret
      exact ⟨rfl, bnext HB0.out hb1⟩)
  have HB0 : Hid (Below w.heap.size w (w.alloc (.cells #[.int .u8 k, .int .i64 n, .string s, .slice A len cap, .int .i64 r] 27))) := Lib.hid ((Below.refl _ _).alloc (Nat.le_refl _) _)
  have HM : Hid (decide (0 < (if lookL x 512 16 < 0 then 0 else lookL x 512 16)) = mayV x) := Lib.hid (by
    unfold mayV
    cases e : takeV x 512 16 with
    | none => rw [lookL_none e]; rfl
    | some q =>
      have := takeV_lt e
      rw [lookL_some e, if_neg (by omega)]
      simp; omega)
  obtain ⟨P, hP⟩ : ∃ P, P = (if lookL x 512 16 < 0 then 0 else lookL x 512 16) := ⟨_, rfl⟩
  rw [← hP] at HM C82
  clear hP
  go_enter Tryz.func108, Tryz.ntmps108
  go_wp2_with (first | (go_at_call 165; refine (C82.out _ HB0.out).mono ?_; rintro e w1 ⟨rfl, hb1⟩))
  go_ret
  exact ⟨ret_bool HM.out, bnext HB0.out hb1⟩
end Go.Proofs.YtjmelamllapmiaaGreatDoor
