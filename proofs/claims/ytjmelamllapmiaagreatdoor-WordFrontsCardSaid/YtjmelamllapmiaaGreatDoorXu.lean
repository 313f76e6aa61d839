/- package word: the taker (over tokens, from the left); next. package word: what is said of the taker's value. -/
import Derived.Test.YtjmelamllapmiaaGreatDoorXs
import Derived.Test.YtjmelamllapmiaaGreatDoorZt
namespace Go.Proofs.YtjmelamllapmiaaGreatDoor
open Go.RowKit

/-- A token whose text is no longer than memory lets it be. -/
def TkL (t : Tk) : Prop := t.s.length ≤ 140737488351232 ∧ True

/-- The taker's block: the tokens, how far it is, how many parts it made. -/
def Tkr (w : World) (p : Nat) (v : Value) (i k : Nat) : Prop := BlkN w p 99 #[v, .int .i64 i, .int .i64 k]
/-- What next answers. -/
def TNextP (l : List Tk) (i : Nat) (e : Ending) : Prop := (l.length ≤ i ∧ e = stuckE l.length) ∨ ∃ hh : i < l.length, (tokMay l[i] = false ∧ e = stuckE i) ∨ (tokMay l[i] = true ∧ e = .returned (.agg l[i].arr))
attribute [local irreducible] wpList
set_option maxRecDepth 100000 in
set_option maxHeartbeats 4000000 in
theorem tnext_any (l : List Tk) (w : World) (B p i k : Nat) (v : Value) (h : Tkr w p v i k) (hv : IsTks w B v l) (hB : B ≤ w.heap.size) (hok : ∀ t ∈ l, TkL t) :
    Calls Tryz.prog 99 #[.pointer (some ⟨p, 0, Option.none⟩)] w fun e w' => Below w.heap.size w w' ∧ TNextP l i e := by
  obtain ⟨hl, A, cap, hcap, rfl, h7⟩ := hv
  obtain ⟨i0, hi0, hz0, hz1, hz2⟩ := info_parts info56
  obtain ⟨n, hn⟩ : ∃ n, n = w.heap.size := ⟨_, rfl⟩
  obtain ⟨W, hW⟩ : ∃ W, W = w.alloc (.cells #[.int .u8 0, .int .i64 0, .int .i64 0, .string ⟨#[]⟩, .int .i64 0] 58) := ⟨_, rfl⟩
  have HZ : Hid (BlkN W n 58 #[.int .u8 0, .int .i64 0, .int .i64 0, .string ⟨#[]⟩, .int .i64 0]) := Lib.hid (by rw [hW, hn]; exact BlkN.at_ rfl _ _)
  have HB1 : Hid (Below n w W) := Lib.hid (by rw [hW, hn]; exact (Below.refl _ _).alloc (Nat.le_refl _) _)
  have hBn : B ≤ n := by omega
  have hpn : p < n := by rw [hn]; exact h.lt
  have HSZ : Hid (n + 1 = W.heap.size) := Lib.hid (by rw [hW, hn]; simp)
  have HN := Lib.hid hn
  have HP : Hid (BlkN W p 99 #[.slice A l.length cap, .int .i64 i, .int .i64 k]) := Lib.hid (by rw [hW]; exact BlkN.alloc h _)
  by_cases hh : i < l.length
  · obtain ⟨b, o, hbB, hA, hx⟩ := h7 (by rintro rfl; simp at hh)
    subst hA
    have hat := (hx i hh).keep (show b < n by omega) (fun b hb => HB1.out.block b hb)
    have hTO := hok l[i] (List.getElem_mem hh)
    obtain ⟨t, ht⟩ : ∃ t, t = l[i] := ⟨_, rfl⟩
    have HNP : Hid (∀ e, (tokMay t = false ∧ e = stuckE i) ∨ (tokMay t = true ∧ e = .returned (.agg t.arr)) → TNextP l i e) := Lib.hid (fun e h => .inr ⟨hh, by rw [← ht]; exact h⟩)
    rw [← ht] at hat hTO
    have hii : (i : Int) < l.length := by omega
    have C56 : Hid (∀ w', Calls Tryz.prog 83 #[.agg t.arr] w' fun e w2 => Below w'.heap.size w' w2 ∧ e = .returned (.bool (tokMay t))) := Lib.hid (fun w' => tmay_any t (by have := hTO.1; omega) w')
    obtain ⟨mb, hmb⟩ : ∃ mb, mb = tokMay t := ⟨_, rfl⟩
    rw [← hmb] at HNP C56
    obtain ⟨tk, ta, tn, ts, tr, hta⟩ : ∃ tk ta tn ts tr, t.arr = #[.int .u8 tk, .int .i64 ta, .int .i64 tn, .string ts, .int .i64 tr] := ⟨_, _, _, _, _, rfl⟩
    rw [hta] at hat HNP C56
    have HAT : Hid (At W b (o + i * 5) [.int .u8 tk, .int .i64 ta, .int .i64 tn, .string ts, .int .i64 tr]) := Lib.hid hat
    clear hat hTO ht hmb hta hx h7 h hok hh
    go_enter Tryz.func99, Tryz.ntmps99
    go_upto_region 1 with fail
    rw [← hW, ← hn]
    clear hW hn
    have c0 := HP.out.cell 0 rfl
    have c1 := HP.out.cell 1 rfl
    have hpl := HP.out.lt
    have hge : decide ((l.length : Int) ≤ i) = false := by rw [decide_eq_false_iff_not]; omega
    go_quiet (fail)
    go_upto_region 3 with fail
    clear c0 c1 hge
    obtain ⟨W1, hW1⟩ : ∃ W1, W1 = W.drewN nq := ⟨_, rfl⟩
    have HP1 : Hid (BlkN W1 p 99 #[.slice (some ⟨b, o, Option.none⟩) l.length cap, .int .i64 i, .int .i64 k]) := Lib.hid (by rw [hW1]; exact HP.out)
    have HZ1 : Hid (BlkN W1 n 58 #[.int .u8 0, .int .i64 0, .int .i64 0, .string ⟨#[]⟩, .int .i64 0]) := Lib.hid (by rw [hW1]; exact HZ.out)
    have HAT1 : Hid (At W1 b (o + i * 5) [.int .u8 tk, .int .i64 ta, .int .i64 tn, .string ts, .int .i64 tr]) := Lib.hid (by rw [hW1]; exact HAT.out)
    have HB2 : Hid (Below n w W1) := Lib.hid (by rw [hW1]; exact belowN HB1.out _)
    have HS1 : Hid (n + 1 = W1.heap.size) := Lib.hid (by rw [hW1]; exact HSZ.out)
    rw [← hW1]
    clear hW1 HP HZ HAT HB1 HSZ hpl
    refine RegT.region_mix (fun i => Nat.ble i 10) (fun V => BlkN V p 99 #[.slice (some ⟨b, o, Option.none⟩) l.length cap, .int .i64 i, .int .i64 k] ∧ At V b (o + i * 5) [.int .u8 tk, .int .i64 ta, .int .i64 tn, .string ts, .int .i64 tr]) [(true, 0), (true, 1), (true, 2), (true, 3), (true, 4), (true, 5), (true, 6), (true, 7), (true, 8), (true, 9), (false, 10), (false, 11)] rfl (by kernel_rfl) (by kernel_rfl) (by decide) ?_
    · have hS0 : BlkN W1.drew p 99 #[.slice (some ⟨b, o, Option.none⟩) l.length cap, .int .i64 i, .int .i64 k] ∧ At W1.drew b (o + i * 5) [.int .u8 tk, .int .i64 ta, .int .i64 tn, .string ts, .int .i64 tr] := ⟨HP1.out, HAT1.out⟩
      refine RegT.seqM_quiet hS0 rfl (fun _ _ _ h => h) (by kernel_rfl) (v := .pointer (some ⟨p, 0, Option.none⟩)) (fun w' hS => ?_) ?_
      · go_simp
      refine RegT.seqM_quiet hS0 rfl (fun _ _ _ h => h) (by kernel_rfl) (v := .pointer (some ⟨p, 0, Option.none⟩)) (fun w' hS => ?_) ?_
      · go_simp
      refine RegT.seqM_quiet hS0 rfl (fun _ _ _ h => h) (by kernel_rfl) (v := .pointer (some ⟨p, 0, Option.none⟩)) (fun w' hS => ?_) ?_
      · go_simp
      refine RegT.seqM_quiet hS0 rfl (fun _ _ _ h => h) (by kernel_rfl) (v := .slice (some ⟨b, o, Option.none⟩) l.length cap) (fun w' hS => ?_) ?_
      · have u0 := hS.1.cell 0 rfl; go_simp
      refine RegT.seqM_quiet hS0 rfl (fun _ _ _ h => h) (by kernel_rfl) (v := .pointer (some ⟨p, 0, Option.none⟩)) (fun w' hS => ?_) ?_
      · go_simp
      refine RegT.seqM_quiet hS0 rfl (fun _ _ _ h => h) (by kernel_rfl) (v := .pointer (some ⟨p, 0, Option.none⟩)) (fun w' hS => ?_) ?_
      · go_simp
      refine RegT.seqM_quiet hS0 rfl (fun _ _ _ h => h) (by kernel_rfl) (v := .pointer (some ⟨p, 1, Option.none⟩)) (fun w' hS => ?_) ?_
      · go_simp
      refine RegT.seqM_quiet hS0 rfl (fun _ _ _ h => h) (by kernel_rfl) (v := .int .i64 i) (fun w' hS => ?_) ?_
      · have u1 := hS.1.cell 1 rfl; go_simp
      refine RegT.seqM_quiet hS0 rfl (fun _ _ _ h => h) (by kernel_rfl) (v := .pointer (some ⟨b, o + i * 5, Option.none⟩)) (fun w' hS => ?_) ?_
      · go_simp
      refine RegT.seqM_quiet hS0 rfl (fun _ _ _ h => h) (by kernel_rfl) (v := .agg #[.int .u8 tk, .int .i64 ta, .int .i64 tn, .string ts, .int .i64 tr]) (fun w' hS => ?_) ?_
      · obtain ⟨t0, t1, t2, t3, t4⟩ := At.five' hS.2; go_simp
      clear hS0
      refine RegT.seqM_held rfl ?_
      go_wp2_with fail
      refine ⟨⟨BlkN.alloc HP1.out _, HAT1.out.keep (show b < W1.heap.size by have := HS1.out; omega) (fun b hb => ((Below.refl W1.heap.size W1).alloc (Nat.le_refl _) _).block b hb)⟩, ?_⟩
      refine RegT.seqM_free rfl rfl ?_
      go_wp2_with fail
      refine RegT.seqM_end ?_
      simp only [RegT.NP]
      obtain ⟨g, hg⟩ : ∃ g, g = W1.heap.size := ⟨_, rfl⟩
      obtain ⟨W2, hW2⟩ : ∃ W2, W2 = (W1.alloc (.cells #[.int .u8 tk, .int .i64 ta, .int .i64 tn, .string ts, .int .i64 tr] 58)).drew := ⟨_, rfl⟩
      have hax : Below W1.heap.size W1 W2 := by rw [hW2]; exact ((Below.refl _ _).alloc (Nat.le_refl _) _).drew
      have HP2 := Lib.hid (BlkN.below HP1.out hax)
      have HZ2 := Lib.hid (BlkN.below HZ1.out hax)
      have HB3 : Hid (Below n w W2) := Lib.hid (HB2.out.trans (hax.mono (by have := HS1.out; omega)))
      have HT2 : Hid (BlkN W2 g 58 #[.int .u8 tk, .int .i64 ta, .int .i64 tn, .string ts, .int .i64 tr]) := Lib.hid (by rw [hW2, hg]; exact BlkN.at_ rfl _ _)
      have hng : n < g := by rw [hg]; have := HS1.out; omega
      rw [← hW2, ← hg]
      clear hW2 hg hax HP1 HZ1 HAT1 HB2 HS1
      have hgl := HT2.out.lt
      have t0 := HT2.out.cell 0 rfl
      have t1 := HT2.out.cell 1 rfl
      have t2 := HT2.out.cell 2 rfl
      have t3 := HT2.out.cell 3 rfl
      have t4 := HT2.out.cell 4 rfl
      cases mb
      · go_wp2_with (first | (go_at_call 83; refine (C56.out _).mono ?_; rintro e w3 ⟨hb3, rfl⟩; have HB4 := Lib.hid (HB3.out.trans (hb3.mono (by omega))); have HP3 := Lib.hid (HP2.out.below hb3); clear hb3 t0 t1 t2 t3 t4 hgl; have c1 := HP3.out.cell 1 rfl; have hpl := HP3.out.lt))
        exact ⟨rfl, by rw [← HN.out]; exact HB4.out, HNP.out _ (.inl ⟨trivial, rfl⟩)⟩
      · go_wp2_with (first | (go_at_call 83; refine (C56.out _).mono ?_; rintro e w3 ⟨hb3, rfl⟩; have HB4 := Lib.hid (HB3.out.trans (hb3.mono (by omega))); have HT3 := Lib.hid (HT2.out.below hb3); have HZ3 := Lib.hid (HZ2.out.below hb3); clear hb3 t0 t1 t2 t3 t4 hgl; have hgl := HT3.out.lt; have hnl := HZ3.out.lt; have t0 := HT3.out.cell 0 rfl; have t1 := HT3.out.cell 1 rfl; have t2 := HT3.out.cell 2 rfl; have t3 := HT3.out.cell 3 rfl; have t4 := HT3.out.cell 4 rfl; have z0 := HZ3.out.cell 0 rfl; have y0 := HZ3.out.free 0; have z1 := HZ3.out.cell 1 rfl; have y1 := HZ3.out.free 1; have z2 := HZ3.out.cell 2 rfl; have y2 := HZ3.out.free 2; have z3 := HZ3.out.cell 3 rfl; have y3 := HZ3.out.free 3; have z4 := HZ3.out.cell 4 rfl; have y4 := HZ3.out.free 4))
        obtain ⟨V', hV', hBV, hbut⟩ := set5_tok HZ3.out (.int .u8 tk) (.int .i64 ta) (.int .i64 tn) (.string ts) (.int .i64 tr)
        rw [hV']
        refine bodyPost_ret (results_cell1 (s := 2) (b := n) rfl Tryz.underlying58 hi0 rfl hBV (by rw [hz1]; rfl)) rfl ⟨?_, HNP.out _ (.inr ⟨trivial, rfl⟩)⟩
        rw [← HN.out]; exact hbut.below (Nat.le_refl _) HB4.out
  · have HNP : Hid (∀ e, e = stuckE l.length → TNextP l i e) := Lib.hid (fun e h => .inl ⟨by omega, h⟩)
    clear h7 hok h
    go_enter Tryz.func99, Tryz.ntmps99
    go_upto_region 1 with fail
    rw [← hW, ← hn]
    clear hW hn
    have c0 := HP.out.cell 0 rfl
    have c1 := HP.out.cell 1 rfl
    have hpl := HP.out.lt
    have hge : (l.length : Int) ≤ i := by omega
    go_quiet (fail)
    go_wp2_with fail
    exact ⟨rfl, by rw [← HN.out]; exact belowN HB1.out _, HNP.out _ rfl⟩
end Go.Proofs.YtjmelamllapmiaaGreatDoor
namespace Go.Proofs.YtjmelamllapmiaaGreatDoor
open Go.RowKit

def TRsP {α : Type} (r : TRs α) (l : List Tk) (i : Nat) (e : Ending) (ok : α → Nat → Prop) : Prop :=
  match r with
  | .ok a t => ∃ j, i < j ∧ j ≤ l.length ∧ t = l.drop j ∧ ok a j
  | .no t => ∃ j, j ≤ l.length ∧ t = l.drop j ∧ e = stuckE j
theorem Tkr.adv {w : World} {p : Nat} {v : Value} {i k : Nat} (h : Tkr w p v i k) : Tkr (w.setCell ⟨p, 1, Option.none⟩ (.int .i64 ((i : Int) + 1))) p v (i + 1) k := by
  have := BlkN.set h 1 (.int .i64 ((i : Int) + 1))
  unfold Tkr
  simpa using this
theorem Tkr.inc {w : World} {p : Nat} {v : Value} {i k : Nat} (h : Tkr w p v i k) : Tkr (w.setCell ⟨p, 2, Option.none⟩ (.int .i64 ((k : Int) + 1))) p v i (k + 1) := by
  have := BlkN.set h 2 (.int .i64 ((k : Int) + 1))
  unfold Tkr
  simpa using this
theorem Tkr.below {w w' : World} {p : Nat} {v : Value} {i k : Nat} (h : Tkr w p v i k) (hb : Below w.heap.size w w') : Tkr w' p v i k := BlkN.below h hb
theorem Tkr.but {w w' : World} {p b : Nat} {v : Value} {i k : Nat} (h : Tkr w p v i k) (hb : But b w w') (hn : p ≠ b) : Tkr w' p v i k := (hb.other p hn).trans h
theorem tnext_at {l : List Tk} {w : World} {B p i k : Nat} {v : Value} (h : Tkr w p v i k) (hv : IsTks w B v l) (hB : B ≤ w.heap.size) (hok : ∀ t ∈ l, TkL t) (hh : i < l.length) {t : Tk} (ht : t = l[i]) (hm : tokMay t = true) :
    Calls Tryz.prog 99 #[.pointer (some ⟨p, 0, Option.none⟩)] w fun e w' => e = .returned (.agg t.arr) ∧ Below w.heap.size w w' := (tnext_any l w B p i k v h hv hB hok).mono fun e w' h => by
  obtain ⟨h1, ⟨h2, _⟩ | ⟨_, ⟨h2, _⟩ | ⟨_, rfl⟩⟩⟩ := h
  · omega
  · rw [← ht, hm] at h2; cases h2
  · exact ⟨by rw [ht], h1⟩
theorem tnext_bad {l : List Tk} {w : World} {B p i k : Nat} {v : Value} (h : Tkr w p v i k) (hv : IsTks w B v l) (hB : B ≤ w.heap.size) (hok : ∀ t ∈ l, TkL t) (hh : i < l.length) {t : Tk} (ht : t = l[i]) (hm : tokMay t = false) :
    Calls Tryz.prog 99 #[.pointer (some ⟨p, 0, Option.none⟩)] w fun e w' => e = stuckE i ∧ Below w.heap.size w w' := (tnext_any l w B p i k v h hv hB hok).mono fun e w' h => by
  obtain ⟨h1, ⟨h2, _⟩ | ⟨_, ⟨_, rfl⟩ | ⟨h2, _⟩⟩⟩ := h
  · omega
  · exact ⟨rfl, h1⟩
  · rw [← ht, hm] at h2; cases h2
theorem tnext_end {l : List Tk} {w : World} {B p i k : Nat} {v : Value} (h : Tkr w p v i k) (hv : IsTks w B v l) (hB : B ≤ w.heap.size) (hok : ∀ t ∈ l, TkL t) (hh : l.length ≤ i) :
    Calls Tryz.prog 99 #[.pointer (some ⟨p, 0, Option.none⟩)] w fun e w' => e = stuckE l.length ∧ Below w.heap.size w w' := (tnext_any l w B p i k v h hv hB hok).mono fun e w' h => by
  obtain ⟨h1, ⟨_, rfl⟩ | ⟨h2, _⟩⟩ := h
  · exact ⟨rfl, h1⟩
  · omega
/-- A value has parts, and no more than may be. -/
def TPart (f : List Tk → Nat → TRs (Va × Nat)) : Prop := ∀ t k x r, k < 512 → f t k = .ok x r → k < x.2 ∧ x.2 ≤ 512
theorem tkLs_part {f : List Tk → Nat → TRs (Va × Nat)} (hf : TPart f) : ∀ (n : Nat) (t : List Tk) (k : Nat) (l : List Va) x r, k ≤ 512 → tkLs f n t k l = .ok x r → k ≤ x.2 ∧ x.2 ≤ 512
  | 0, t, k, l, x, r, _, h => by simp [tkLs] at h
  | n + 1, [], k, l, x, r, _, h => by simp [tkLs] at h
  | n + 1, c :: t, k, l, x, r, hk, h => by
    rw [tkLs] at h
    by_cases hm : tokMay c = false
    · rw [if_pos hm] at h; cases h
    rw [if_neg hm] at h
    by_cases hc : c.k = 5 ∧ c.s = [93]
    · rw [if_pos hc] at h
      injection h with h1 h2
      subst h1
      exact ⟨Nat.le_refl _, hk⟩
    rw [if_neg hc] at h
    by_cases hb : 512 ≤ k
    · rw [if_pos hb] at h; cases h
    rw [if_neg hb] at h
    cases he : f (c :: t) k with
    | no r' => rw [he] at h; cases h
    | ok y r' =>
      obtain ⟨v, q⟩ := y
      rw [he] at h
      have h1 := hf _ _ _ _ (by omega) he
      have h2 := tkLs_part hf n r' q (l ++ [v]) x r h1.2 h
      exact ⟨by have := h1.1; simp only at this; omega, h2.2⟩
theorem tkV_part : ∀ (nest : Nat), TPart (tkV nest) := by
  intro nest
  induction nest with
  | zero =>
    intro t k x r hk h
    cases t with
    | nil => unfold tkV at h; cases h
    | cons c t =>
      unfold tkV at h
      split at h
      · cases h
      split at h
      · injection h with h1 h2; subst h1; exact ⟨by simp, by simp; omega⟩
      split at h
      · injection h with h1 h2; subst h1; exact ⟨by simp, by simp; omega⟩
      split at h
      · injection h with h1 h2; subst h1; exact ⟨by simp, by simp; omega⟩
      split at h
      · injection h with h1 h2; subst h1; exact ⟨by simp, by simp; omega⟩
      split at h
      · cases h
      · cases h
  | succ n ih =>
    intro t k x r hk h
    cases t with
    | nil => unfold tkV at h; cases h
    | cons c t =>
      rw [tkV] at h
      split at h
      · cases h
      split at h
      · injection h with h1 h2; subst h1; exact ⟨by simp, by simp; omega⟩
      split at h
      · injection h with h1 h2; subst h1; exact ⟨by simp, by simp; omega⟩
      split at h
      · injection h with h1 h2; subst h1; exact ⟨by simp, by simp; omega⟩
      split at h
      · injection h with h1 h2; subst h1; exact ⟨by simp, by simp; omega⟩
      split at h
      · cases hL : tkLs (tkV n) 514 t (k + 1) [] with
        | no r' => rw [hL] at h; cases h
        | ok y r' =>
          obtain ⟨l, q⟩ := y
          rw [hL] at h
          injection h with h1 h2
          subst h1
          have := tkLs_part ih 514 t (k + 1) [] _ _ (by omega) hL
          simp only at this ⊢
          omega
      · cases h
/-- What is said of the taker's value, so many lists around it. -/
def TValC (nest : Nat) : Prop := ∀ (l : List Tk) (i k : Nat) (w : World) (B p : Nat) (v : Value), Tkr w p v i k → IsTks w B v l → B ≤ p → i ≤ l.length → (∀ t ∈ l, TkL t) → k < 512 →
  Calls Tryz.prog 49 #[.pointer (some ⟨p, 0, Option.none⟩), .int .i64 ((16 : Int) - nest)] w fun e w' => Upd p w w' ∧ TRsP (tkV nest (l.drop i) k) l i e (fun x j => ∃ u, e = .returned u ∧ IsVaR w' (Own34 w' w.heap.size) u x.1 ∧ Tkr w' p v j x.2)
end Go.Proofs.YtjmelamllapmiaaGreatDoor
