/- The walk of the law AbleWalks, for every byte and every number. -/
import Derived.Test.YtadmdanmafegoaaJ
namespace Go.Proofs.Ytadmdanmafegoaa
open Go.RowKit Go.Shelf
attribute [local go_sem] Oper.semAt_some

theorem eql_nilFunc (f : Fn) (x y : Array Value) (w : World) : (binOp .eql 53 (.func f x y) .nilFunc).run Try.prog w = .ok (.bool false) w := by rfl
theorem boxed_here (W : World) (t : TypeId) (v : Value) (b : Nat) (h : b = W.heap.size) : Boxed (W.alloc (.cells #[v] t)) b t v := h ▸ Boxed.new W t v
theorem ownFrom_heap {β : Type} {B D : Nat} {o : Obj} (h : D < B) : OwnFrom B (fun (_ : β) W => W.heap[D]? = some o) := fun _ W W' row hs hg hr =>
  (hg.block D (Array.getElem?_eq_some_iff.1 hs).1 (fun e => by have := (hr D e.symm).1; omega)).trans hs
theorem pre_snoc {pre xs : List Nat} (h : pre <+: xs) (x : Nat) : pre ++ [x] <+: xs ↔ pre.length < xs.length ∧ xs.getD pre.length 0 = x := by
  obtain ⟨t, rfl⟩ := h
  cases t with
  | nil =>
    constructor
    · intro h; have := h.length_le; simp at this; omega
    · intro h; simp at h
  | cons y t =>
    have e : (pre ++ y :: t).getD pre.length 0 = y := by simp [List.getD_eq_getElem?_getD]
    rw [e, List.prefix_append_right_inj]
    constructor
    · rintro ⟨s, hs⟩; simp at hs; exact ⟨by simp, hs.1.symm⟩
    · rintro ⟨_, rfl⟩; exact ⟨t, rfl⟩
/-- The boxes of the walk: leave, want, the answer, the set. -/
def WS (n Bn : Nat) (w0 : World) (lv : Int) (want : Value) (m : Int) (W : World) : Prop :=
  Boxed W n 3 (.int .i64 lv) ∧ Boxed W (n + 1) 33 want ∧ Boxed W (n + 2) 4 (.bool false) ∧ Boxed W Bn 22 (.int .u8 m) ∧ Below n w0 W
theorem WS_own {β : Type} {B n Bn : Nat} {w0 : World} {lv : Int} {want : Value} {m : Int} (hn : n ≤ w0.heap.size) (hB : n ≤ B) : OwnFrom B (fun (_ : β) W => WS n Bn w0 lv want m W) :=
  OwnFrom.and (Own.from (boxed_own _ _ (fun _ => _)) _) (OwnFrom.and (Own.from (boxed_own _ _ (fun _ => _)) _) (OwnFrom.and (Own.from (boxed_own _ _ (fun _ => _)) _) (OwnFrom.and (Own.from (boxed_own _ _ (fun _ => _)) _) (ownFrom_below hn hB))))
theorem WS.other {n Bn Bi : Nat} {w0 W : World} {lv : Int} {want : Value} {m : Int} (h : WS n Bn w0 lv want m W) (h1 : n + 2 < Bi) (h2 : Bn ≠ Bi) (u : Value) : WS n Bn w0 lv want m (W.setCell ⟨Bi, 0, Option.none⟩ u) :=
  ⟨h.1.other (by omega) u, h.2.1.other (by omega) u, h.2.2.1.other (by omega) u, h.2.2.2.1.other h2 u, h.2.2.2.2.setCell (p := ⟨Bi, 0, Option.none⟩) (by simp; omega) u⟩
/-- The invariant of the two loops. -/
def WI (n Bi Bn : Nat) (w0 : World) (lv : Int) (want : Value) (m : Int) (xs pre : List Nat) (W : World) : Prop :=
  pre <+: xs ∧ Boxed W Bi 3 (.int .i64 (pre.length : Nat)) ∧ WS n Bn w0 lv want m W
theorem WI_own {B n Bi Bn : Nat} {w0 : World} {lv : Int} {want : Value} {m : Int} {xs : List Nat} (hn : n ≤ w0.heap.size) (hB : n ≤ B) : OwnFrom B (WI n Bi Bn w0 lv want m xs) :=
  OwnFrom.and (fun _ _ _ _ h _ _ => h) (OwnFrom.and (Own.from (boxed_own _ _ (fun pre : List Nat => .int .i64 (pre.length : Nat))) _) (WS_own hn hB))

set_option maxRecDepth 100000 in
set_option maxHeartbeats 4000000 in
theorem walk_each (a : Nat) (ha : a < 256) (lv : Int) (hl1 : -9223372036854775808 ≤ lv) (hl2 : lv ≤ 9223372036854775807) (want : Value) (w : World) (B0 : Nat) (hB0 : B0 ≤ w.heap.size) (hw : OwnU8 B0 w want (eachN a 6)) :
    Calls Try.prog 33 #[.int .u8 a, .bool false, .int .i64 lv, want] w fun e w' => e = .returned (.bool true) ∧ Below w.heap.size w w' := by
  refine (callsIn_wide (n := 9)).1 ?_
  obtain ⟨xs, hxs⟩ : ∃ xs, xs = eachN a 6 := ⟨_, rfl⟩
  have hlen : xs.length ≤ 64 := by rw [hxs]; exact Nat.le_trans (eachN_le a 6) (by omega)
  have HXS := Lib.hid hxs
  rw [← hxs] at hw
  clear hxs
  have hu := own_u8 hw (by omega)
  obtain ⟨h1, h2, h3⟩ := hu
  obtain ⟨N, hN⟩ : ∃ N, N = xs.length := ⟨_, rfl⟩
  obtain ⟨ad, cap, rfl, hc⟩ : ∃ a cap, want = .slice a N cap ∧ ∀ j, j < N → ∃ b o, a = some ⟨b, o, Option.none⟩ ∧ w.cell? ⟨b, o + j, Option.none⟩ = some (.int .u8 (xs.getD j 0 : Nat)) := by
    rcases h3 with ⟨rfl, a, cap, rfl, _⟩ | ⟨b, o, cap, rfl, hc⟩
    · exact ⟨_, _, by rw [hN]; rfl, fun j hj => absurd hj (by rw [hN]; simp)⟩
    · exact ⟨_, cap, by rw [hN], fun j hj => ⟨b, o, rfl, hc j (by omega)⟩⟩
  have HN := Lib.hid hN
  have HC := Lib.hid hc
  rw [← hN] at hlen
  clear hN hc h1 h2 h3 hw
  refine callsIn_of_wp_marks Try.func33 rfl trivial ?_ rfl
  simp only [Try.ntmps33, List.size_toArray, List.length_cons, List.length_nil, Nat.reduceAdd, Nat.reduceSub, Array.replicate_succ, Array.replicate_zero, List.push_toArray, List.append_toArray, List.nil_append, List.cons_append]
  have hq := eql_nilFunc
  gi_wp2_with (first | (refine ⟨trivial, ?_⟩; gi_at_call 37; refine (callsIn_wide.2 (each_any a _)).mono ?_; rintro e w' ⟨rfl, rfl⟩) | (refine ⟨trivial, ?_⟩; gi_at_call 36; refine (callsIn_wide.2 (within_any a ha _)).mono ?_; rintro e w' ⟨rfl, rfl⟩))
  have hx0 : (Boxed (((((w.alloc (.cells #[.int .i64 lv] 3)).alloc (.cells #[.slice ad N cap] 33)).alloc (.cells #[.bool false] 4)).alloc (.cells #[.int .u8 a] 22)).alloc (.cells #[.int .i64 0] 3)) (w.heap.size + 4) 3 (.int .i64 0)) ∧ WS w.heap.size (w.heap.size + 3) w lv (.slice ad N cap) ((a : Int)) (((((w.alloc (.cells #[.int .i64 lv] 3)).alloc (.cells #[.slice ad N cap] 33)).alloc (.cells #[.bool false] 4)).alloc (.cells #[.int .u8 a] 22)).alloc (.cells #[.int .i64 0] 3)) ∧ (((((w.alloc (.cells #[.int .i64 lv] 3)).alloc (.cells #[.slice ad N cap] 33)).alloc (.cells #[.bool false] 4)).alloc (.cells #[.int .u8 a] 22)).alloc (.cells #[.int .i64 0] 3)).heap.size = w.heap.size + 4 + 1 := by
    refine ⟨(boxed_here _ _ _ _ (by simp)), ⟨(((((boxed_here _ _ _ _ (by simp)).alloc _).alloc _).alloc _).alloc _), ((((boxed_here _ _ _ _ (by simp)).alloc _).alloc _).alloc _), (((boxed_here _ _ _ _ (by simp)).alloc _).alloc _), ((boxed_here _ _ _ _ (by simp)).alloc _), ?_⟩, by simp⟩
    exact ((((((Below.refl _ _).alloc (by simp <;> omega) _).alloc (by simp <;> omega) _).alloc (by simp <;> omega) _).alloc (by simp <;> omega) _).alloc (by simp <;> omega) _)
  refine wpIn_rangeFunc_ownG rfl (by omega) (gf := 47) (lb := #[.pointer (some ⟨w.heap.size + 3, 0, Option.none⟩)]) rfl trivial (enters_of Try.func47 (by kernel_rfl) rfl) (encs := encN)
    (eachN_stops 8 a ha _ _ (by simp <;> omega) hx0.2.1.2.2.2.1.cell) Kc_t (Kc_b (by rw [hx0.2.2]; omega)) (Below.refl _ _) (fun _ => rfl)
    (WI w.heap.size (w.heap.size + 4) (w.heap.size + 3) w lv (.slice ad N cap) ((a : Int)) xs)
    (fun c pre W => (c = .ret ∧ ¬ pre <+: xs) ∨ (c = .exit 0 ∧ (pre.length : Int) = lv ∧ WI w.heap.size (w.heap.size + 4) (w.heap.size + 3) w lv (.slice ad N cap) ((a : Int)) xs pre W))
    (WI_own (Nat.le_refl _) (by rw [hx0.2.2]; omega))
    (fun c s A B row hs hg hr => hs.imp id fun h => ⟨h.1, h.2.1, WI_own (Nat.le_refl _) (by rw [hx0.2.2]; omega) s A B row h.2.2 hg hr⟩)
    ⟨List.nil_prefix, hx0.1, hx0.2.1⟩ (fun x => { tmps := #[.int .u8 a, .bool false, .int .i64 lv, .slice ad N cap, undef, undef, .pointer (some ⟨w.heap.size, 0, Option.none⟩), .pointer (some ⟨w.heap.size + 1, 0, Option.none⟩), .pointer (some ⟨w.heap.size + 2, 0, Option.none⟩), .func (.func 47) #[] #[.pointer (some ⟨w.heap.size + 3, 0, Option.none⟩)], .pointer (some ⟨w.heap.size + 4, 0, Option.none⟩), .int .u8 (x : Nat), undef, .int .u8 a, .func (.func 47) #[] #[.pointer (some ⟨w.heap.size + 3, 0, Option.none⟩)], .bool false, undef, undef, .func (.func 47) #[] #[.pointer (some ⟨w.heap.size + 3, 0, Option.none⟩)], .bool false, .func (.func 47) #[] #[.pointer (some ⟨w.heap.size + 3, 0, Option.none⟩)], .int .u8 (x : Nat), undef, undef, undef, undef, undef, undef, undef, undef, undef, undef, undef, undef, undef, undef, undef, undef, undef, undef, undef, undef, undef, undef, undef, undef, undef, undef, undef, undef, undef, undef, undef, undef, undef, undef, undef, undef, undef, undef, undef, undef, undef, undef, undef, undef, undef, undef], defers := [] }) ?assign ?body ?done ?stop
  case assign =>
    intro l x W K hK
    simp only [encN]
    gi_wp2
    exact hK
  case body =>
    rintro l pre x W ⟨hpre, hbi, hW⟩ hlt
    have hsz := hW.2.2.2.2.size
    obtain ⟨hb1, hb2, hb3, hb4, hB⟩ := hW
    have hci := hbi.cell
    have hfi := hbi.frozen
    have hc1 := hb1.cell
    have hc2 := hb2.cell
    have hc3 := hb3.cell
    have hf3 := hb3.frozen
    have hpl := hpre.length_le
    have HP := Lib.hid hpre
    clear hpre
    by_cases hin : pre.length < N
    · obtain ⟨b, o, rfl, hcw⟩ := HC.out pre.length hin
      have hcell := (hB.cell (p := ⟨b, o + pre.length, Option.none⟩) (cell_lt hcw)).trans hcw
      have HPS := Lib.hid (pre_snoc HP.out x)
      obtain ⟨y, hy⟩ : ∃ y, y = xs.getD pre.length 0 := ⟨_, rfl⟩
      have HY := Lib.hid hy
      rw [← hy] at hcell
      clear hy hcw
      by_cases hxy : y = x
      · have hne : (((x : Nat) : Int) != ((y : Nat) : Int)) = false := by rw [hxy]; simp
        have HPX : Hid (pre ++ [x] <+: xs) := Lib.hid (HPS.out.2 ⟨by rw [← HN.out]; exact hin, by rw [← HY.out]; exact hxy⟩)
        clear hxy
        cases hlv : (((pre.length : Nat) : Int) + 1 == lv)
        · gi_wp2
          have hbi2 := hbi.set (.int .i64 ((pre.length : Nat) + 1 : Int))
          refine ⟨(KeepsOthers.setCell _ _ _).from _, ?_, HPX.out, ?_, ?_⟩
          · exact ((hb4.other (B' := w.heap.size + 4) (by omega) _).cell).trans hb4.cell.symm
          · simpa using hbi2
          · exact WS.other ⟨hb1, hb2, hb3, hb4, hB⟩ (by omega) (by omega) _
        · gi_wp2
          have hbi2 := hbi.set (.int .i64 ((pre.length : Nat) + 1 : Int))
          refine ⟨(KeepsOthers.setCell _ _ _).from _, .inr ⟨rfl, by have := eq_of_beq hlv; simp; omega, HPX.out, by simpa using hbi2, WS.other ⟨hb1, hb2, hb3, hb4, hB⟩ (by omega) (by omega) _⟩⟩
      · have hne : (((x : Nat) : Int) != ((y : Nat) : Int)) = true := by rw [bne_iff_ne]; omega
        have HPX : Hid (¬ pre ++ [x] <+: xs) := Lib.hid (fun h => hxy (by rw [HY.out]; exact (HPS.out.1 h).2))
        clear hxy
        gi_wp2
        exact ⟨(KeepsOthers.setCell _ _ _).from _, .inl ⟨rfl, HPX.out⟩⟩
    · have HPX : Hid (¬ pre ++ [x] <+: xs) := Lib.hid (fun h => hin (by rw [HN.out]; exact ((pre_snoc HP.out x).1 h).1))
      gi_wp2
      exact ⟨(KeepsOthers.setCell _ _ _).from _, .inl ⟨rfl, HPX.out⟩⟩
  case done =>
    rintro D ys W hD rfl hI hK
    have hD2 : w.heap.size + 4 + 1 ≤ D := by rw [hx0.2.2] at hD; exact hD
    obtain ⟨hpre, hbi, hW⟩ := hI
    have hNx := HXS.out.symm
    rw [hNx] at hbi hpre
    have HPR := Lib.hid hpre
    rw [← HN.out] at hbi
    clear hpre hD hNx
    cases hlv : (((N : Nat) : Int) != lv)
    · have hsz := hW.2.2.2.2.size
      have hci := hbi.cell
      have hfi := hbi.frozen
      have hc1 := hW.1.cell
      have hc2 := hW.2.1.cell
      gi_wp2
      have hbi2 := hbi.set (.int .i64 0)
      have hW2 := hW.other (Bi := (w.heap.size + 4)) (by omega) (by omega) (.int .i64 0)
      have hKD : (W.setCell ⟨(w.heap.size + 4), 0, Option.none⟩ (.int .i64 0)).heap[D]? = some (.deferred (some [])) := (KeepsOthers.setCell W ⟨(w.heap.size + 4), 0, Option.none⟩ (.int .i64 0)).same D _ hK rfl
      have hlt2 := hW2.2.2.2.1.lt
      have hD3 : D < (W.setCell ⟨(w.heap.size + 4), 0, Option.none⟩ (.int .i64 0)).heap.size := (Array.getElem?_eq_some_iff.1 hKD).1
      refine wpIn_rangeFunc_ownG rfl (by omega) (gf := 47) (lb := #[.pointer (some ⟨(w.heap.size + 3), 0, Option.none⟩)]) rfl trivial (enters_of Try.func47 (by kernel_rfl) rfl) (encs := encN)
        (eachN_stops 8 a ha _ _ hlt2 hW2.2.2.2.1.cell) Kc_t (Kc_b hlt2) (Below.refl _ _) (fun _ => rfl)
        (fun pre2 W' => WI w.heap.size ((w.heap.size + 4)) ((w.heap.size + 3)) w lv (.slice ad N cap) ((a : Int)) xs pre2 W' ∧ W'.heap[D]? = some (.deferred (some [])))
        (fun c pre2 _ => c = .ret ∧ ¬ pre2 <+: xs)
        (OwnFrom.and (WI_own (Nat.le_refl _) (Nat.le_trans (by omega) (Nat.le_of_lt hlt2))) (ownFrom_heap hD3))
        (fun _ _ _ _ _ h _ _ => h)
        ⟨⟨List.nil_prefix, hbi2, hW2⟩, hKD⟩ (fun x => { tmps := #[.int .u8 a, .bool false, .int .i64 lv, .slice ad N cap, undef, undef, .pointer (some ⟨w.heap.size, 0, Option.none⟩), .pointer (some ⟨w.heap.size + 1, 0, Option.none⟩), .pointer (some ⟨w.heap.size + 2, 0, Option.none⟩), .func (.func 47) #[] #[.pointer (some ⟨w.heap.size + 3, 0, Option.none⟩)], .pointer (some ⟨w.heap.size + 4, 0, Option.none⟩), undef, .int .u8 (x : Nat), .int .u8 a, .func (.func 47) #[] #[.pointer (some ⟨w.heap.size + 3, 0, Option.none⟩)], .bool false, undef, undef, .func (.func 47) #[] #[.pointer (some ⟨w.heap.size + 3, 0, Option.none⟩)], .bool false, .func (.func 47) #[] #[.pointer (some ⟨w.heap.size + 3, 0, Option.none⟩)], undef, undef, undef, undef, undef, undef, undef, undef, undef, undef, undef, undef, undef, undef, undef, undef, undef, undef, .int .i64 (N : Nat), .int .i64 lv, .bool false, .bool false, undef, undef, undef, undef, .bool false, .func (.func 47) #[] #[.pointer (some ⟨w.heap.size + 3, 0, Option.none⟩)], .int .u8 (x : Nat), undef, undef, undef, undef, undef, undef, undef, undef, undef, undef, undef, undef, undef, undef, undef, undef, undef, undef], defers := [] }) ?assign1 ?body1 ?done1 ?stop1
      case assign1 =>
        intro l x W K hK
        simp only [encN]
        gi_wp2
        exact hK
      case body1 =>
        rintro l pre x W ⟨⟨hpre, hbi, hW⟩, hKx⟩ hlt
        have hsz := hW.2.2.2.2.size
        obtain ⟨hb1, hb2, hb3, hb4, hB⟩ := hW
        have hci := hbi.cell
        have hfi := hbi.frozen
        have hc2 := hb2.cell
        have hc3 := hb3.cell
        have hf3 := hb3.frozen
        have hpl := hpre.length_le
        have HP := Lib.hid hpre
        clear hpre
        by_cases hin : pre.length < N
        · obtain ⟨b, o, rfl, hcw⟩ := HC.out pre.length hin
          have hcell := (hB.cell (p := ⟨b, o + pre.length, Option.none⟩) (cell_lt hcw)).trans hcw
          have HPS := Lib.hid (pre_snoc HP.out x)
          obtain ⟨y, hy⟩ : ∃ y, y = xs.getD pre.length 0 := ⟨_, rfl⟩
          have HY := Lib.hid hy
          rw [← hy] at hcell
          clear hy hcw
          by_cases hxy : y = x
          · have hne : (((x : Nat) : Int) != ((y : Nat) : Int)) = false := by rw [hxy]; simp
            have HPX : Hid (pre ++ [x] <+: xs) := Lib.hid (HPS.out.2 ⟨by rw [← HN.out]; exact hin, by rw [← HY.out]; exact hxy⟩)
            clear hxy
            gi_wp2
            have hbi3 := hbi.set (.int .i64 ((pre.length : Nat) + 1 : Int))
            refine ⟨(KeepsOthers.setCell _ _ _).from _, ?_, ⟨HPX.out, ?_, ?_⟩, (KeepsOthers.setCell _ _ _).same D _ hKx rfl⟩
            · exact ((hb4.other (B' := (w.heap.size + 4)) (by omega) _).cell).trans hb4.cell.symm
            · simpa using hbi3
            · exact WS.other ⟨hb1, hb2, hb3, hb4, hB⟩ (by omega) (by omega) _
          · have hne : (((x : Nat) : Int) != ((y : Nat) : Int)) = true := by rw [bne_iff_ne]; omega
            have HPX : Hid (¬ pre ++ [x] <+: xs) := Lib.hid (fun h => hxy (by rw [HY.out]; exact (HPS.out.1 h).2))
            clear hxy
            gi_wp2
            exact ⟨(KeepsOthers.setCell _ _ _).from _, rfl, HPX.out⟩
        · have HPX : Hid (¬ pre ++ [x] <+: xs) := Lib.hid (fun h => hin (by rw [HN.out]; exact ((pre_snoc HP.out x).1 h).1))
          gi_wp2
          exact ⟨(KeepsOthers.setCell _ _ _).from _, rfl, HPX.out⟩
      case done1 =>
        rintro D2 ys W2 hDD rfl ⟨⟨hpre2, hbx, hWx⟩, hKx⟩ hKy
        have hNx := HXS.out.symm
        rw [hNx, ← HN.out] at hbx
        have hsy := hWx.2.2.2.2.size
        obtain ⟨hb1, hb2, hb3, hb4, hB⟩ := hWx
        have hcx := hbx.cell
        have hc2 := hb2.cell
        have hc3 := hb3.cell
        have hf3 := hb3.frozen
        have HNX := Lib.hid hNx
        have hDne : D2 ≠ D := fun e => Nat.lt_irrefl _ (e ▸ Nat.lt_of_lt_of_le hD3 hDD)
        have hDDk := hDD
        clear hNx hpre2 hDD
        gi_wp2
        have hb3' := hb3.set (.bool true)
        have hKy2 := (KeepsOthers.setCell W2 ⟨w.heap.size + 2, 0, Option.none⟩ (.bool true)).same D2 _ hKy rfl
        have hKx2 := (KeepsOthers.setCell W2 ⟨w.heap.size + 2, 0, Option.none⟩ (.bool true)).same D _ hKx rfl
        have hlD := (Array.getElem?_eq_some_iff.1 hKx2).1
        have hKx3 := (World.putObj_heap_other (o := .deferred Option.none) (fun e => hDne e.symm)).trans hKx2
        have hBs := hB.setCell (p := ⟨w.heap.size + 2, 0, Option.none⟩) (by simp) (.bool true)
        obtain ⟨W3, hW3⟩ : ∃ W3, W3 = W2.setCell ⟨w.heap.size + 2, 0, Option.none⟩ (.bool true) := ⟨_, rfl⟩
        rw [← hW3] at hb3' hKy2 hKx2 hKx3 hBs
        have hnD : w.heap.size + 2 ≠ D := by omega
        have hnD2 : w.heap.size + 2 ≠ D2 := fun e => by have := Nat.lt_of_lt_of_le hD3 hDDk; omega
        have hbz : ((W3.putObj D2 (.deferred Option.none)).putObj D (.deferred Option.none)).cell? ⟨w.heap.size + 2, 0, Option.none⟩ = some (.bool true) := by
          refine Boxed.cell (t := 4) ?_
          exact (World.putObj_heap_other hnD).trans ((World.putObj_heap_other hnD2).trans hb3')
        have hBz : Below w.heap.size w ((W3.putObj D2 (.deferred Option.none)).putObj D (.deferred Option.none)) :=
          (hBs.trans (belowK_b (w := w) (Nat.le_refl _) _ D2 _ _ (by have := Nat.lt_of_lt_of_le hD3 hDDk; omega) hKy2 rfl rfl)).trans (belowK_b (w := w) (Nat.le_refl _) _ D _ _ (by omega) hKx3 rfl rfl)
        subst hW3
        exact ⟨by simp, .inl ⟨_, _, rfl, run_takeDeferred hKy2, ⟨by simp, .inl ⟨_, _, rfl, run_takeDeferred hKx3, ⟨_, by simp only [results, Try.results33]; simp [go_sem, hbz], rfl, hBz⟩⟩⟩⟩⟩
      case stop1 =>
        rintro D c pre W _ hSp ⟨_, hn⟩ _
        exact absurd (HXS.out ▸ hSp) hn
    · have hsz := hW.2.2.2.2.size
      have hci := hbi.cell
      have hfi := hbi.frozen
      have hc1 := hW.1.cell
      have hc2 := hW.2.1.cell
      gi_wp2
      have hbi2 := hbi.set (.int .i64 0)
      have hW2 := hW.other (Bi := (w.heap.size + 4)) (by omega) (by omega) (.int .i64 0)
      have hKD : (W.setCell ⟨(w.heap.size + 4), 0, Option.none⟩ (.int .i64 0)).heap[D]? = some (.deferred (some [])) := (KeepsOthers.setCell W ⟨(w.heap.size + 4), 0, Option.none⟩ (.int .i64 0)).same D _ hK rfl
      have hlt2 := hW2.2.2.2.1.lt
      have hD3 : D < (W.setCell ⟨(w.heap.size + 4), 0, Option.none⟩ (.int .i64 0)).heap.size := (Array.getElem?_eq_some_iff.1 hKD).1
      refine wpIn_rangeFunc_ownG rfl (by omega) (gf := 47) (lb := #[.pointer (some ⟨(w.heap.size + 3), 0, Option.none⟩)]) rfl trivial (enters_of Try.func47 (by kernel_rfl) rfl) (encs := encN)
        (eachN_stops 8 a ha _ _ hlt2 hW2.2.2.2.1.cell) Kc_t (Kc_b hlt2) (Below.refl _ _) (fun _ => rfl)
        (fun pre2 W' => WI w.heap.size ((w.heap.size + 4)) ((w.heap.size + 3)) w lv (.slice ad N cap) ((a : Int)) xs pre2 W' ∧ W'.heap[D]? = some (.deferred (some [])))
        (fun c pre2 _ => c = .ret ∧ ¬ pre2 <+: xs)
        (OwnFrom.and (WI_own (Nat.le_refl _) (Nat.le_trans (by omega) (Nat.le_of_lt hlt2))) (ownFrom_heap hD3))
        (fun _ _ _ _ _ h _ _ => h)
        ⟨⟨List.nil_prefix, hbi2, hW2⟩, hKD⟩ (fun x => { tmps := #[.int .u8 a, .bool false, .int .i64 lv, .slice ad N cap, undef, undef, .pointer (some ⟨w.heap.size, 0, Option.none⟩), .pointer (some ⟨w.heap.size + 1, 0, Option.none⟩), .pointer (some ⟨w.heap.size + 2, 0, Option.none⟩), .func (.func 47) #[] #[.pointer (some ⟨w.heap.size + 3, 0, Option.none⟩)], .pointer (some ⟨w.heap.size + 4, 0, Option.none⟩), undef, .int .u8 (x : Nat), .int .u8 a, .func (.func 47) #[] #[.pointer (some ⟨w.heap.size + 3, 0, Option.none⟩)], .bool false, undef, undef, .func (.func 47) #[] #[.pointer (some ⟨w.heap.size + 3, 0, Option.none⟩)], .bool false, .func (.func 47) #[] #[.pointer (some ⟨w.heap.size + 3, 0, Option.none⟩)], undef, undef, undef, undef, undef, undef, undef, undef, undef, undef, undef, undef, undef, undef, undef, undef, undef, undef, .int .i64 (N : Nat), .int .i64 lv, .bool true, .bool true, .int .i64 (N : Nat), .slice ad N cap, .int .i64 (N : Nat), .bool false, .bool false, .func (.func 47) #[] #[.pointer (some ⟨w.heap.size + 3, 0, Option.none⟩)], .int .u8 (x : Nat), undef, undef, undef, undef, undef, undef, undef, undef, undef, undef, undef, undef, undef, undef, undef, undef, undef, undef], defers := [] }) ?assign2 ?body2 ?done2 ?stop2
      case assign2 =>
        intro l x W K hK
        simp only [encN]
        gi_wp2
        exact hK
      case body2 =>
        rintro l pre x W ⟨⟨hpre, hbi, hW⟩, hKx⟩ hlt
        have hsz := hW.2.2.2.2.size
        obtain ⟨hb1, hb2, hb3, hb4, hB⟩ := hW
        have hci := hbi.cell
        have hfi := hbi.frozen
        have hc2 := hb2.cell
        have hc3 := hb3.cell
        have hf3 := hb3.frozen
        have hpl := hpre.length_le
        have HP := Lib.hid hpre
        clear hpre
        by_cases hin : pre.length < N
        · obtain ⟨b, o, rfl, hcw⟩ := HC.out pre.length hin
          have hcell := (hB.cell (p := ⟨b, o + pre.length, Option.none⟩) (cell_lt hcw)).trans hcw
          have HPS := Lib.hid (pre_snoc HP.out x)
          obtain ⟨y, hy⟩ : ∃ y, y = xs.getD pre.length 0 := ⟨_, rfl⟩
          have HY := Lib.hid hy
          rw [← hy] at hcell
          clear hy hcw
          by_cases hxy : y = x
          · have hne : (((x : Nat) : Int) != ((y : Nat) : Int)) = false := by rw [hxy]; simp
            have HPX : Hid (pre ++ [x] <+: xs) := Lib.hid (HPS.out.2 ⟨by rw [← HN.out]; exact hin, by rw [← HY.out]; exact hxy⟩)
            clear hxy
            gi_wp2
            have hbi3 := hbi.set (.int .i64 ((pre.length : Nat) + 1 : Int))
            refine ⟨(KeepsOthers.setCell _ _ _).from _, ?_, ⟨HPX.out, ?_, ?_⟩, (KeepsOthers.setCell _ _ _).same D _ hKx rfl⟩
            · exact ((hb4.other (B' := (w.heap.size + 4)) (by omega) _).cell).trans hb4.cell.symm
            · simpa using hbi3
            · exact WS.other ⟨hb1, hb2, hb3, hb4, hB⟩ (by omega) (by omega) _
          · have hne : (((x : Nat) : Int) != ((y : Nat) : Int)) = true := by rw [bne_iff_ne]; omega
            have HPX : Hid (¬ pre ++ [x] <+: xs) := Lib.hid (fun h => hxy (by rw [HY.out]; exact (HPS.out.1 h).2))
            clear hxy
            gi_wp2
            exact ⟨(KeepsOthers.setCell _ _ _).from _, rfl, HPX.out⟩
        · have HPX : Hid (¬ pre ++ [x] <+: xs) := Lib.hid (fun h => hin (by rw [HN.out]; exact ((pre_snoc HP.out x).1 h).1))
          gi_wp2
          exact ⟨(KeepsOthers.setCell _ _ _).from _, rfl, HPX.out⟩
      case done2 =>
        rintro D2 ys W2 hDD rfl ⟨⟨hpre2, hbx, hWx⟩, hKx⟩ hKy
        have hNx := HXS.out.symm
        rw [hNx, ← HN.out] at hbx
        have hsy := hWx.2.2.2.2.size
        obtain ⟨hb1, hb2, hb3, hb4, hB⟩ := hWx
        have hcx := hbx.cell
        have hc2 := hb2.cell
        have hc3 := hb3.cell
        have hf3 := hb3.frozen
        have HNX := Lib.hid hNx
        have hDne : D2 ≠ D := fun e => Nat.lt_irrefl _ (e ▸ Nat.lt_of_lt_of_le hD3 hDD)
        have hDDk := hDD
        clear hNx hpre2 hDD
        gi_wp2
        have hb3' := hb3.set (.bool true)
        have hKy2 := (KeepsOthers.setCell W2 ⟨w.heap.size + 2, 0, Option.none⟩ (.bool true)).same D2 _ hKy rfl
        have hKx2 := (KeepsOthers.setCell W2 ⟨w.heap.size + 2, 0, Option.none⟩ (.bool true)).same D _ hKx rfl
        have hlD := (Array.getElem?_eq_some_iff.1 hKx2).1
        have hKx3 := (World.putObj_heap_other (o := .deferred Option.none) (fun e => hDne e.symm)).trans hKx2
        have hBs := hB.setCell (p := ⟨w.heap.size + 2, 0, Option.none⟩) (by simp) (.bool true)
        obtain ⟨W3, hW3⟩ : ∃ W3, W3 = W2.setCell ⟨w.heap.size + 2, 0, Option.none⟩ (.bool true) := ⟨_, rfl⟩
        rw [← hW3] at hb3' hKy2 hKx2 hKx3 hBs
        have hnD : w.heap.size + 2 ≠ D := by omega
        have hnD2 : w.heap.size + 2 ≠ D2 := fun e => by have := Nat.lt_of_lt_of_le hD3 hDDk; omega
        have hbz : ((W3.putObj D2 (.deferred Option.none)).putObj D (.deferred Option.none)).cell? ⟨w.heap.size + 2, 0, Option.none⟩ = some (.bool true) := by
          refine Boxed.cell (t := 4) ?_
          exact (World.putObj_heap_other hnD).trans ((World.putObj_heap_other hnD2).trans hb3')
        have hBz : Below w.heap.size w ((W3.putObj D2 (.deferred Option.none)).putObj D (.deferred Option.none)) :=
          (hBs.trans (belowK_b (w := w) (Nat.le_refl _) _ D2 _ _ (by have := Nat.lt_of_lt_of_le hD3 hDDk; omega) hKy2 rfl rfl)).trans (belowK_b (w := w) (Nat.le_refl _) _ D _ _ (by omega) hKx3 rfl rfl)
        subst hW3
        exact ⟨by simp, .inl ⟨_, _, rfl, run_takeDeferred hKy2, ⟨by simp, .inl ⟨_, _, rfl, run_takeDeferred hKx3, ⟨_, by simp only [results, Try.results33]; simp [go_sem, hbz], rfl, hBz⟩⟩⟩⟩⟩
      case stop2 =>
        rintro D c pre W _ hSp ⟨_, hn⟩ _
        exact absurd (HXS.out ▸ hSp) hn
  case stop =>
    rintro D c pre W hD hSp hI hK
    have hD2 : w.heap.size + 4 + 1 ≤ D := by rw [hx0.2.2] at hD; exact hD
    rcases hI with ⟨_, hn⟩ | ⟨rfl, hlv0, hpre, hbi, hW⟩
    · exact absurd (HXS.out ▸ hSp) hn
    · have hlv : (((pre.length : Nat) : Int) != lv) = false := by rw [hlv0]; simp
      have HLV := Lib.hid hlv0
      have HPR := Lib.hid hpre
      clear hlv0 hpre hSp hD
      have hsz := hW.2.2.2.2.size
      have hci := hbi.cell
      have hfi := hbi.frozen
      have hc1 := hW.1.cell
      have hc2 := hW.2.1.cell
      gi_wp2
      have hbi2 := hbi.set (.int .i64 0)
      have hW2 := hW.other (Bi := (w.heap.size + 4)) (by omega) (by omega) (.int .i64 0)
      have hKD : (W.setCell ⟨(w.heap.size + 4), 0, Option.none⟩ (.int .i64 0)).heap[D]? = some (.deferred (some [])) := (KeepsOthers.setCell W ⟨(w.heap.size + 4), 0, Option.none⟩ (.int .i64 0)).same D _ hK rfl
      have hlt2 := hW2.2.2.2.1.lt
      have hD3 : D < (W.setCell ⟨(w.heap.size + 4), 0, Option.none⟩ (.int .i64 0)).heap.size := (Array.getElem?_eq_some_iff.1 hKD).1
      refine wpIn_rangeFunc_ownG rfl (by omega) (gf := 47) (lb := #[.pointer (some ⟨(w.heap.size + 3), 0, Option.none⟩)]) rfl trivial (enters_of Try.func47 (by kernel_rfl) rfl) (encs := encN)
        (eachN_stops 8 a ha _ _ hlt2 hW2.2.2.2.1.cell) Kc_t (Kc_b hlt2) (Below.refl _ _) (fun _ => rfl)
        (fun pre2 W' => WI w.heap.size ((w.heap.size + 4)) ((w.heap.size + 3)) w lv (.slice ad N cap) ((a : Int)) xs pre2 W' ∧ W'.heap[D]? = some (.deferred (some [])))
        (fun c pre2 _ => c = .ret ∧ ¬ pre2 <+: xs)
        (OwnFrom.and (WI_own (Nat.le_refl _) (Nat.le_trans (by omega) (Nat.le_of_lt hlt2))) (ownFrom_heap hD3))
        (fun _ _ _ _ _ h _ _ => h)
        ⟨⟨List.nil_prefix, hbi2, hW2⟩, hKD⟩ (fun x => { tmps := #[.int .u8 a, .bool false, .int .i64 lv, .slice ad N cap, undef, undef, .pointer (some ⟨w.heap.size, 0, Option.none⟩), .pointer (some ⟨w.heap.size + 1, 0, Option.none⟩), .pointer (some ⟨w.heap.size + 2, 0, Option.none⟩), .func (.func 47) #[] #[.pointer (some ⟨w.heap.size + 3, 0, Option.none⟩)], .pointer (some ⟨w.heap.size + 4, 0, Option.none⟩), undef, .int .u8 (x : Nat), .int .u8 a, .func (.func 47) #[] #[.pointer (some ⟨w.heap.size + 3, 0, Option.none⟩)], .bool false, undef, undef, .func (.func 47) #[] #[.pointer (some ⟨w.heap.size + 3, 0, Option.none⟩)], .bool false, .func (.func 47) #[] #[.pointer (some ⟨w.heap.size + 3, 0, Option.none⟩)], undef, undef, undef, undef, undef, undef, undef, undef, undef, undef, undef, undef, undef, undef, undef, undef, undef, undef, .int .i64 (pre.length : Nat), .int .i64 lv, .bool false, .bool false, undef, undef, undef, undef, .bool false, .func (.func 47) #[] #[.pointer (some ⟨w.heap.size + 3, 0, Option.none⟩)], .int .u8 (x : Nat), undef, undef, undef, undef, undef, undef, undef, undef, undef, undef, undef, undef, undef, undef, undef, undef, undef, undef], defers := [] }) ?assign3 ?body3 ?done3 ?stop3
      case assign3 =>
        intro l x W K hK
        simp only [encN]
        gi_wp2
        exact hK
      case body3 =>
        rintro l pre x W ⟨⟨hpre, hbi, hW⟩, hKx⟩ hlt
        have hsz := hW.2.2.2.2.size
        obtain ⟨hb1, hb2, hb3, hb4, hB⟩ := hW
        have hci := hbi.cell
        have hfi := hbi.frozen
        have hc2 := hb2.cell
        have hc3 := hb3.cell
        have hf3 := hb3.frozen
        have hpl := hpre.length_le
        have HP := Lib.hid hpre
        clear hpre
        by_cases hin : pre.length < N
        · obtain ⟨b, o, rfl, hcw⟩ := HC.out pre.length hin
          have hcell := (hB.cell (p := ⟨b, o + pre.length, Option.none⟩) (cell_lt hcw)).trans hcw
          have HPS := Lib.hid (pre_snoc HP.out x)
          obtain ⟨y, hy⟩ : ∃ y, y = xs.getD pre.length 0 := ⟨_, rfl⟩
          have HY := Lib.hid hy
          rw [← hy] at hcell
          clear hy hcw
          by_cases hxy : y = x
          · have hne : (((x : Nat) : Int) != ((y : Nat) : Int)) = false := by rw [hxy]; simp
            have HPX : Hid (pre ++ [x] <+: xs) := Lib.hid (HPS.out.2 ⟨by rw [← HN.out]; exact hin, by rw [← HY.out]; exact hxy⟩)
            clear hxy
            gi_wp2
            have hbi3 := hbi.set (.int .i64 ((pre.length : Nat) + 1 : Int))
            refine ⟨(KeepsOthers.setCell _ _ _).from _, ?_, ⟨HPX.out, ?_, ?_⟩, (KeepsOthers.setCell _ _ _).same D _ hKx rfl⟩
            · exact ((hb4.other (B' := (w.heap.size + 4)) (by omega) _).cell).trans hb4.cell.symm
            · simpa using hbi3
            · exact WS.other ⟨hb1, hb2, hb3, hb4, hB⟩ (by omega) (by omega) _
          · have hne : (((x : Nat) : Int) != ((y : Nat) : Int)) = true := by rw [bne_iff_ne]; omega
            have HPX : Hid (¬ pre ++ [x] <+: xs) := Lib.hid (fun h => hxy (by rw [HY.out]; exact (HPS.out.1 h).2))
            clear hxy
            gi_wp2
            exact ⟨(KeepsOthers.setCell _ _ _).from _, rfl, HPX.out⟩
        · have HPX : Hid (¬ pre ++ [x] <+: xs) := Lib.hid (fun h => hin (by rw [HN.out]; exact ((pre_snoc HP.out x).1 h).1))
          gi_wp2
          exact ⟨(KeepsOthers.setCell _ _ _).from _, rfl, HPX.out⟩
      case done3 =>
        rintro D2 ys W2 hDD rfl ⟨⟨hpre2, hbx, hWx⟩, hKx⟩ hKy
        have hNx := HXS.out.symm
        rw [hNx, ← HN.out] at hbx
        have hsy := hWx.2.2.2.2.size
        obtain ⟨hb1, hb2, hb3, hb4, hB⟩ := hWx
        have hcx := hbx.cell
        have hc2 := hb2.cell
        have hc3 := hb3.cell
        have hf3 := hb3.frozen
        have HNX := Lib.hid hNx
        have hDne : D2 ≠ D := fun e => Nat.lt_irrefl _ (e ▸ Nat.lt_of_lt_of_le hD3 hDD)
        have hDDk := hDD
        clear hNx hpre2 hDD
        gi_wp2
        have hb3' := hb3.set (.bool true)
        have hKy2 := (KeepsOthers.setCell W2 ⟨w.heap.size + 2, 0, Option.none⟩ (.bool true)).same D2 _ hKy rfl
        have hKx2 := (KeepsOthers.setCell W2 ⟨w.heap.size + 2, 0, Option.none⟩ (.bool true)).same D _ hKx rfl
        have hlD := (Array.getElem?_eq_some_iff.1 hKx2).1
        have hKx3 := (World.putObj_heap_other (o := .deferred Option.none) (fun e => hDne e.symm)).trans hKx2
        have hBs := hB.setCell (p := ⟨w.heap.size + 2, 0, Option.none⟩) (by simp) (.bool true)
        obtain ⟨W3, hW3⟩ : ∃ W3, W3 = W2.setCell ⟨w.heap.size + 2, 0, Option.none⟩ (.bool true) := ⟨_, rfl⟩
        rw [← hW3] at hb3' hKy2 hKx2 hKx3 hBs
        have hnD : w.heap.size + 2 ≠ D := by omega
        have hnD2 : w.heap.size + 2 ≠ D2 := fun e => by have := Nat.lt_of_lt_of_le hD3 hDDk; omega
        have hbz : ((W3.putObj D2 (.deferred Option.none)).putObj D (.deferred Option.none)).cell? ⟨w.heap.size + 2, 0, Option.none⟩ = some (.bool true) := by
          refine Boxed.cell (t := 4) ?_
          exact (World.putObj_heap_other hnD).trans ((World.putObj_heap_other hnD2).trans hb3')
        have hBz : Below w.heap.size w ((W3.putObj D2 (.deferred Option.none)).putObj D (.deferred Option.none)) :=
          (hBs.trans (belowK_b (w := w) (Nat.le_refl _) _ D2 _ _ (by have := Nat.lt_of_lt_of_le hD3 hDDk; omega) hKy2 rfl rfl)).trans (belowK_b (w := w) (Nat.le_refl _) _ D _ _ (by omega) hKx3 rfl rfl)
        subst hW3
        exact ⟨by simp, .inl ⟨_, _, rfl, run_takeDeferred hKy2, ⟨by simp, .inl ⟨_, _, rfl, run_takeDeferred hKx3, ⟨_, by simp only [results, Try.results33]; simp [go_sem, hbz], rfl, hBz⟩⟩⟩⟩⟩
      case stop3 =>
        rintro D c pre W _ hSp ⟨_, hn⟩ _
        exact absurd (HXS.out ▸ hSp) hn

set_option maxRecDepth 100000 in
set_option maxHeartbeats 4000000 in
theorem walk_within (a : Nat) (ha : a < 256) (lv : Int) (hl1 : -9223372036854775808 ≤ lv) (hl2 : lv ≤ 9223372036854775807) (want : Value) (w : World) (B0 : Nat) (hB0 : B0 ≤ w.heap.size) (hw : OwnU8 B0 w want (withinTo a 64)) :
    Calls Try.prog 33 #[.int .u8 a, .bool true, .int .i64 lv, want] w fun e w' => e = .returned (.bool true) ∧ Below w.heap.size w w' := by
  refine (callsIn_wide (n := 9)).1 ?_
  obtain ⟨xs, hxs⟩ : ∃ xs, xs = withinTo a 64 := ⟨_, rfl⟩
  have hlen : xs.length ≤ 64 := by rw [hxs]; exact withinTo_le a 64
  have HXS := Lib.hid hxs
  rw [← hxs] at hw
  clear hxs
  have hu := own_u8 hw (by omega)
  obtain ⟨h1, h2, h3⟩ := hu
  obtain ⟨N, hN⟩ : ∃ N, N = xs.length := ⟨_, rfl⟩
  obtain ⟨ad, cap, rfl, hc⟩ : ∃ a cap, want = .slice a N cap ∧ ∀ j, j < N → ∃ b o, a = some ⟨b, o, Option.none⟩ ∧ w.cell? ⟨b, o + j, Option.none⟩ = some (.int .u8 (xs.getD j 0 : Nat)) := by
    rcases h3 with ⟨rfl, a, cap, rfl, _⟩ | ⟨b, o, cap, rfl, hc⟩
    · exact ⟨_, _, by rw [hN]; rfl, fun j hj => absurd hj (by rw [hN]; simp)⟩
    · exact ⟨_, cap, by rw [hN], fun j hj => ⟨b, o, rfl, hc j (by omega)⟩⟩
  have HN := Lib.hid hN
  have HC := Lib.hid hc
  rw [← hN] at hlen
  clear hN hc h1 h2 h3 hw
  refine callsIn_of_wp_marks Try.func33 rfl trivial ?_ rfl
  simp only [Try.ntmps33, List.size_toArray, List.length_cons, List.length_nil, Nat.reduceAdd, Nat.reduceSub, Array.replicate_succ, Array.replicate_zero, List.push_toArray, List.append_toArray, List.nil_append, List.cons_append]
  have hq := eql_nilFunc
  gi_wp2_with (first | (refine ⟨trivial, ?_⟩; gi_at_call 37; refine (callsIn_wide.2 (each_any a _)).mono ?_; rintro e w' ⟨rfl, rfl⟩) | (refine ⟨trivial, ?_⟩; gi_at_call 36; refine (callsIn_wide.2 (within_any a ha _)).mono ?_; rintro e w' ⟨rfl, rfl⟩))
  have hx0 : (Boxed ((((((w.alloc (.cells #[.int .i64 lv] 3)).alloc (.cells #[.slice ad N cap] 33)).alloc (.cells #[.bool false] 4)).alloc (.cells #[.int .u8 a] 22)).alloc (.cells #[.int .u8 ((a : Int) % 64)] 22)).alloc (.cells #[.int .i64 0] 3)) (w.heap.size + 5) 3 (.int .i64 0)) ∧ WS w.heap.size (w.heap.size + 4) w lv (.slice ad N cap) ((a : Int) % 64) ((((((w.alloc (.cells #[.int .i64 lv] 3)).alloc (.cells #[.slice ad N cap] 33)).alloc (.cells #[.bool false] 4)).alloc (.cells #[.int .u8 a] 22)).alloc (.cells #[.int .u8 ((a : Int) % 64)] 22)).alloc (.cells #[.int .i64 0] 3)) ∧ ((((((w.alloc (.cells #[.int .i64 lv] 3)).alloc (.cells #[.slice ad N cap] 33)).alloc (.cells #[.bool false] 4)).alloc (.cells #[.int .u8 a] 22)).alloc (.cells #[.int .u8 ((a : Int) % 64)] 22)).alloc (.cells #[.int .i64 0] 3)).heap.size = w.heap.size + 5 + 1 := by
    refine ⟨(boxed_here _ _ _ _ (by simp)), ⟨((((((boxed_here _ _ _ _ (by simp)).alloc _).alloc _).alloc _).alloc _).alloc _), (((((boxed_here _ _ _ _ (by simp)).alloc _).alloc _).alloc _).alloc _), ((((boxed_here _ _ _ _ (by simp)).alloc _).alloc _).alloc _), ((boxed_here _ _ _ _ (by simp)).alloc _), ?_⟩, by simp⟩
    exact (((((((Below.refl _ _).alloc (by simp <;> omega) _).alloc (by simp <;> omega) _).alloc (by simp <;> omega) _).alloc (by simp <;> omega) _).alloc (by simp <;> omega) _).alloc (by simp <;> omega) _)
  refine wpIn_rangeFunc_ownG rfl (by omega) (gf := 45) (lb := #[.pointer (some ⟨w.heap.size + 4, 0, Option.none⟩)]) rfl trivial (enters_of Try.func45 (by kernel_rfl) rfl) (encs := encN)
    (within_stops 8 (by omega) a ha _ _ (by simp <;> omega) (by rw [show (((a % 64 : Nat) : Int)) = (a : Int) % 64 from by omega]; exact hx0.2.1.2.2.2.1.cell)) Kc_t (Kc_b (by rw [hx0.2.2]; omega)) (Below.refl _ _) (fun _ => rfl)
    (WI w.heap.size (w.heap.size + 5) (w.heap.size + 4) w lv (.slice ad N cap) ((a : Int) % 64) xs)
    (fun c pre W => (c = .ret ∧ ¬ pre <+: xs) ∨ (c = .exit 0 ∧ (pre.length : Int) = lv ∧ WI w.heap.size (w.heap.size + 5) (w.heap.size + 4) w lv (.slice ad N cap) ((a : Int) % 64) xs pre W))
    (WI_own (Nat.le_refl _) (by rw [hx0.2.2]; omega))
    (fun c s A B row hs hg hr => hs.imp id fun h => ⟨h.1, h.2.1, WI_own (Nat.le_refl _) (by rw [hx0.2.2]; omega) s A B row h.2.2 hg hr⟩)
    ⟨List.nil_prefix, hx0.1, hx0.2.1⟩ (fun x => { tmps := #[.int .u8 a, .bool true, .int .i64 lv, .slice ad N cap, undef, undef, .pointer (some ⟨w.heap.size, 0, Option.none⟩), .pointer (some ⟨w.heap.size + 1, 0, Option.none⟩), .pointer (some ⟨w.heap.size + 2, 0, Option.none⟩), .func (.func 45) #[] #[.pointer (some ⟨w.heap.size + 4, 0, Option.none⟩)], .pointer (some ⟨w.heap.size + 5, 0, Option.none⟩), .int .u8 (x : Nat), undef, .int .u8 a, .func (.func 47) #[] #[.pointer (some ⟨w.heap.size + 3, 0, Option.none⟩)], .bool true, .int .u8 a, .func (.func 45) #[] #[.pointer (some ⟨w.heap.size + 4, 0, Option.none⟩)], .func (.func 45) #[] #[.pointer (some ⟨w.heap.size + 4, 0, Option.none⟩)], .bool false, .func (.func 45) #[] #[.pointer (some ⟨w.heap.size + 4, 0, Option.none⟩)], .int .u8 (x : Nat), undef, undef, undef, undef, undef, undef, undef, undef, undef, undef, undef, undef, undef, undef, undef, undef, undef, undef, undef, undef, undef, undef, undef, undef, undef, undef, undef, undef, undef, undef, undef, undef, undef, undef, undef, undef, undef, undef, undef, undef, undef, undef, undef, undef, undef, undef], defers := [] }) ?assign ?body ?done ?stop
  case assign =>
    intro l x W K hK
    simp only [encN]
    gi_wp2
    exact hK
  case body =>
    rintro l pre x W ⟨hpre, hbi, hW⟩ hlt
    have hsz := hW.2.2.2.2.size
    obtain ⟨hb1, hb2, hb3, hb4, hB⟩ := hW
    have hci := hbi.cell
    have hfi := hbi.frozen
    have hc1 := hb1.cell
    have hc2 := hb2.cell
    have hc3 := hb3.cell
    have hf3 := hb3.frozen
    have hpl := hpre.length_le
    have HP := Lib.hid hpre
    clear hpre
    by_cases hin : pre.length < N
    · obtain ⟨b, o, rfl, hcw⟩ := HC.out pre.length hin
      have hcell := (hB.cell (p := ⟨b, o + pre.length, Option.none⟩) (cell_lt hcw)).trans hcw
      have HPS := Lib.hid (pre_snoc HP.out x)
      obtain ⟨y, hy⟩ : ∃ y, y = xs.getD pre.length 0 := ⟨_, rfl⟩
      have HY := Lib.hid hy
      rw [← hy] at hcell
      clear hy hcw
      by_cases hxy : y = x
      · have hne : (((x : Nat) : Int) != ((y : Nat) : Int)) = false := by rw [hxy]; simp
        have HPX : Hid (pre ++ [x] <+: xs) := Lib.hid (HPS.out.2 ⟨by rw [← HN.out]; exact hin, by rw [← HY.out]; exact hxy⟩)
        clear hxy
        cases hlv : (((pre.length : Nat) : Int) + 1 == lv)
        · gi_wp2
          have hbi2 := hbi.set (.int .i64 ((pre.length : Nat) + 1 : Int))
          refine ⟨(KeepsOthers.setCell _ _ _).from _, ?_, HPX.out, ?_, ?_⟩
          · exact ((hb4.other (B' := w.heap.size + 5) (by omega) _).cell).trans hb4.cell.symm
          · simpa using hbi2
          · exact WS.other ⟨hb1, hb2, hb3, hb4, hB⟩ (by omega) (by omega) _
        · gi_wp2
          have hbi2 := hbi.set (.int .i64 ((pre.length : Nat) + 1 : Int))
          refine ⟨(KeepsOthers.setCell _ _ _).from _, .inr ⟨rfl, by have := eq_of_beq hlv; simp; omega, HPX.out, by simpa using hbi2, WS.other ⟨hb1, hb2, hb3, hb4, hB⟩ (by omega) (by omega) _⟩⟩
      · have hne : (((x : Nat) : Int) != ((y : Nat) : Int)) = true := by rw [bne_iff_ne]; omega
        have HPX : Hid (¬ pre ++ [x] <+: xs) := Lib.hid (fun h => hxy (by rw [HY.out]; exact (HPS.out.1 h).2))
        clear hxy
        gi_wp2
        exact ⟨(KeepsOthers.setCell _ _ _).from _, .inl ⟨rfl, HPX.out⟩⟩
    · have HPX : Hid (¬ pre ++ [x] <+: xs) := Lib.hid (fun h => hin (by rw [HN.out]; exact ((pre_snoc HP.out x).1 h).1))
      gi_wp2
      exact ⟨(KeepsOthers.setCell _ _ _).from _, .inl ⟨rfl, HPX.out⟩⟩
  case done =>
    rintro D ys W hD rfl hI hK
    have hD2 : w.heap.size + 5 + 1 ≤ D := by rw [hx0.2.2] at hD; exact hD
    obtain ⟨hpre, hbi, hW⟩ := hI
    have hNx := HXS.out.symm
    rw [hNx] at hbi hpre
    have HPR := Lib.hid hpre
    rw [← HN.out] at hbi
    clear hpre hD hNx
    cases hlv : (((N : Nat) : Int) != lv)
    · have hsz := hW.2.2.2.2.size
      have hci := hbi.cell
      have hfi := hbi.frozen
      have hc1 := hW.1.cell
      have hc2 := hW.2.1.cell
      gi_wp2
      have hbi2 := hbi.set (.int .i64 0)
      have hW2 := hW.other (Bi := (w.heap.size + 5)) (by omega) (by omega) (.int .i64 0)
      have hKD : (W.setCell ⟨(w.heap.size + 5), 0, Option.none⟩ (.int .i64 0)).heap[D]? = some (.deferred (some [])) := (KeepsOthers.setCell W ⟨(w.heap.size + 5), 0, Option.none⟩ (.int .i64 0)).same D _ hK rfl
      have hlt2 := hW2.2.2.2.1.lt
      have hD3 : D < (W.setCell ⟨(w.heap.size + 5), 0, Option.none⟩ (.int .i64 0)).heap.size := (Array.getElem?_eq_some_iff.1 hKD).1
      refine wpIn_rangeFunc_ownG rfl (by omega) (gf := 45) (lb := #[.pointer (some ⟨(w.heap.size + 4), 0, Option.none⟩)]) rfl trivial (enters_of Try.func45 (by kernel_rfl) rfl) (encs := encN)
        (within_stops 8 (by omega) a ha _ _ hlt2 (by rw [show (((a % 64 : Nat) : Int)) = (a : Int) % 64 from by omega]; exact hW2.2.2.2.1.cell)) Kc_t (Kc_b hlt2) (Below.refl _ _) (fun _ => rfl)
        (fun pre2 W' => WI w.heap.size ((w.heap.size + 5)) ((w.heap.size + 4)) w lv (.slice ad N cap) ((a : Int) % 64) xs pre2 W' ∧ W'.heap[D]? = some (.deferred (some [])))
        (fun c pre2 _ => c = .ret ∧ ¬ pre2 <+: xs)
        (OwnFrom.and (WI_own (Nat.le_refl _) (Nat.le_trans (by omega) (Nat.le_of_lt hlt2))) (ownFrom_heap hD3))
        (fun _ _ _ _ _ h _ _ => h)
        ⟨⟨List.nil_prefix, hbi2, hW2⟩, hKD⟩ (fun x => { tmps := #[.int .u8 a, .bool true, .int .i64 lv, .slice ad N cap, undef, undef, .pointer (some ⟨w.heap.size, 0, Option.none⟩), .pointer (some ⟨w.heap.size + 1, 0, Option.none⟩), .pointer (some ⟨w.heap.size + 2, 0, Option.none⟩), .func (.func 45) #[] #[.pointer (some ⟨w.heap.size + 4, 0, Option.none⟩)], .pointer (some ⟨w.heap.size + 5, 0, Option.none⟩), undef, .int .u8 (x : Nat), .int .u8 a, .func (.func 47) #[] #[.pointer (some ⟨w.heap.size + 3, 0, Option.none⟩)], .bool true, .int .u8 a, .func (.func 45) #[] #[.pointer (some ⟨w.heap.size + 4, 0, Option.none⟩)], .func (.func 45) #[] #[.pointer (some ⟨w.heap.size + 4, 0, Option.none⟩)], .bool false, .func (.func 45) #[] #[.pointer (some ⟨w.heap.size + 4, 0, Option.none⟩)], undef, undef, undef, undef, undef, undef, undef, undef, undef, undef, undef, undef, undef, undef, undef, undef, undef, undef, .int .i64 (N : Nat), .int .i64 lv, .bool false, .bool false, undef, undef, undef, undef, .bool false, .func (.func 45) #[] #[.pointer (some ⟨w.heap.size + 4, 0, Option.none⟩)], .int .u8 (x : Nat), undef, undef, undef, undef, undef, undef, undef, undef, undef, undef, undef, undef, undef, undef, undef, undef, undef, undef], defers := [] }) ?assign1 ?body1 ?done1 ?stop1
      case assign1 =>
        intro l x W K hK
        simp only [encN]
        gi_wp2
        exact hK
      case body1 =>
        rintro l pre x W ⟨⟨hpre, hbi, hW⟩, hKx⟩ hlt
        have hsz := hW.2.2.2.2.size
        obtain ⟨hb1, hb2, hb3, hb4, hB⟩ := hW
        have hci := hbi.cell
        have hfi := hbi.frozen
        have hc2 := hb2.cell
        have hc3 := hb3.cell
        have hf3 := hb3.frozen
        have hpl := hpre.length_le
        have HP := Lib.hid hpre
        clear hpre
        by_cases hin : pre.length < N
        · obtain ⟨b, o, rfl, hcw⟩ := HC.out pre.length hin
          have hcell := (hB.cell (p := ⟨b, o + pre.length, Option.none⟩) (cell_lt hcw)).trans hcw
          have HPS := Lib.hid (pre_snoc HP.out x)
          obtain ⟨y, hy⟩ : ∃ y, y = xs.getD pre.length 0 := ⟨_, rfl⟩
          have HY := Lib.hid hy
          rw [← hy] at hcell
          clear hy hcw
          by_cases hxy : y = x
          · have hne : (((x : Nat) : Int) != ((y : Nat) : Int)) = false := by rw [hxy]; simp
            have HPX : Hid (pre ++ [x] <+: xs) := Lib.hid (HPS.out.2 ⟨by rw [← HN.out]; exact hin, by rw [← HY.out]; exact hxy⟩)
            clear hxy
            gi_wp2
            have hbi3 := hbi.set (.int .i64 ((pre.length : Nat) + 1 : Int))
            refine ⟨(KeepsOthers.setCell _ _ _).from _, ?_, ⟨HPX.out, ?_, ?_⟩, (KeepsOthers.setCell _ _ _).same D _ hKx rfl⟩
            · exact ((hb4.other (B' := (w.heap.size + 5)) (by omega) _).cell).trans hb4.cell.symm
            · simpa using hbi3
            · exact WS.other ⟨hb1, hb2, hb3, hb4, hB⟩ (by omega) (by omega) _
          · have hne : (((x : Nat) : Int) != ((y : Nat) : Int)) = true := by rw [bne_iff_ne]; omega
            have HPX : Hid (¬ pre ++ [x] <+: xs) := Lib.hid (fun h => hxy (by rw [HY.out]; exact (HPS.out.1 h).2))
            clear hxy
            gi_wp2
            exact ⟨(KeepsOthers.setCell _ _ _).from _, rfl, HPX.out⟩
        · have HPX : Hid (¬ pre ++ [x] <+: xs) := Lib.hid (fun h => hin (by rw [HN.out]; exact ((pre_snoc HP.out x).1 h).1))
          gi_wp2
          exact ⟨(KeepsOthers.setCell _ _ _).from _, rfl, HPX.out⟩
      case done1 =>
        rintro D2 ys W2 hDD rfl ⟨⟨hpre2, hbx, hWx⟩, hKx⟩ hKy
        have hNx := HXS.out.symm
        rw [hNx, ← HN.out] at hbx
        have hsy := hWx.2.2.2.2.size
        obtain ⟨hb1, hb2, hb3, hb4, hB⟩ := hWx
        have hcx := hbx.cell
        have hc2 := hb2.cell
        have hc3 := hb3.cell
        have hf3 := hb3.frozen
        have HNX := Lib.hid hNx
        have hDne : D2 ≠ D := fun e => Nat.lt_irrefl _ (e ▸ Nat.lt_of_lt_of_le hD3 hDD)
        have hDDk := hDD
        clear hNx hpre2 hDD
        gi_wp2
        have hb3' := hb3.set (.bool true)
        have hKy2 := (KeepsOthers.setCell W2 ⟨w.heap.size + 2, 0, Option.none⟩ (.bool true)).same D2 _ hKy rfl
        have hKx2 := (KeepsOthers.setCell W2 ⟨w.heap.size + 2, 0, Option.none⟩ (.bool true)).same D _ hKx rfl
        have hlD := (Array.getElem?_eq_some_iff.1 hKx2).1
        have hKx3 := (World.putObj_heap_other (o := .deferred Option.none) (fun e => hDne e.symm)).trans hKx2
        have hBs := hB.setCell (p := ⟨w.heap.size + 2, 0, Option.none⟩) (by simp) (.bool true)
        obtain ⟨W3, hW3⟩ : ∃ W3, W3 = W2.setCell ⟨w.heap.size + 2, 0, Option.none⟩ (.bool true) := ⟨_, rfl⟩
        rw [← hW3] at hb3' hKy2 hKx2 hKx3 hBs
        have hnD : w.heap.size + 2 ≠ D := by omega
        have hnD2 : w.heap.size + 2 ≠ D2 := fun e => by have := Nat.lt_of_lt_of_le hD3 hDDk; omega
        have hbz : ((W3.putObj D2 (.deferred Option.none)).putObj D (.deferred Option.none)).cell? ⟨w.heap.size + 2, 0, Option.none⟩ = some (.bool true) := by
          refine Boxed.cell (t := 4) ?_
          exact (World.putObj_heap_other hnD).trans ((World.putObj_heap_other hnD2).trans hb3')
        have hBz : Below w.heap.size w ((W3.putObj D2 (.deferred Option.none)).putObj D (.deferred Option.none)) :=
          (hBs.trans (belowK_b (w := w) (Nat.le_refl _) _ D2 _ _ (by have := Nat.lt_of_lt_of_le hD3 hDDk; omega) hKy2 rfl rfl)).trans (belowK_b (w := w) (Nat.le_refl _) _ D _ _ (by omega) hKx3 rfl rfl)
        subst hW3
        exact ⟨by simp, .inl ⟨_, _, rfl, run_takeDeferred hKy2, ⟨by simp, .inl ⟨_, _, rfl, run_takeDeferred hKx3, ⟨_, by simp only [results, Try.results33]; simp [go_sem, hbz], rfl, hBz⟩⟩⟩⟩⟩
      case stop1 =>
        rintro D c pre W _ hSp ⟨_, hn⟩ _
        exact absurd (HXS.out ▸ hSp) hn
    · have hsz := hW.2.2.2.2.size
      have hci := hbi.cell
      have hfi := hbi.frozen
      have hc1 := hW.1.cell
      have hc2 := hW.2.1.cell
      gi_wp2
      have hbi2 := hbi.set (.int .i64 0)
      have hW2 := hW.other (Bi := (w.heap.size + 5)) (by omega) (by omega) (.int .i64 0)
      have hKD : (W.setCell ⟨(w.heap.size + 5), 0, Option.none⟩ (.int .i64 0)).heap[D]? = some (.deferred (some [])) := (KeepsOthers.setCell W ⟨(w.heap.size + 5), 0, Option.none⟩ (.int .i64 0)).same D _ hK rfl
      have hlt2 := hW2.2.2.2.1.lt
      have hD3 : D < (W.setCell ⟨(w.heap.size + 5), 0, Option.none⟩ (.int .i64 0)).heap.size := (Array.getElem?_eq_some_iff.1 hKD).1
      refine wpIn_rangeFunc_ownG rfl (by omega) (gf := 45) (lb := #[.pointer (some ⟨(w.heap.size + 4), 0, Option.none⟩)]) rfl trivial (enters_of Try.func45 (by kernel_rfl) rfl) (encs := encN)
        (within_stops 8 (by omega) a ha _ _ hlt2 (by rw [show (((a % 64 : Nat) : Int)) = (a : Int) % 64 from by omega]; exact hW2.2.2.2.1.cell)) Kc_t (Kc_b hlt2) (Below.refl _ _) (fun _ => rfl)
        (fun pre2 W' => WI w.heap.size ((w.heap.size + 5)) ((w.heap.size + 4)) w lv (.slice ad N cap) ((a : Int) % 64) xs pre2 W' ∧ W'.heap[D]? = some (.deferred (some [])))
        (fun c pre2 _ => c = .ret ∧ ¬ pre2 <+: xs)
        (OwnFrom.and (WI_own (Nat.le_refl _) (Nat.le_trans (by omega) (Nat.le_of_lt hlt2))) (ownFrom_heap hD3))
        (fun _ _ _ _ _ h _ _ => h)
        ⟨⟨List.nil_prefix, hbi2, hW2⟩, hKD⟩ (fun x => { tmps := #[.int .u8 a, .bool true, .int .i64 lv, .slice ad N cap, undef, undef, .pointer (some ⟨w.heap.size, 0, Option.none⟩), .pointer (some ⟨w.heap.size + 1, 0, Option.none⟩), .pointer (some ⟨w.heap.size + 2, 0, Option.none⟩), .func (.func 45) #[] #[.pointer (some ⟨w.heap.size + 4, 0, Option.none⟩)], .pointer (some ⟨w.heap.size + 5, 0, Option.none⟩), undef, .int .u8 (x : Nat), .int .u8 a, .func (.func 47) #[] #[.pointer (some ⟨w.heap.size + 3, 0, Option.none⟩)], .bool true, .int .u8 a, .func (.func 45) #[] #[.pointer (some ⟨w.heap.size + 4, 0, Option.none⟩)], .func (.func 45) #[] #[.pointer (some ⟨w.heap.size + 4, 0, Option.none⟩)], .bool false, .func (.func 45) #[] #[.pointer (some ⟨w.heap.size + 4, 0, Option.none⟩)], undef, undef, undef, undef, undef, undef, undef, undef, undef, undef, undef, undef, undef, undef, undef, undef, undef, undef, .int .i64 (N : Nat), .int .i64 lv, .bool true, .bool true, .int .i64 (N : Nat), .slice ad N cap, .int .i64 (N : Nat), .bool false, .bool false, .func (.func 45) #[] #[.pointer (some ⟨w.heap.size + 4, 0, Option.none⟩)], .int .u8 (x : Nat), undef, undef, undef, undef, undef, undef, undef, undef, undef, undef, undef, undef, undef, undef, undef, undef, undef, undef], defers := [] }) ?assign2 ?body2 ?done2 ?stop2
      case assign2 =>
        intro l x W K hK
        simp only [encN]
        gi_wp2
        exact hK
      case body2 =>
        rintro l pre x W ⟨⟨hpre, hbi, hW⟩, hKx⟩ hlt
        have hsz := hW.2.2.2.2.size
        obtain ⟨hb1, hb2, hb3, hb4, hB⟩ := hW
        have hci := hbi.cell
        have hfi := hbi.frozen
        have hc2 := hb2.cell
        have hc3 := hb3.cell
        have hf3 := hb3.frozen
        have hpl := hpre.length_le
        have HP := Lib.hid hpre
        clear hpre
        by_cases hin : pre.length < N
        · obtain ⟨b, o, rfl, hcw⟩ := HC.out pre.length hin
          have hcell := (hB.cell (p := ⟨b, o + pre.length, Option.none⟩) (cell_lt hcw)).trans hcw
          have HPS := Lib.hid (pre_snoc HP.out x)
          obtain ⟨y, hy⟩ : ∃ y, y = xs.getD pre.length 0 := ⟨_, rfl⟩
          have HY := Lib.hid hy
          rw [← hy] at hcell
          clear hy hcw
          by_cases hxy : y = x
          · have hne : (((x : Nat) : Int) != ((y : Nat) : Int)) = false := by rw [hxy]; simp
            have HPX : Hid (pre ++ [x] <+: xs) := Lib.hid (HPS.out.2 ⟨by rw [← HN.out]; exact hin, by rw [← HY.out]; exact hxy⟩)
            clear hxy
            gi_wp2
            have hbi3 := hbi.set (.int .i64 ((pre.length : Nat) + 1 : Int))
            refine ⟨(KeepsOthers.setCell _ _ _).from _, ?_, ⟨HPX.out, ?_, ?_⟩, (KeepsOthers.setCell _ _ _).same D _ hKx rfl⟩
            · exact ((hb4.other (B' := (w.heap.size + 5)) (by omega) _).cell).trans hb4.cell.symm
            · simpa using hbi3
            · exact WS.other ⟨hb1, hb2, hb3, hb4, hB⟩ (by omega) (by omega) _
          · have hne : (((x : Nat) : Int) != ((y : Nat) : Int)) = true := by rw [bne_iff_ne]; omega
            have HPX : Hid (¬ pre ++ [x] <+: xs) := Lib.hid (fun h => hxy (by rw [HY.out]; exact (HPS.out.1 h).2))
            clear hxy
            gi_wp2
            exact ⟨(KeepsOthers.setCell _ _ _).from _, rfl, HPX.out⟩
        · have HPX : Hid (¬ pre ++ [x] <+: xs) := Lib.hid (fun h => hin (by rw [HN.out]; exact ((pre_snoc HP.out x).1 h).1))
          gi_wp2
          exact ⟨(KeepsOthers.setCell _ _ _).from _, rfl, HPX.out⟩
      case done2 =>
        rintro D2 ys W2 hDD rfl ⟨⟨hpre2, hbx, hWx⟩, hKx⟩ hKy
        have hNx := HXS.out.symm
        rw [hNx, ← HN.out] at hbx
        have hsy := hWx.2.2.2.2.size
        obtain ⟨hb1, hb2, hb3, hb4, hB⟩ := hWx
        have hcx := hbx.cell
        have hc2 := hb2.cell
        have hc3 := hb3.cell
        have hf3 := hb3.frozen
        have HNX := Lib.hid hNx
        have hDne : D2 ≠ D := fun e => Nat.lt_irrefl _ (e ▸ Nat.lt_of_lt_of_le hD3 hDD)
        have hDDk := hDD
        clear hNx hpre2 hDD
        gi_wp2
        have hb3' := hb3.set (.bool true)
        have hKy2 := (KeepsOthers.setCell W2 ⟨w.heap.size + 2, 0, Option.none⟩ (.bool true)).same D2 _ hKy rfl
        have hKx2 := (KeepsOthers.setCell W2 ⟨w.heap.size + 2, 0, Option.none⟩ (.bool true)).same D _ hKx rfl
        have hlD := (Array.getElem?_eq_some_iff.1 hKx2).1
        have hKx3 := (World.putObj_heap_other (o := .deferred Option.none) (fun e => hDne e.symm)).trans hKx2
        have hBs := hB.setCell (p := ⟨w.heap.size + 2, 0, Option.none⟩) (by simp) (.bool true)
        obtain ⟨W3, hW3⟩ : ∃ W3, W3 = W2.setCell ⟨w.heap.size + 2, 0, Option.none⟩ (.bool true) := ⟨_, rfl⟩
        rw [← hW3] at hb3' hKy2 hKx2 hKx3 hBs
        have hnD : w.heap.size + 2 ≠ D := by omega
        have hnD2 : w.heap.size + 2 ≠ D2 := fun e => by have := Nat.lt_of_lt_of_le hD3 hDDk; omega
        have hbz : ((W3.putObj D2 (.deferred Option.none)).putObj D (.deferred Option.none)).cell? ⟨w.heap.size + 2, 0, Option.none⟩ = some (.bool true) := by
          refine Boxed.cell (t := 4) ?_
          exact (World.putObj_heap_other hnD).trans ((World.putObj_heap_other hnD2).trans hb3')
        have hBz : Below w.heap.size w ((W3.putObj D2 (.deferred Option.none)).putObj D (.deferred Option.none)) :=
          (hBs.trans (belowK_b (w := w) (Nat.le_refl _) _ D2 _ _ (by have := Nat.lt_of_lt_of_le hD3 hDDk; omega) hKy2 rfl rfl)).trans (belowK_b (w := w) (Nat.le_refl _) _ D _ _ (by omega) hKx3 rfl rfl)
        subst hW3
        exact ⟨by simp, .inl ⟨_, _, rfl, run_takeDeferred hKy2, ⟨by simp, .inl ⟨_, _, rfl, run_takeDeferred hKx3, ⟨_, by simp only [results, Try.results33]; simp [go_sem, hbz], rfl, hBz⟩⟩⟩⟩⟩
      case stop2 =>
        rintro D c pre W _ hSp ⟨_, hn⟩ _
        exact absurd (HXS.out ▸ hSp) hn
  case stop =>
    rintro D c pre W hD hSp hI hK
    have hD2 : w.heap.size + 5 + 1 ≤ D := by rw [hx0.2.2] at hD; exact hD
    rcases hI with ⟨_, hn⟩ | ⟨rfl, hlv0, hpre, hbi, hW⟩
    · exact absurd (HXS.out ▸ hSp) hn
    · have hlv : (((pre.length : Nat) : Int) != lv) = false := by rw [hlv0]; simp
      have HLV := Lib.hid hlv0
      have HPR := Lib.hid hpre
      clear hlv0 hpre hSp hD
      have hsz := hW.2.2.2.2.size
      have hci := hbi.cell
      have hfi := hbi.frozen
      have hc1 := hW.1.cell
      have hc2 := hW.2.1.cell
      gi_wp2
      have hbi2 := hbi.set (.int .i64 0)
      have hW2 := hW.other (Bi := (w.heap.size + 5)) (by omega) (by omega) (.int .i64 0)
      have hKD : (W.setCell ⟨(w.heap.size + 5), 0, Option.none⟩ (.int .i64 0)).heap[D]? = some (.deferred (some [])) := (KeepsOthers.setCell W ⟨(w.heap.size + 5), 0, Option.none⟩ (.int .i64 0)).same D _ hK rfl
      have hlt2 := hW2.2.2.2.1.lt
      have hD3 : D < (W.setCell ⟨(w.heap.size + 5), 0, Option.none⟩ (.int .i64 0)).heap.size := (Array.getElem?_eq_some_iff.1 hKD).1
      refine wpIn_rangeFunc_ownG rfl (by omega) (gf := 45) (lb := #[.pointer (some ⟨(w.heap.size + 4), 0, Option.none⟩)]) rfl trivial (enters_of Try.func45 (by kernel_rfl) rfl) (encs := encN)
        (within_stops 8 (by omega) a ha _ _ hlt2 (by rw [show (((a % 64 : Nat) : Int)) = (a : Int) % 64 from by omega]; exact hW2.2.2.2.1.cell)) Kc_t (Kc_b hlt2) (Below.refl _ _) (fun _ => rfl)
        (fun pre2 W' => WI w.heap.size ((w.heap.size + 5)) ((w.heap.size + 4)) w lv (.slice ad N cap) ((a : Int) % 64) xs pre2 W' ∧ W'.heap[D]? = some (.deferred (some [])))
        (fun c pre2 _ => c = .ret ∧ ¬ pre2 <+: xs)
        (OwnFrom.and (WI_own (Nat.le_refl _) (Nat.le_trans (by omega) (Nat.le_of_lt hlt2))) (ownFrom_heap hD3))
        (fun _ _ _ _ _ h _ _ => h)
        ⟨⟨List.nil_prefix, hbi2, hW2⟩, hKD⟩ (fun x => { tmps := #[.int .u8 a, .bool true, .int .i64 lv, .slice ad N cap, undef, undef, .pointer (some ⟨w.heap.size, 0, Option.none⟩), .pointer (some ⟨w.heap.size + 1, 0, Option.none⟩), .pointer (some ⟨w.heap.size + 2, 0, Option.none⟩), .func (.func 45) #[] #[.pointer (some ⟨w.heap.size + 4, 0, Option.none⟩)], .pointer (some ⟨w.heap.size + 5, 0, Option.none⟩), undef, .int .u8 (x : Nat), .int .u8 a, .func (.func 47) #[] #[.pointer (some ⟨w.heap.size + 3, 0, Option.none⟩)], .bool true, .int .u8 a, .func (.func 45) #[] #[.pointer (some ⟨w.heap.size + 4, 0, Option.none⟩)], .func (.func 45) #[] #[.pointer (some ⟨w.heap.size + 4, 0, Option.none⟩)], .bool false, .func (.func 45) #[] #[.pointer (some ⟨w.heap.size + 4, 0, Option.none⟩)], undef, undef, undef, undef, undef, undef, undef, undef, undef, undef, undef, undef, undef, undef, undef, undef, undef, undef, .int .i64 (pre.length : Nat), .int .i64 lv, .bool false, .bool false, undef, undef, undef, undef, .bool false, .func (.func 45) #[] #[.pointer (some ⟨w.heap.size + 4, 0, Option.none⟩)], .int .u8 (x : Nat), undef, undef, undef, undef, undef, undef, undef, undef, undef, undef, undef, undef, undef, undef, undef, undef, undef, undef], defers := [] }) ?assign3 ?body3 ?done3 ?stop3
      case assign3 =>
        intro l x W K hK
        simp only [encN]
        gi_wp2
        exact hK
      case body3 =>
        rintro l pre x W ⟨⟨hpre, hbi, hW⟩, hKx⟩ hlt
        have hsz := hW.2.2.2.2.size
        obtain ⟨hb1, hb2, hb3, hb4, hB⟩ := hW
        have hci := hbi.cell
        have hfi := hbi.frozen
        have hc2 := hb2.cell
        have hc3 := hb3.cell
        have hf3 := hb3.frozen
        have hpl := hpre.length_le
        have HP := Lib.hid hpre
        clear hpre
        by_cases hin : pre.length < N
        · obtain ⟨b, o, rfl, hcw⟩ := HC.out pre.length hin
          have hcell := (hB.cell (p := ⟨b, o + pre.length, Option.none⟩) (cell_lt hcw)).trans hcw
          have HPS := Lib.hid (pre_snoc HP.out x)
          obtain ⟨y, hy⟩ : ∃ y, y = xs.getD pre.length 0 := ⟨_, rfl⟩
          have HY := Lib.hid hy
          rw [← hy] at hcell
          clear hy hcw
          by_cases hxy : y = x
          · have hne : (((x : Nat) : Int) != ((y : Nat) : Int)) = false := by rw [hxy]; simp
            have HPX : Hid (pre ++ [x] <+: xs) := Lib.hid (HPS.out.2 ⟨by rw [← HN.out]; exact hin, by rw [← HY.out]; exact hxy⟩)
            clear hxy
            gi_wp2
            have hbi3 := hbi.set (.int .i64 ((pre.length : Nat) + 1 : Int))
            refine ⟨(KeepsOthers.setCell _ _ _).from _, ?_, ⟨HPX.out, ?_, ?_⟩, (KeepsOthers.setCell _ _ _).same D _ hKx rfl⟩
            · exact ((hb4.other (B' := (w.heap.size + 5)) (by omega) _).cell).trans hb4.cell.symm
            · simpa using hbi3
            · exact WS.other ⟨hb1, hb2, hb3, hb4, hB⟩ (by omega) (by omega) _
          · have hne : (((x : Nat) : Int) != ((y : Nat) : Int)) = true := by rw [bne_iff_ne]; omega
            have HPX : Hid (¬ pre ++ [x] <+: xs) := Lib.hid (fun h => hxy (by rw [HY.out]; exact (HPS.out.1 h).2))
            clear hxy
            gi_wp2
            exact ⟨(KeepsOthers.setCell _ _ _).from _, rfl, HPX.out⟩
        · have HPX : Hid (¬ pre ++ [x] <+: xs) := Lib.hid (fun h => hin (by rw [HN.out]; exact ((pre_snoc HP.out x).1 h).1))
          gi_wp2
          exact ⟨(KeepsOthers.setCell _ _ _).from _, rfl, HPX.out⟩
      case done3 =>
        rintro D2 ys W2 hDD rfl ⟨⟨hpre2, hbx, hWx⟩, hKx⟩ hKy
        have hNx := HXS.out.symm
        rw [hNx, ← HN.out] at hbx
        have hsy := hWx.2.2.2.2.size
        obtain ⟨hb1, hb2, hb3, hb4, hB⟩ := hWx
        have hcx := hbx.cell
        have hc2 := hb2.cell
        have hc3 := hb3.cell
        have hf3 := hb3.frozen
        have HNX := Lib.hid hNx
        have hDne : D2 ≠ D := fun e => Nat.lt_irrefl _ (e ▸ Nat.lt_of_lt_of_le hD3 hDD)
        have hDDk := hDD
        clear hNx hpre2 hDD
        gi_wp2
        have hb3' := hb3.set (.bool true)
        have hKy2 := (KeepsOthers.setCell W2 ⟨w.heap.size + 2, 0, Option.none⟩ (.bool true)).same D2 _ hKy rfl
        have hKx2 := (KeepsOthers.setCell W2 ⟨w.heap.size + 2, 0, Option.none⟩ (.bool true)).same D _ hKx rfl
        have hlD := (Array.getElem?_eq_some_iff.1 hKx2).1
        have hKx3 := (World.putObj_heap_other (o := .deferred Option.none) (fun e => hDne e.symm)).trans hKx2
        have hBs := hB.setCell (p := ⟨w.heap.size + 2, 0, Option.none⟩) (by simp) (.bool true)
        obtain ⟨W3, hW3⟩ : ∃ W3, W3 = W2.setCell ⟨w.heap.size + 2, 0, Option.none⟩ (.bool true) := ⟨_, rfl⟩
        rw [← hW3] at hb3' hKy2 hKx2 hKx3 hBs
        have hnD : w.heap.size + 2 ≠ D := by omega
        have hnD2 : w.heap.size + 2 ≠ D2 := fun e => by have := Nat.lt_of_lt_of_le hD3 hDDk; omega
        have hbz : ((W3.putObj D2 (.deferred Option.none)).putObj D (.deferred Option.none)).cell? ⟨w.heap.size + 2, 0, Option.none⟩ = some (.bool true) := by
          refine Boxed.cell (t := 4) ?_
          exact (World.putObj_heap_other hnD).trans ((World.putObj_heap_other hnD2).trans hb3')
        have hBz : Below w.heap.size w ((W3.putObj D2 (.deferred Option.none)).putObj D (.deferred Option.none)) :=
          (hBs.trans (belowK_b (w := w) (Nat.le_refl _) _ D2 _ _ (by have := Nat.lt_of_lt_of_le hD3 hDDk; omega) hKy2 rfl rfl)).trans (belowK_b (w := w) (Nat.le_refl _) _ D _ _ (by omega) hKx3 rfl rfl)
        subst hW3
        exact ⟨by simp, .inl ⟨_, _, rfl, run_takeDeferred hKy2, ⟨by simp, .inl ⟨_, _, rfl, run_takeDeferred hKx3, ⟨_, by simp only [results, Try.results33]; simp [go_sem, hbz], rfl, hBz⟩⟩⟩⟩⟩
      case stop3 =>
        rintro D c pre W _ hSp ⟨_, hn⟩ _
        exact absurd (HXS.out ▸ hSp) hn

set_option maxHeartbeats 1000000 in
theorem walks_law (a : Nat) (ha : a < 256) (lv : Int) (hl1 : -9223372036854775808 ≤ lv) (hl2 : lv ≤ 9223372036854775807) (w : World) :
    Calls Try.prog 7 #[.int .u8 a, .int .i64 lv] w fun e w' => e = .returned (.bool true) ∧ Below w.heap.size w w' := by
  go_enter Try.func7, Try.ntmps7
  go_wp2_with fail
  refine (reach_any a ha _).mono ?_
  rintro e w1 ⟨v1, rfl, ho1, hb1⟩
  go_wp2_with fail
  refine (walk_each a ha lv hl1 hl2 v1 _ _ hb1.size ho1).mono ?_
  rintro e w2 ⟨rfl, hb2⟩
  go_wp2_with fail
  refine (rwithin_any a ha _).mono ?_
  rintro e w3 ⟨v3, rfl, ho3, hb3⟩
  go_wp2_with fail
  refine (walk_within a ha lv hl1 hl2 v3 _ _ hb3.size ho3).mono ?_
  rintro e w4 ⟨rfl, hb4⟩
  go_wp2_with fail
  refine (lives_any _).mono ?_
  rintro e w5 ⟨rfl, hb5⟩
  go_wp2
  go_ret
  have s1 := hb1.size
  have s2 := hb2.size
  have s3 := hb3.size
  have s4 := hb4.size
  exact ⟨rfl, (((hb1.trans (hb2.mono s1)).trans (hb3.mono (by omega))).trans (hb4.mono (by omega))).trans (hb5.mono (by omega))⟩
end Go.Proofs.Ytadmdanmafegoaa
