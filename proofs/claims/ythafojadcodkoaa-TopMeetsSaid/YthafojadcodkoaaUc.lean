/- fits. -/
import Derived.Test.YthafojadcodkoaaUb
import Derived.Test.YthafojadcodkoaaTl
namespace Go.Proofs.Ythafojadcodkoaa
open Go.RowKit Go.ChangeMaps

/-- What is asked of a facet: it is of a thing that is none, and less than that. -/
def FacO (L : List Ent) (s : WV) : Prop := ∃ a E, entE L s.of_ = some E ∧ E.s.k ≠ 14 ∧ Can (gr L) s.of_ a ∧ s.set ≠ a ∧ s.set &&& a = s.set
def FitsP (L : List Ent) (s : WV) (w : World) (e : Ending) (w' : World) : Prop := Below w.heap.size w w' ∧ ∃ β : Bool, e = .returned (.bool β) ∧ (β = true → s.k = 14 → FacO L s) ∧ (s.k = 1 → β = true)
theorem andNot1 : ∀ a A : Fin 64, bits .andNot .u8 ((a : Nat) : Int) ((A : Nat) : Int) = 0 → ((a : Nat) &&& (A : Nat)) = a := by decide +kernel
section
variable {w : World} {hi p tm fm : Nat} {ps cs ms : Value} {L : List Ent} {FL : List ((Int × Nat) × Int)} {lt : Int}
attribute [local irreducible] wpList
set_option maxRecDepth 100000 in
set_option maxHeartbeats 8000000 in
theorem fits_k6 (h : Wd w hi p tm fm ps cs ms L FL lt) (r : Int) (s : WV)  (q6 : ((s.k : Int) == 6) = true) :
    Calls Try.prog 30 #[.pointer (some ⟨p, 0, Option.none⟩), .int .i64 r, .agg s.arr] w fun e w' => FitsP L s w e w' := by
  obtain ⟨P, hP1, hP2⟩ : ∃ P : Ending → World → Prop, (∀ (w' : World) (β : Bool), Below w.heap.size w w' → (β = true → s.k = 14 → FacO L s) → (s.k = 1 → β = true) → P (.returned (.bool β)) w') ∧ (∀ e w', P e w' → FitsP L s w e w') := ⟨_, fun w' β h1 h2 h3 => ⟨h1, β, rfl, h2, h3⟩, fun e w' h => h⟩
  refine Calls.mono (R := P) ?_ hP2
  have HP := Lib.hid hP1
  clear hP1 hP2
  obtain ⟨W, hW⟩ : ∃ W, W = (w.alloc (.cells #[.pointer (some ⟨p, 0, Option.none⟩)] 30)).alloc (.cells s.arr 53) := ⟨_, rfl⟩
  have hb : Below w.heap.size w W := by rw [hW]; exact ((Below.refl _ _).alloc (Nat.le_refl _) _).alloc (by simp) _
  have hc : BlkN W w.heap.size 30 #[.pointer (some ⟨p, 0, Option.none⟩)] := by rw [hW]; exact (BlkN.at_ rfl _ _).alloc _
  have hx : BlkN W (w.heap.size + 1) 53 s.arr := by rw [hW]; exact BlkN.at_ (by simp) _ _
  have HW := Lib.hid (h.below hb)
  have HB := Lib.hid hb
  have HC := Lib.hid hc
  have HX := Lib.hid hx
  have cw0 := hc.cell (v := .pointer (some ⟨p, 0, Option.none⟩)) 0 rfl
  have x0 := hx.cell (v := .int .u8 s.k) 0 s.at0
  have x10 := hx.cell (v := .int .i64 s.of_) 10 s.at10
  have x11 := hx.cell (v := .int .i64 s.by_) 11 s.at11
  have x12 := hx.cell (v := .int .u8 s.set) 12 s.at12
  have H14 : Hid (s.k ≠ 14) := Lib.hid (by have := eq_of_beq q6; omega)
  have H1 : Hid (s.k ≠ 1) := Lib.hid (by have := eq_of_beq q6; omega)
  have BD : Hid (∀ m, Below w.heap.size w (W.drewN m)) := Lib.hid fun m => hb.trans (belowD W m)
  clear h hb hc hx
  have C54 := fits1_any HW.out s s.of_ 5 (by decide) w.heap.size (w.heap.size + 1) HC.out HX.out
  have C56 := Lib.hid (fun m => other_any (HW.out.below (belowD W m)) r 6 s.of_)
  cases ht : thereF L s.of_ 5 s.home with
  | false =>
    rw [ht] at C54
    have C54 := Lib.hid C54
    clear ht
    go_enter Try.func30, Try.ntmps30
    go_upto_region 2 with fail
    rw [← hW]
    clear hW
    go_wp2_with (go_at_call 54; with_reducible refine C54.out.mono ?_; rintro e w1 ⟨rfl, m, rfl⟩)
    exact HP.out _ _ (BD.out _) (fun _ h => absurd h H14.out) (fun h => absurd h H1.out)
  | true =>
    rw [ht] at C54
    have C54 := Lib.hid C54
    clear ht
    go_enter Try.func30, Try.ntmps30
    go_upto_region 2 with fail
    rw [← hW]
    clear hW
    go_wp2_with (first
      | (go_at_call 54; with_reducible refine C54.out.mono ?_; rintro e w1 ⟨rfl, m, rfl⟩)
      | (go_at_call 56; with_reducible refine (C56.out _).mono ?_; rintro e w2 ⟨hb2, β2, rfl⟩; have HB2 := Lib.hid hb2; clear hb2))
    exact HP.out _ _ ((BD.out _).trans (HB2.out.mono (BD.out _).size)) (fun _ h => absurd h H14.out) (fun h => absurd h H1.out)
set_option maxRecDepth 100000 in
set_option maxHeartbeats 8000000 in
theorem fits_k7 (h : Wd w hi p tm fm ps cs ms L FL lt) (r : Int) (s : WV) (q6 : ((s.k : Int) == 6) = false) (q7 : ((s.k : Int) == 7) = true) :
    Calls Try.prog 30 #[.pointer (some ⟨p, 0, Option.none⟩), .int .i64 r, .agg s.arr] w fun e w' => FitsP L s w e w' := by
  obtain ⟨P, hP1, hP2⟩ : ∃ P : Ending → World → Prop, (∀ (w' : World) (β : Bool), Below w.heap.size w w' → (β = true → s.k = 14 → FacO L s) → (s.k = 1 → β = true) → P (.returned (.bool β)) w') ∧ (∀ e w', P e w' → FitsP L s w e w') := ⟨_, fun w' β h1 h2 h3 => ⟨h1, β, rfl, h2, h3⟩, fun e w' h => h⟩
  refine Calls.mono (R := P) ?_ hP2
  have HP := Lib.hid hP1
  clear hP1 hP2
  obtain ⟨W, hW⟩ : ∃ W, W = (w.alloc (.cells #[.pointer (some ⟨p, 0, Option.none⟩)] 30)).alloc (.cells s.arr 53) := ⟨_, rfl⟩
  have hb : Below w.heap.size w W := by rw [hW]; exact ((Below.refl _ _).alloc (Nat.le_refl _) _).alloc (by simp) _
  have hc : BlkN W w.heap.size 30 #[.pointer (some ⟨p, 0, Option.none⟩)] := by rw [hW]; exact (BlkN.at_ rfl _ _).alloc _
  have hx : BlkN W (w.heap.size + 1) 53 s.arr := by rw [hW]; exact BlkN.at_ (by simp) _ _
  have HW := Lib.hid (h.below hb)
  have HB := Lib.hid hb
  have HC := Lib.hid hc
  have HX := Lib.hid hx
  have cw0 := hc.cell (v := .pointer (some ⟨p, 0, Option.none⟩)) 0 rfl
  have x0 := hx.cell (v := .int .u8 s.k) 0 s.at0
  have x10 := hx.cell (v := .int .i64 s.of_) 10 s.at10
  have x11 := hx.cell (v := .int .i64 s.by_) 11 s.at11
  have x12 := hx.cell (v := .int .u8 s.set) 12 s.at12
  have H14 : Hid (s.k ≠ 14) := Lib.hid (by have := eq_of_beq q7; omega)
  have H1 : Hid (s.k ≠ 1) := Lib.hid (by have := eq_of_beq q7; omega)
  have BD : Hid (∀ m, Below w.heap.size w (W.drewN m)) := Lib.hid fun m => hb.trans (belowD W m)
  clear h hb hc hx
  have C54 := Lib.hid ( fits1_any HW.out s s.of_ 5 (by decide) w.heap.size (w.heap.size + 1) HC.out HX.out)
  go_enter Try.func30, Try.ntmps30
  go_upto_region 2 with fail
  rw [← hW]
  clear hW
  go_wp2_with (go_at_call 54; with_reducible refine C54.out.mono ?_; rintro e w1 ⟨rfl, m, rfl⟩)
  exact HP.out _ _ (BD.out _) (fun _ h => absurd h H14.out) (fun h => absurd h H1.out)
set_option maxRecDepth 100000 in
set_option maxHeartbeats 8000000 in
theorem fits_k9 (h : Wd w hi p tm fm ps cs ms L FL lt) (r : Int) (s : WV) (q6 : ((s.k : Int) == 6) = false) (q7 : ((s.k : Int) == 7) = false) (q9 : ((s.k : Int) == 9) = true) :
    Calls Try.prog 30 #[.pointer (some ⟨p, 0, Option.none⟩), .int .i64 r, .agg s.arr] w fun e w' => FitsP L s w e w' := by
  obtain ⟨P, hP1, hP2⟩ : ∃ P : Ending → World → Prop, (∀ (w' : World) (β : Bool), Below w.heap.size w w' → (β = true → s.k = 14 → FacO L s) → (s.k = 1 → β = true) → P (.returned (.bool β)) w') ∧ (∀ e w', P e w' → FitsP L s w e w') := ⟨_, fun w' β h1 h2 h3 => ⟨h1, β, rfl, h2, h3⟩, fun e w' h => h⟩
  refine Calls.mono (R := P) ?_ hP2
  have HP := Lib.hid hP1
  clear hP1 hP2
  obtain ⟨W, hW⟩ : ∃ W, W = (w.alloc (.cells #[.pointer (some ⟨p, 0, Option.none⟩)] 30)).alloc (.cells s.arr 53) := ⟨_, rfl⟩
  have hb : Below w.heap.size w W := by rw [hW]; exact ((Below.refl _ _).alloc (Nat.le_refl _) _).alloc (by simp) _
  have hc : BlkN W w.heap.size 30 #[.pointer (some ⟨p, 0, Option.none⟩)] := by rw [hW]; exact (BlkN.at_ rfl _ _).alloc _
  have hx : BlkN W (w.heap.size + 1) 53 s.arr := by rw [hW]; exact BlkN.at_ (by simp) _ _
  have HW := Lib.hid (h.below hb)
  have HB := Lib.hid hb
  have HC := Lib.hid hc
  have HX := Lib.hid hx
  have cw0 := hc.cell (v := .pointer (some ⟨p, 0, Option.none⟩)) 0 rfl
  have x0 := hx.cell (v := .int .u8 s.k) 0 s.at0
  have x10 := hx.cell (v := .int .i64 s.of_) 10 s.at10
  have x11 := hx.cell (v := .int .i64 s.by_) 11 s.at11
  have x12 := hx.cell (v := .int .u8 s.set) 12 s.at12
  have H14 : Hid (s.k ≠ 14) := Lib.hid (by have := eq_of_beq q9; omega)
  have H1 : Hid (s.k ≠ 1) := Lib.hid (by have := eq_of_beq q9; omega)
  have BD : Hid (∀ m, Below w.heap.size w (W.drewN m)) := Lib.hid fun m => hb.trans (belowD W m)
  clear h hb hc hx
  have C54 := Lib.hid ( fits1_any HW.out s s.of_ 8 (by decide) w.heap.size (w.heap.size + 1) HC.out HX.out)
  go_enter Try.func30, Try.ntmps30
  go_upto_region 2 with fail
  rw [← hW]
  clear hW
  go_wp2_with (go_at_call 54; with_reducible refine C54.out.mono ?_; rintro e w1 ⟨rfl, m, rfl⟩)
  exact HP.out _ _ (BD.out _) (fun _ h => absurd h H14.out) (fun h => absurd h H1.out)
set_option maxRecDepth 100000 in
set_option maxHeartbeats 8000000 in
theorem fits_k11 (h : Wd w hi p tm fm ps cs ms L FL lt) (r : Int) (s : WV) (q6 : ((s.k : Int) == 6) = false) (q7 : ((s.k : Int) == 7) = false) (q9 : ((s.k : Int) == 9) = false) (q11 : ((s.k : Int) == 11) = true) :
    Calls Try.prog 30 #[.pointer (some ⟨p, 0, Option.none⟩), .int .i64 r, .agg s.arr] w fun e w' => FitsP L s w e w' := by
  obtain ⟨P, hP1, hP2⟩ : ∃ P : Ending → World → Prop, (∀ (w' : World) (β : Bool), Below w.heap.size w w' → (β = true → s.k = 14 → FacO L s) → (s.k = 1 → β = true) → P (.returned (.bool β)) w') ∧ (∀ e w', P e w' → FitsP L s w e w') := ⟨_, fun w' β h1 h2 h3 => ⟨h1, β, rfl, h2, h3⟩, fun e w' h => h⟩
  refine Calls.mono (R := P) ?_ hP2
  have HP := Lib.hid hP1
  clear hP1 hP2
  obtain ⟨W, hW⟩ : ∃ W, W = (w.alloc (.cells #[.pointer (some ⟨p, 0, Option.none⟩)] 30)).alloc (.cells s.arr 53) := ⟨_, rfl⟩
  have hb : Below w.heap.size w W := by rw [hW]; exact ((Below.refl _ _).alloc (Nat.le_refl _) _).alloc (by simp) _
  have hc : BlkN W w.heap.size 30 #[.pointer (some ⟨p, 0, Option.none⟩)] := by rw [hW]; exact (BlkN.at_ rfl _ _).alloc _
  have hx : BlkN W (w.heap.size + 1) 53 s.arr := by rw [hW]; exact BlkN.at_ (by simp) _ _
  have HW := Lib.hid (h.below hb)
  have HB := Lib.hid hb
  have HC := Lib.hid hc
  have HX := Lib.hid hx
  have cw0 := hc.cell (v := .pointer (some ⟨p, 0, Option.none⟩)) 0 rfl
  have x0 := hx.cell (v := .int .u8 s.k) 0 s.at0
  have x10 := hx.cell (v := .int .i64 s.of_) 10 s.at10
  have x11 := hx.cell (v := .int .i64 s.by_) 11 s.at11
  have x12 := hx.cell (v := .int .u8 s.set) 12 s.at12
  have H14 : Hid (s.k ≠ 14) := Lib.hid (by have := eq_of_beq q11; omega)
  have H1 : Hid (s.k ≠ 1) := Lib.hid (by have := eq_of_beq q11; omega)
  have BD : Hid (∀ m, Below w.heap.size w (W.drewN m)) := Lib.hid fun m => hb.trans (belowD W m)
  clear h hb hc hx
  have C54 := fits1_any HW.out s s.of_ 10 (by decide) w.heap.size (w.heap.size + 1) HC.out HX.out
  have C56 := Lib.hid (fun m => other_any (HW.out.below (belowD W m)) r 11 s.of_)
  cases ht : thereF L s.of_ 10 s.home with
  | false =>
    rw [ht] at C54
    have C54 := Lib.hid C54
    clear ht
    go_enter Try.func30, Try.ntmps30
    go_upto_region 2 with fail
    rw [← hW]
    clear hW
    go_wp2_with (go_at_call 54; with_reducible refine C54.out.mono ?_; rintro e w1 ⟨rfl, m, rfl⟩)
    exact HP.out _ _ (BD.out _) (fun _ h => absurd h H14.out) (fun h => absurd h H1.out)
  | true =>
    rw [ht] at C54
    have C54 := Lib.hid C54
    clear ht
    go_enter Try.func30, Try.ntmps30
    go_upto_region 2 with fail
    rw [← hW]
    clear hW
    go_wp2_with (first
      | (go_at_call 54; with_reducible refine C54.out.mono ?_; rintro e w1 ⟨rfl, m, rfl⟩)
      | (go_at_call 56; with_reducible refine (C56.out _).mono ?_; rintro e w2 ⟨hb2, β2, rfl⟩; have HB2 := Lib.hid hb2; clear hb2))
    exact HP.out _ _ ((BD.out _).trans (HB2.out.mono (BD.out _).size)) (fun _ h => absurd h H14.out) (fun h => absurd h H1.out)
set_option maxRecDepth 100000 in
set_option maxHeartbeats 8000000 in
theorem fits_k15 (h : Wd w hi p tm fm ps cs ms L FL lt) (r : Int) (s : WV) (q6 : ((s.k : Int) == 6) = false) (q7 : ((s.k : Int) == 7) = false) (q9 : ((s.k : Int) == 9) = false) (q11 : ((s.k : Int) == 11) = false) (q15 : ((s.k : Int) == 15) = true) :
    Calls Try.prog 30 #[.pointer (some ⟨p, 0, Option.none⟩), .int .i64 r, .agg s.arr] w fun e w' => FitsP L s w e w' := by
  obtain ⟨P, hP1, hP2⟩ : ∃ P : Ending → World → Prop, (∀ (w' : World) (β : Bool), Below w.heap.size w w' → (β = true → s.k = 14 → FacO L s) → (s.k = 1 → β = true) → P (.returned (.bool β)) w') ∧ (∀ e w', P e w' → FitsP L s w e w') := ⟨_, fun w' β h1 h2 h3 => ⟨h1, β, rfl, h2, h3⟩, fun e w' h => h⟩
  refine Calls.mono (R := P) ?_ hP2
  have HP := Lib.hid hP1
  clear hP1 hP2
  obtain ⟨W, hW⟩ : ∃ W, W = (w.alloc (.cells #[.pointer (some ⟨p, 0, Option.none⟩)] 30)).alloc (.cells s.arr 53) := ⟨_, rfl⟩
  have hb : Below w.heap.size w W := by rw [hW]; exact ((Below.refl _ _).alloc (Nat.le_refl _) _).alloc (by simp) _
  have hc : BlkN W w.heap.size 30 #[.pointer (some ⟨p, 0, Option.none⟩)] := by rw [hW]; exact (BlkN.at_ rfl _ _).alloc _
  have hx : BlkN W (w.heap.size + 1) 53 s.arr := by rw [hW]; exact BlkN.at_ (by simp) _ _
  have HW := Lib.hid (h.below hb)
  have HB := Lib.hid hb
  have HC := Lib.hid hc
  have HX := Lib.hid hx
  have cw0 := hc.cell (v := .pointer (some ⟨p, 0, Option.none⟩)) 0 rfl
  have x0 := hx.cell (v := .int .u8 s.k) 0 s.at0
  have x10 := hx.cell (v := .int .i64 s.of_) 10 s.at10
  have x11 := hx.cell (v := .int .i64 s.by_) 11 s.at11
  have x12 := hx.cell (v := .int .u8 s.set) 12 s.at12
  have H14 : Hid (s.k ≠ 14) := Lib.hid (by have := eq_of_beq q15; omega)
  have H1 : Hid (s.k ≠ 1) := Lib.hid (by have := eq_of_beq q15; omega)
  have BD : Hid (∀ m, Below w.heap.size w (W.drewN m)) := Lib.hid fun m => hb.trans (belowD W m)
  clear h hb hc hx
  have C54 : Hid (∀ n, Calls Try.prog 54 #[.int .i64 s.by_, .int .u8 13, .pointer (some ⟨w.heap.size, 0, Option.none⟩), .pointer (some ⟨w.heap.size + 1, 0, Option.none⟩)] (W.drewN n) fun e w' => e = .returned (.bool (thereF L s.by_ 13 s.home)) ∧ ∃ m, w' = (W.drewN n).drewN m) := Lib.hid fun n => fits1_any (HW.out.below (belowD W n)) s s.by_ 13 (by decide) w.heap.size (w.heap.size + 1) HC.out HX.out
  have C6 : Hid (∀ n, Calls Try.prog 6 #[.pointer (some ⟨p, 0, Option.none⟩), .int .i64 s.of_] (W.drewN n) fun e w' => e = .returned (.bool (entE L s.of_).isSome) ∧ w' = W.drewN n) := Lib.hid fun n => (is_any (HW.out.below (belowD W n)) s.of_).mono fun e w' hh => ⟨hh.1, hh.2.symm⟩
  cases ht : thereF L s.by_ 13 s.home with
  | false =>
    rw [ht] at C54
    clear ht
    go_enter Try.func30, Try.ntmps30
    go_upto_region 2 with fail
    rw [← hW]
    clear hW
    go_upto_region 12 with fail
    go_quiet ((first | (go_at_call 54; refine Calls.quiet_of (C54.out _)) | (go_at_call 6; refine Calls.quiet_of_same (C6.out _))))
    go_wp2_with fail
    exact HP.out _ _ (BD.out _) (fun _ h => absurd h H14.out) (fun h => absurd h H1.out)
  | true =>
    rw [ht] at C54
    obtain ⟨E, hE⟩ : ∃ E, entE L s.by_ = some E := by
      unfold thereF at ht
      cases hE : entE L s.by_ with
      | none => rw [hE] at ht; cases ht
      | some E => exact ⟨E, rfl⟩
    have hl := fun n => (HW.out.below (belowD W n)).look s.by_
    rw [hE] at hl
    obtain ⟨-, hblk, -⟩ := HW.out.each _ (entE_mem hE).1
    have c2 := HW.out.blk.cell (v := .map (some tm)) 2 rfl
    obtain ⟨er, b, t⟩ := E
    have k10 := hblk.cell (v := .int .i64 t.of_) 10 t.at10
    simp only at hl
    clear ht hE hblk
    cases h6 : (entE L s.of_).isSome with
    | false =>
      rw [h6] at C6
      clear h6
      go_enter Try.func30, Try.ntmps30
      go_upto_region 2 with fail
      rw [← hW]
      clear hW
      go_upto_region 12 with fail
      go_quiet ((first | (go_at_call 54; refine Calls.quiet_of (C54.out _)) | (go_at_call 6; refine Calls.quiet_of_same (C6.out _))))
      go_wp2_with fail
      exact HP.out _ _ (BD.out _) (fun _ h => absurd h H14.out) (fun h => absurd h H1.out)
    | true =>
      rw [h6] at C6
      clear h6
      go_enter Try.func30, Try.ntmps30
      go_upto_region 2 with fail
      rw [← hW]
      clear hW
      go_upto_region 12 with fail
      go_quiet ((first | (go_at_call 54; refine Calls.quiet_of (C54.out _)) | (go_at_call 6; refine Calls.quiet_of_same (C6.out _))))
      go_wp2_with fail
      exact HP.out _ _ (BD.out _) (fun _ h => absurd h H14.out) (fun h => absurd h H1.out)
set_option maxRecDepth 100000 in
set_option maxHeartbeats 8000000 in
theorem fits_k16 (h : Wd w hi p tm fm ps cs ms L FL lt) (r : Int) (s : WV) (q6 : ((s.k : Int) == 6) = false) (q7 : ((s.k : Int) == 7) = false) (q9 : ((s.k : Int) == 9) = false) (q11 : ((s.k : Int) == 11) = false) (q15 : ((s.k : Int) == 15) = false) (q16 : ((s.k : Int) == 16) = true) :
    Calls Try.prog 30 #[.pointer (some ⟨p, 0, Option.none⟩), .int .i64 r, .agg s.arr] w fun e w' => FitsP L s w e w' := by
  obtain ⟨P, hP1, hP2⟩ : ∃ P : Ending → World → Prop, (∀ (w' : World) (β : Bool), Below w.heap.size w w' → (β = true → s.k = 14 → FacO L s) → (s.k = 1 → β = true) → P (.returned (.bool β)) w') ∧ (∀ e w', P e w' → FitsP L s w e w') := ⟨_, fun w' β h1 h2 h3 => ⟨h1, β, rfl, h2, h3⟩, fun e w' h => h⟩
  refine Calls.mono (R := P) ?_ hP2
  have HP := Lib.hid hP1
  clear hP1 hP2
  obtain ⟨W, hW⟩ : ∃ W, W = (w.alloc (.cells #[.pointer (some ⟨p, 0, Option.none⟩)] 30)).alloc (.cells s.arr 53) := ⟨_, rfl⟩
  have hb : Below w.heap.size w W := by rw [hW]; exact ((Below.refl _ _).alloc (Nat.le_refl _) _).alloc (by simp) _
  have hc : BlkN W w.heap.size 30 #[.pointer (some ⟨p, 0, Option.none⟩)] := by rw [hW]; exact (BlkN.at_ rfl _ _).alloc _
  have hx : BlkN W (w.heap.size + 1) 53 s.arr := by rw [hW]; exact BlkN.at_ (by simp) _ _
  have HW := Lib.hid (h.below hb)
  have HB := Lib.hid hb
  have HC := Lib.hid hc
  have HX := Lib.hid hx
  have cw0 := hc.cell (v := .pointer (some ⟨p, 0, Option.none⟩)) 0 rfl
  have x0 := hx.cell (v := .int .u8 s.k) 0 s.at0
  have x10 := hx.cell (v := .int .i64 s.of_) 10 s.at10
  have x11 := hx.cell (v := .int .i64 s.by_) 11 s.at11
  have x12 := hx.cell (v := .int .u8 s.set) 12 s.at12
  have H14 : Hid (s.k ≠ 14) := Lib.hid (by have := eq_of_beq q16; omega)
  have H1 : Hid (s.k ≠ 1) := Lib.hid (by have := eq_of_beq q16; omega)
  have BD : Hid (∀ m, Below w.heap.size w (W.drewN m)) := Lib.hid fun m => hb.trans (belowD W m)
  clear h hb hc hx
  have C54 := fits1_any HW.out s s.by_ 3 (by decide) w.heap.size (w.heap.size + 1) HC.out HX.out
  have C6 := Lib.hid (fun m => is_any (HW.out.below (belowD W m)) s.of_)
  cases ht : thereF L s.by_ 3 s.home with
  | false =>
    rw [ht] at C54
    have C54 := Lib.hid C54
    clear ht
    go_enter Try.func30, Try.ntmps30
    go_upto_region 2 with fail
    rw [← hW]
    clear hW
    go_wp2_with (go_at_call 54; with_reducible refine C54.out.mono ?_; rintro e w1 ⟨rfl, m, rfl⟩)
    exact HP.out _ _ (BD.out _) (fun _ h => absurd h H14.out) (fun h => absurd h H1.out)
  | true =>
    rw [ht] at C54
    have C54 := Lib.hid C54
    clear ht
    go_enter Try.func30, Try.ntmps30
    go_upto_region 2 with fail
    rw [← hW]
    clear hW
    go_wp2_with (first
      | (go_at_call 54; with_reducible refine C54.out.mono ?_; rintro e w1 ⟨rfl, m, rfl⟩)
      | (go_at_call 6; with_reducible refine (C6.out _).mono ?_; rintro e w2 ⟨rfl, rfl⟩))
    exact HP.out _ _ (BD.out _) (fun _ h => absurd h H14.out) (fun h => absurd h H1.out)
set_option maxRecDepth 100000 in
set_option maxHeartbeats 8000000 in
theorem fits_k13 (h : Wd w hi p tm fm ps cs ms L FL lt) (r : Int) (s : WV) (q6 : ((s.k : Int) == 6) = false) (q7 : ((s.k : Int) == 7) = false) (q9 : ((s.k : Int) == 9) = false) (q11 : ((s.k : Int) == 11) = false) (q15 : ((s.k : Int) == 15) = false) (q16 : ((s.k : Int) == 16) = false) (q13 : ((s.k : Int) == 13) = true) :
    Calls Try.prog 30 #[.pointer (some ⟨p, 0, Option.none⟩), .int .i64 r, .agg s.arr] w fun e w' => FitsP L s w e w' := by
  obtain ⟨P, hP1, hP2⟩ : ∃ P : Ending → World → Prop, (∀ (w' : World) (β : Bool), Below w.heap.size w w' → (β = true → s.k = 14 → FacO L s) → (s.k = 1 → β = true) → P (.returned (.bool β)) w') ∧ (∀ e w', P e w' → FitsP L s w e w') := ⟨_, fun w' β h1 h2 h3 => ⟨h1, β, rfl, h2, h3⟩, fun e w' h => h⟩
  refine Calls.mono (R := P) ?_ hP2
  have HP := Lib.hid hP1
  clear hP1 hP2
  obtain ⟨W, hW⟩ : ∃ W, W = (w.alloc (.cells #[.pointer (some ⟨p, 0, Option.none⟩)] 30)).alloc (.cells s.arr 53) := ⟨_, rfl⟩
  have hb : Below w.heap.size w W := by rw [hW]; exact ((Below.refl _ _).alloc (Nat.le_refl _) _).alloc (by simp) _
  have hc : BlkN W w.heap.size 30 #[.pointer (some ⟨p, 0, Option.none⟩)] := by rw [hW]; exact (BlkN.at_ rfl _ _).alloc _
  have hx : BlkN W (w.heap.size + 1) 53 s.arr := by rw [hW]; exact BlkN.at_ (by simp) _ _
  have HW := Lib.hid (h.below hb)
  have HB := Lib.hid hb
  have HC := Lib.hid hc
  have HX := Lib.hid hx
  have cw0 := hc.cell (v := .pointer (some ⟨p, 0, Option.none⟩)) 0 rfl
  have x0 := hx.cell (v := .int .u8 s.k) 0 s.at0
  have x10 := hx.cell (v := .int .i64 s.of_) 10 s.at10
  have x11 := hx.cell (v := .int .i64 s.by_) 11 s.at11
  have x12 := hx.cell (v := .int .u8 s.set) 12 s.at12
  have H14 : Hid (s.k ≠ 14) := Lib.hid (by have := eq_of_beq q13; omega)
  have H1 : Hid (s.k ≠ 1) := Lib.hid (by have := eq_of_beq q13; omega)
  have BD : Hid (∀ m, Below w.heap.size w (W.drewN m)) := Lib.hid fun m => hb.trans (belowD W m)
  clear h hb hc hx
  have hz : ∃ z, z = (s.of_ == 0) := ⟨_, rfl⟩
  clear hz
  cases h0 : (s.of_ == 0) with
  | true =>
    go_enter Try.func30, Try.ntmps30
    go_upto_region 2 with fail
    rw [← hW]
    clear hW
    go_upto_region 16 with fail
    go_quiet (fail)
    go_wp2_with fail
    exact HP.out _ _ (BD.out _) (fun _ h => absurd h H14.out) (fun h => absurd h H1.out)
  | false =>
    have hl := fun n => (HW.out.below (belowD W n)).look s.of_
    have c2 := HW.out.blk.cell (v := .map (some tm)) 2 rfl
    cases hE : entE L s.of_ with
    | none =>
      have C55 : Hid (∀ n, Calls Try.prog 55 #[.pointer (some ⟨p, 0, Option.none⟩), .int .i64 s.of_] (W.drewN n) fun e w' => e = .returned (.int .u8 0) ∧ w' = W.drewN n) := Lib.hid fun n => (kind_any (HW.out.below (belowD W n)) s.of_).mono fun e w' hh => ⟨by rw [hE] at hh; exact hh.1, hh.2.symm⟩
      clear hE hl
      go_enter Try.func30, Try.ntmps30
      go_upto_region 2 with fail
      rw [← hW]
      clear hW
      go_upto_region 16 with fail
      go_quiet (((go_at_call 55; refine Calls.quiet_of_same (C55.out _))))
      go_wp2_with fail
      exact HP.out _ _ (BD.out _) (fun _ h => absurd h H14.out) (fun h => absurd h H1.out)
    | some E =>
      rw [hE] at hl
      have C55 : Hid (∀ n, Calls Try.prog 55 #[.pointer (some ⟨p, 0, Option.none⟩), .int .i64 s.of_] (W.drewN n) fun e w' => e = .returned (.int .u8 E.s.k) ∧ w' = W.drewN n) := Lib.hid fun n => (kind_any (HW.out.below (belowD W n)) s.of_).mono fun e w' hh => ⟨by rw [hE] at hh; exact hh.1, hh.2.symm⟩
      obtain ⟨-, hblk, -⟩ := HW.out.each _ (entE_mem hE).1
      obtain ⟨er, b, t⟩ := E
      have k11 := hblk.cell (v := .int .i64 t.by_) 11 t.at11
      simp only at hl C55
      clear hE hblk
      cases hk : (t.k == 15) with
      | false =>
        go_enter Try.func30, Try.ntmps30
        go_upto_region 2 with fail
        rw [← hW]
        clear hW
        go_upto_region 16 with fail
        go_quiet (((go_at_call 55; refine Calls.quiet_of_same (C55.out _))))
        go_wp2_with fail
        exact HP.out _ _ (BD.out _) (fun _ h => absurd h H14.out) (fun h => absurd h H1.out)
      | true =>
        go_enter Try.func30, Try.ntmps30
        go_upto_region 2 with fail
        rw [← hW]
        clear hW
        go_upto_region 16 with fail
        go_quiet (((go_at_call 55; refine Calls.quiet_of_same (C55.out _))))
        go_wp2_with fail
        exact HP.out _ _ (BD.out _) (fun _ h => absurd h H14.out) (fun h => absurd h H1.out)
set_option maxRecDepth 100000 in
set_option maxHeartbeats 8000000 in
theorem fits_k14 (h : Wd w hi p tm fm ps cs ms L FL lt) (r : Int) (s : WV) (hset : s.set < 64) (hcan : ∃ a, Can (gr L) s.of_ a) (q6 : ((s.k : Int) == 6) = false) (q7 : ((s.k : Int) == 7) = false) (q9 : ((s.k : Int) == 9) = false) (q11 : ((s.k : Int) == 11) = false) (q15 : ((s.k : Int) == 15) = false) (q16 : ((s.k : Int) == 16) = false) (q13 : ((s.k : Int) == 13) = false) (q14 : ((s.k : Int) == 14) = true) :
    Calls Try.prog 30 #[.pointer (some ⟨p, 0, Option.none⟩), .int .i64 r, .agg s.arr] w fun e w' => FitsP L s w e w' := by
  obtain ⟨P, hP1, hP2⟩ : ∃ P : Ending → World → Prop, (∀ (w' : World) (β : Bool), Below w.heap.size w w' → (β = true → s.k = 14 → FacO L s) → (s.k = 1 → β = true) → P (.returned (.bool β)) w') ∧ (∀ e w', P e w' → FitsP L s w e w') := ⟨_, fun w' β h1 h2 h3 => ⟨h1, β, rfl, h2, h3⟩, fun e w' h => h⟩
  refine Calls.mono (R := P) ?_ hP2
  have HP := Lib.hid hP1
  clear hP1 hP2
  obtain ⟨W, hW⟩ : ∃ W, W = (w.alloc (.cells #[.pointer (some ⟨p, 0, Option.none⟩)] 30)).alloc (.cells s.arr 53) := ⟨_, rfl⟩
  have hb : Below w.heap.size w W := by rw [hW]; exact ((Below.refl _ _).alloc (Nat.le_refl _) _).alloc (by simp) _
  have hc : BlkN W w.heap.size 30 #[.pointer (some ⟨p, 0, Option.none⟩)] := by rw [hW]; exact (BlkN.at_ rfl _ _).alloc _
  have hx : BlkN W (w.heap.size + 1) 53 s.arr := by rw [hW]; exact BlkN.at_ (by simp) _ _
  have HW := Lib.hid (h.below hb)
  have HB := Lib.hid hb
  have HC := Lib.hid hc
  have HX := Lib.hid hx
  have cw0 := hc.cell (v := .pointer (some ⟨p, 0, Option.none⟩)) 0 rfl
  have x0 := hx.cell (v := .int .u8 s.k) 0 s.at0
  have x10 := hx.cell (v := .int .i64 s.of_) 10 s.at10
  have x11 := hx.cell (v := .int .i64 s.by_) 11 s.at11
  have x12 := hx.cell (v := .int .u8 s.set) 12 s.at12
  have H1 : Hid (s.k ≠ 1) := Lib.hid (by have := eq_of_beq q14; omega)
  have BD : Hid (∀ m, Below w.heap.size w (W.drewN m)) := Lib.hid fun m => hb.trans (belowD W m)
  clear h hb hc hx
  obtain ⟨a, hca⟩ := hcan
  have ha64 : a < 64 := by obtain ⟨n, hn1, hn2⟩ := hca; exact hn2 ▸ able_lt hn1
  have C7 := Lib.hid (able_any HW.out s.of_ a hca)
  have HCA := Lib.hid hca
  have hbit := andNot1 ⟨s.set, hset⟩ ⟨a, ha64⟩
  simp only at hbit
  have HBIT := Lib.hid hbit
  have K14 := Lib.hid q14
  clear hca hbit
  go_enter Try.func30, Try.ntmps30
  go_upto_region 2 with fail
  rw [← hW]
  clear hW
  go_upto_region 19 with (go_at_call 7; with_reducible refine C7.out.mono ?_; rintro e w1 ⟨hb1, rfl⟩; have HB1 := Lib.hid hb1; clear hb1)
  have HW1 := Lib.hid (HW.out.below HB1.out)
  have hc1 := HC.out.below HB1.out
  have hx1 := HX.out.below HB1.out
  have cw0 := hc1.cell (v := .pointer (some ⟨p, 0, Option.none⟩)) 0 rfl
  have x0 := hx1.cell (v := .int .u8 s.k) 0 s.at0
  have x10 := hx1.cell (v := .int .i64 s.of_) 10 s.at10
  have x11 := hx1.cell (v := .int .i64 s.by_) 11 s.at11
  have x12 := hx1.cell (v := .int .u8 s.set) 12 s.at12
  have c3 := HW1.out.blk.cell (v := .map (some fm)) 3 rfl
  obtain ⟨fv, fb, hl⟩ : ∃ (fv : Int) (fb : Bool), ∀ n, (Instr.lookup 62 (.map (some fm)) (.agg #[.int .i64 s.of_, .int .u8 s.set]) true).run Try.prog (w1.drewN n) = .ok (.tuple #[.int .i64 fv, .bool fb]) (w1.drewN n) := by
    refine ⟨(fc FL s.of_ s.set).getD 0, (fc FL s.of_ s.set).isSome, fun n => ?_⟩
    have h1 := (HW1.out.below (belowD w1 n)).facets.look facets62 (zero25 _) (s.of_, s.set) true
    rw [look_fc] at h1
    simp only [if_true] at h1
    refine h1.trans ?_
    cases fc FL s.of_ s.set <;> rfl
  have C6 : Hid (∀ n, Calls Try.prog 6 #[.pointer (some ⟨p, 0, Option.none⟩), .int .i64 s.of_] (w1.drewN n) fun e w' => e = .returned (.bool (entE L s.of_).isSome) ∧ w' = w1.drewN n) := Lib.hid fun n => (is_any (HW1.out.below (belowD w1 n)) s.of_).mono fun e w' hh => ⟨hh.1, hh.2.symm⟩
  have BD1 : Hid (∀ m, Below w.heap.size w (w1.drewN m)) := Lib.hid fun m => (bnext HB.out HB1.out).trans (belowD w1 m)
  clear hc1 hx1 C7
  go_quiet (fail)
  have HWD := Lib.hid (HW1.out.below (belowD w1 nq))
  cases hE : entE L s.of_ with
  | none =>
    have C6b : Hid (Calls Try.prog 6 #[.pointer (some ⟨p, 0, Option.none⟩), .int .i64 s.of_] (w1.drewN nq) fun e w' => e = .returned (.bool false) ∧ w1.drewN nq = w') := Lib.hid ((is_any HWD.out s.of_).mono fun e w' hh => ⟨by rw [hE] at hh; exact hh.1, hh.2⟩)
    clear hE
    go_wp2_with (go_at_call 6; with_reducible refine C6b.out.mono ?_; rintro e w' ⟨rfl, rfl⟩)
    exact HP.out _ false (BD1.out _) (fun h => by cases h) (fun h => absurd h H1.out)
  | some E =>
    have C6b : Hid (Calls Try.prog 6 #[.pointer (some ⟨p, 0, Option.none⟩), .int .i64 s.of_] (w1.drewN nq) fun e w' => e = .returned (.bool true) ∧ w1.drewN nq = w') := Lib.hid ((is_any HWD.out s.of_).mono fun e w' hh => ⟨by rw [hE] at hh; exact hh.1, hh.2⟩)
    have C55b : Hid (Calls Try.prog 55 #[.pointer (some ⟨p, 0, Option.none⟩), .int .i64 s.of_] (w1.drewN nq) fun e w' => e = .returned (.int .u8 E.s.k) ∧ w1.drewN nq = w') := Lib.hid ((kind_any HWD.out s.of_).mono fun e w' hh => ⟨by rw [hE] at hh; exact hh.1, hh.2⟩)
    have HE := Lib.hid hE
    clear hE
    cases hk : ((E.s.k : Int) != 14) with
    | false =>
      go_wp2_with (first | (go_at_call 6; with_reducible refine C6b.out.mono ?_; rintro e w' ⟨rfl, rfl⟩) | (go_at_call 55; with_reducible refine C55b.out.mono ?_; rintro e w' ⟨rfl, rfl⟩))
      exact HP.out _ false (BD1.out _) (fun h => by cases h) (fun h => absurd h H1.out)
    | true =>
      cases hs : ((s.set : Int) != a) with
      | false =>
        go_wp2_with (first | (go_at_call 6; with_reducible refine C6b.out.mono ?_; rintro e w' ⟨rfl, rfl⟩) | (go_at_call 55; with_reducible refine C55b.out.mono ?_; rintro e w' ⟨rfl, rfl⟩))
        exact HP.out _ false (BD1.out _) (fun h => by cases h) (fun h => absurd h H1.out)
      | true =>
        cases hbt : (bits .andNot .u8 (s.set : Int) (a : Int) == 0) with
        | false =>
          go_wp2_with (first | (go_at_call 6; with_reducible refine C6b.out.mono ?_; rintro e w' ⟨rfl, rfl⟩) | (go_at_call 55; with_reducible refine C55b.out.mono ?_; rintro e w' ⟨rfl, rfl⟩))
          exact HP.out _ false (BD1.out _) (fun h => by cases h) (fun h => absurd h H1.out)
        | true =>
          have HF : Hid (FacO L s) := Lib.hid ⟨a, E, HE.out, bne_iff_ne.1 hk, HCA.out, fun e => by rw [e] at hs; simp at hs, HBIT.out (eq_of_beq hbt)⟩
          go_wp2_with (first | (go_at_call 6; with_reducible refine C6b.out.mono ?_; rintro e w' ⟨rfl, rfl⟩) | (go_at_call 55; with_reducible refine C55b.out.mono ?_; rintro e w' ⟨rfl, rfl⟩))
          all_goals exact HP.out _ _ (BD1.out _) (fun _ _ => HF.out) (fun h => absurd h H1.out)
set_option maxRecDepth 100000 in
set_option maxHeartbeats 8000000 in
theorem fits_k0 (h : Wd w hi p tm fm ps cs ms L FL lt) (r : Int) (s : WV) (q6 : ((s.k : Int) == 6) = false) (q7 : ((s.k : Int) == 7) = false) (q9 : ((s.k : Int) == 9) = false) (q11 : ((s.k : Int) == 11) = false) (q15 : ((s.k : Int) == 15) = false) (q16 : ((s.k : Int) == 16) = false) (q13 : ((s.k : Int) == 13) = false) (q14 : ((s.k : Int) == 14) = false) :
    Calls Try.prog 30 #[.pointer (some ⟨p, 0, Option.none⟩), .int .i64 r, .agg s.arr] w fun e w' => FitsP L s w e w' := by
  obtain ⟨P, hP1, hP2⟩ : ∃ P : Ending → World → Prop, (∀ (w' : World) (β : Bool), Below w.heap.size w w' → (β = true → s.k = 14 → FacO L s) → (s.k = 1 → β = true) → P (.returned (.bool β)) w') ∧ (∀ e w', P e w' → FitsP L s w e w') := ⟨_, fun w' β h1 h2 h3 => ⟨h1, β, rfl, h2, h3⟩, fun e w' h => h⟩
  refine Calls.mono (R := P) ?_ hP2
  have HP := Lib.hid hP1
  clear hP1 hP2
  obtain ⟨W, hW⟩ : ∃ W, W = (w.alloc (.cells #[.pointer (some ⟨p, 0, Option.none⟩)] 30)).alloc (.cells s.arr 53) := ⟨_, rfl⟩
  have hb : Below w.heap.size w W := by rw [hW]; exact ((Below.refl _ _).alloc (Nat.le_refl _) _).alloc (by simp) _
  have hc : BlkN W w.heap.size 30 #[.pointer (some ⟨p, 0, Option.none⟩)] := by rw [hW]; exact (BlkN.at_ rfl _ _).alloc _
  have hx : BlkN W (w.heap.size + 1) 53 s.arr := by rw [hW]; exact BlkN.at_ (by simp) _ _
  have HW := Lib.hid (h.below hb)
  have HB := Lib.hid hb
  have HC := Lib.hid hc
  have HX := Lib.hid hx
  have cw0 := hc.cell (v := .pointer (some ⟨p, 0, Option.none⟩)) 0 rfl
  have x0 := hx.cell (v := .int .u8 s.k) 0 s.at0
  have x10 := hx.cell (v := .int .i64 s.of_) 10 s.at10
  have x11 := hx.cell (v := .int .i64 s.by_) 11 s.at11
  have x12 := hx.cell (v := .int .u8 s.set) 12 s.at12
  have H14 : Hid (s.k ≠ 14) := Lib.hid (by have := ne_of_beq_false q14; omega)
  have BD : Hid (∀ m, Below w.heap.size w (W.drewN m)) := Lib.hid fun m => hb.trans (belowD W m)
  clear h hb hc hx
  go_enter Try.func30, Try.ntmps30
  go_upto_region 2 with fail
  rw [← hW]
  clear hW
  go_wp2_with fail
  exact HP.out _ _ HB.out (fun _ h => absurd h H14.out) (fun _ => rfl)
theorem fits_any (h : Wd w hi p tm fm ps cs ms L FL lt) (r : Int) (s : WV) (hset : s.k = 14 → s.set < 64) (hcan : s.k = 14 → ∃ a, Can (gr L) s.of_ a) :
    Calls Try.prog 30 #[.pointer (some ⟨p, 0, Option.none⟩), .int .i64 r, .agg s.arr] w fun e w' => FitsP L s w e w' := by
  cases q6 : ((s.k : Int) == 6) with
  | true => exact fits_k6 h r s  q6
  | false =>
  cases q7 : ((s.k : Int) == 7) with
  | true => exact fits_k7 h r s q6 q7
  | false =>
  cases q9 : ((s.k : Int) == 9) with
  | true => exact fits_k9 h r s q6 q7 q9
  | false =>
  cases q11 : ((s.k : Int) == 11) with
  | true => exact fits_k11 h r s q6 q7 q9 q11
  | false =>
  cases q15 : ((s.k : Int) == 15) with
  | true => exact fits_k15 h r s q6 q7 q9 q11 q15
  | false =>
  cases q16 : ((s.k : Int) == 16) with
  | true => exact fits_k16 h r s q6 q7 q9 q11 q15 q16
  | false =>
  cases q13 : ((s.k : Int) == 13) with
  | true => exact fits_k13 h r s q6 q7 q9 q11 q15 q16 q13
  | false =>
  cases q14 : ((s.k : Int) == 14) with
  | true => exact fits_k14 h r s (hset (eq_of_beq q14)) (hcan (eq_of_beq q14)) q6 q7 q9 q11 q15 q16 q13 q14
  | false =>
  exact fits_k0 h r s q6 q7 q9 q11 q15 q16 q13 q14
end
end Go.Proofs.Ythafojadcodkoaa
