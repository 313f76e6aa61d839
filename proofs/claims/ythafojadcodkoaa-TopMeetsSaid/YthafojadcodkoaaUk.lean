/- lives. -/
import Derived.Test.YthafojadcodkoaaUj
namespace Go.Proofs.Ythafojadcodkoaa
open Go.RowKit Go.ChangeMaps

theorem madeI_one : madeI 1 = #[.int .i64 0] := by
  have h : (madeI 1).toList = [Value.int .i64 0] := by simp [madeI, madeCells]
  exact Array.ext' h
theorem row_nil (w : World) : RowA w (.slice Option.none 0 0) [] := ⟨Option.none, 0, rfl, Nat.le_refl _, fun _ => ⟨rfl, rfl⟩, by decide, fun u hu => (by cases hu), fun ad h => (by cases h)⟩
theorem gr_one {b : Nat} {s : WV} : gr [⟨1, b, s⟩] 1 = some ⟨s.k, s.of_, s.set⟩ := rfl
theorem gr_one' {b : Nat} {s : WV} {r : Int} {t : Th} (h : gr [⟨1, b, s⟩] r = some t) : r = 1 ∧ t.k = s.k := by
  obtain ⟨e, hE, rfl⟩ := gr_some h
  obtain ⟨he, rfl⟩ := entE_mem hE
  rw [List.mem_singleton.1 he]
  exact ⟨rfl, rfl⟩
theorem ends_one {b : Nat} {s : WV} (hk : s.k = 1) : endsF (gr [⟨1, b, s⟩]) 1 1 = true ∧ ableF (gr [⟨1, b, s⟩]) 1 1 = 3 ∧ baseF (gr [⟨1, b, s⟩]) 1 1 = 1 := by
  rw [endsF, ableF, baseF, gr_one]
  simp only [hk]
  exact ⟨if_neg (by decide), (if_neg (by decide)).trans ((if_neg (by decide)).trans rfl), if_neg (by decide)⟩
theorem sound_one {b : Nat} {s : WV} (hk : s.k = 1) : Sound (gr [⟨1, b, s⟩]) (fc []) := by
  refine ⟨fun r t h => ?_, fun f t h h14 => ?_, fun f t a h h14 => ?_, fun o a f => ⟨fun h => (by cases h), fun ⟨t, h, h14, _⟩ => ?_⟩⟩
  · obtain ⟨rfl, -⟩ := gr_one' h
    exact ⟨1, (ends_one hk).1⟩
  all_goals
    obtain ⟨-, h2⟩ := gr_one' h
    rw [hk, h14] at h2
    exact absurd h2 (by decide)
section
attribute [local irreducible] wpList
set_option maxRecDepth 100000 in
set_option maxHeartbeats 8000000 in
theorem lives_any (w : World) : Calls Try.prog 4 #[] w fun e w' => e = .returned (.bool true) ∧ Below w.heap.size w w' := by
  have C11 := Lib.hid (new_full w (.slice Option.none 0 0) [] (row_nil w) (fun u hu => by cases hu))
  obtain ⟨lo, hlo⟩ : ∃ lo, lo = w.heap.size := ⟨_, rfl⟩
  go_enter Try.func4, Try.ntmps4
  go_upto_region 2 with (go_at_call 11; refine C11.out.mono ?_; rintro e w1 ⟨hb1, ⟨h0, -⟩ | ⟨p, tm, fm, cb, mb, ps, rfl, -, hwd, hl, hcb, hmb, hlm⟩⟩)
  rw [show (([] : List Value).length + 1) = 1 from rfl, madeI_one] at hmb
  have hwd : Wd w1 w1.heap.size p tm fm ps (.slice (some ⟨cb, 0, Option.none⟩) 1 1) (.slice (some ⟨mb, 0, Option.none⟩) 1 1) [] [] 0 := hwd
  have C12 := Lib.hid (make_cell hwd lo (by omega) hmb hmb.lt)
  have HB1 := Lib.hid hb1
  have hlo3 : lo ≤ p ∧ lo ≤ tm ∧ lo ≤ fm := by omega
  clear hcb hmb hwd hb1 C11
  go_upto_region 7 with (go_at_call 12; refine C12.out.mono ?_; rintro e w2 ⟨rfl, hb2, b, s, hwd2, hk⟩)
  have HB2 := Lib.hid hb2
  have HW2 := Lib.hid hwd2
  have hS := sound_one (b := b) hk
  have hkeys : ∀ e ∈ [(⟨1, b, s⟩ : Ent)], e.r ≤ 1 := fun e he => by rw [List.mem_singleton.1 he]; exact Int.le_refl _
  have C8 := Lib.hid (Narrow_any ownWhat_any hwd2 (by decide) hS lo hlo3 (by decide) (by decide) hkeys 1 1 (by decide) ⟨1, b, s⟩ rfl)
  have hway : Way1 w2 lo (gr [⟨1, b, s⟩]) (fc []) w1.heap.size p tm fm ps (.slice (some ⟨cb, 0, Option.none⟩) 1 1) (some ⟨mb, 0, Option.none⟩) 1 1 w2 [⟨1, b, s⟩] [] 1 := ⟨hwd2, hS, Ext.refl _, fun _ _ _ h => h, hkeys, Below.refl _ _⟩
  have hgood : Good [⟨1, b, s⟩] 1 1 3 := ⟨⟨_, rfl⟩, ⟨1, (ends_one hk).1, (ends_one hk).2.1⟩, by unfold rootG; rw [gr_one]; simp only [hk]; exact if_neg (by decide)⟩
  have HWAY := Lib.hid hway
  have HGOOD := Lib.hid hgood
  have HEND := Lib.hid (ends_one (b := b) hk)
  clear hb2 hwd2 hS hkeys hway hgood hk C12
  go_upto_region 8 with (go_at_call 8; refine C8.out.mono ?_; rintro e w3 ⟨q, L', FL', lt', rfl, hn⟩)
  obtain ⟨s1, s2, -, s4, -⟩ := HWAY.out.step HGOOD.out hn
  have C7 := Lib.hid (able_any s1.wd q 1 s2.2.1)
  obtain ⟨k1, k2, k3⟩ := s4.ends HEND.out.1
  obtain ⟨g1, g2⟩ := base_good s2 k1
  have hbase : baseF (gr L') (1 + 1) q = 1 := by rw [g2, k3]; exact HEND.out.2.2
  have C10 : Hid (∀ w', Below w3.heap.size w3 w' → Calls Try.prog 10 #[.pointer (some ⟨p, 0, Option.none⟩), .int .i64 q] w' fun e w2 => Below w'.heap.size w' w2 ∧ e = .returned (.int .i64 1)) := Lib.hid fun w' hb => by
    have h := base_any (s1.wd.below hb) q (1 + 1) g1 (by decide)
    rw [hbase] at h
    exact h
  have HB3 := Lib.hid s1.low
  clear s1 s2 s4 k1 k2 k3 g1 g2 hbase hn C8
  go_wp2_with (first
    | (go_at_call 7; refine C7.out.mono ?_; rintro e w4 ⟨hb4, rfl⟩; have HB4 := Lib.hid hb4; clear hb4)
    | (go_at_call 10; refine (C10.out _ HB4.out).mono ?_; rintro e w5 ⟨hb5, rfl⟩; have HB5 := Lib.hid (bnext HB4.out hb5); clear hb5))
  go_ret
  refine ⟨rfl, ?_⟩
  subst hlo
  have h1 := HB1.out.size
  exact ((HB1.out.trans (HB2.out)).trans HB3.out).trans (HB5.out.mono (by have := HB3.out.size; have := HB2.out.size; omega))
end
end Go.Proofs.Ythafojadcodkoaa
