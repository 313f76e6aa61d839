/- The walk of WordFronts. -/
import Derived.Test.YtjmelamllapmiaaGreatDoorT
import Derived.Test.YtjmelamllapmiaaGreatDoorWa
import Derived.Test.YtjmelamllapmiaaGreatDoorXh
import Derived.Test.YtjmelamllapmiaaGreatDoorXk
import Derived.Test.YtjmelamllapmiaaGreatDoorXw
import Derived.Test.YtjmelamllapmiaaGreatDoorNd
namespace Go.Proofs.YtjmelamllapmiaaGreatDoor
open Go.RowKit

/-- What Front answers. -/
def frontX (l : List Tk) : Va × Int × Int := match tkV 16 l 0 with
  | .ok x r => (x.1, ((l.length - r.length : Nat) : Int), 0)
  | .no r => (zeroVa, ((l.length - r.length : Nat) : Int), 30)
theorem FrontP.x {l : List Tk} {n : Nat} {e : Ending} {w : World} (h : FrontP l n e w) : ∃ k n0 t A len cap r, e = .returned (.tuple #[.agg #[.int .u8 k, .int .i64 n0, .string t, .slice A len cap, .int .i64 r], .int .i64 (frontX l).2.1, .int .i64 (frontX l).2.2]) ∧ IsVaR w (Own34 w n) (.agg #[.int .u8 k, .int .i64 n0, .string t, .slice A len cap, .int .i64 r]) (frontX l).1 := by
  unfold FrontP at h
  unfold frontX
  cases hL : tkV 16 l 0 with
  | no t =>
    rw [hL] at h
    exact ⟨_, _, _, _, _, _, _, h, IsVaR.zero _ _⟩
  | ok x t =>
    rw [hL] at h
    obtain ⟨v, rfl, hv⟩ := h
    obtain ⟨k, n, t, A, len, cap, r, rfl⟩ := hv.shape
    exact ⟨_, _, _, _, _, _, _, rfl, hv⟩
attribute [local irreducible] wpList
set_option maxRecDepth 100000 in
set_option maxHeartbeats 8000000 in
theorem fronts_law (l : List Tk) (v : Value) (x : Va) (vx : Value) (w : World) (h : IsTks w w.heap.size v l) (hok : ∀ t ∈ l, TkL t) (hx : IsVa w w.heap.size vx x) (hf : Fit x) (hv : Vars w) : Calls Tryz.prog 3 #[v, vx] w fun e w' => e = .returned (.bool true) ∧ Below w.heap.size w w' := by
  obtain ⟨X, at_, er, hX⟩ : ∃ X a e, frontX l = (X, a, e) := ⟨_, _, _, rfl⟩
  have C10 : Hid (∀ w' u, IsTks w' w'.heap.size u l → Calls Tryz.prog 10 #[u] w' fun e w2 => Below w'.heap.size w' w2 ∧ ∃ k n t A len cap r, e = .returned (.tuple #[.agg #[.int .u8 k, .int .i64 n, .string t, .slice A len cap, .int .i64 r], .int .i64 at_, .int .i64 er]) ∧ IsVaR w2 (Own34 w2 w'.heap.size) (.agg #[.int .u8 k, .int .i64 n, .string t, .slice A len cap, .int .i64 r]) X) :=
    Lib.hid (fun w' u hu => (front_any l w' _ u hu (Nat.le_refl _) hok).mono fun e w2 h => ⟨h.1, by have := h.2.x; rw [hX] at this; exact this⟩)
  have C11 : Hid (∀ w' B u, IsTks w' B u l → B ≤ w'.heap.size → Calls Tryz.prog 11 #[u] w' fun e w2 => Below w'.heap.size w' w2 ∧ ∃ k n t A len cap r, e = .returned (.tuple #[.agg #[.int .u8 k, .int .i64 n, .string t, .slice A len cap, .int .i64 r], .int .i64 at_, .int .i64 er]) ∧ IsVaR w2 (Own34 w2 w'.heap.size) (.agg #[.int .u8 k, .int .i64 n, .string t, .slice A len cap, .int .i64 r]) X) :=
    Lib.hid (fun w' B u hu hB => (rfront_any l w' B u hu hB hok).mono fun e w2 h => ⟨h.1, by have := h.2.x; rw [hX] at this; exact this⟩)
  clear hX hok
  have hh := h
  obtain ⟨hl48, A, cap, hcap, rfl, -⟩ := h
  have hlb : l.length ≤ 2932031007317 := by omega
  have KT : Hid (∀ w', Below w.heap.size w w' → IsTks w' w.heap.size (.slice A l.length cap) l) := Lib.hid (fun w' hb => hh.keep fun b h => hb.block b h)
  have HV := Lib.hid hv
  have HF := Lib.hid hf
  have HX := Lib.hid hx
  obtain ⟨kx, nx, sx, Ax, lenx, capx, rx, rfl⟩ := hx.shape
  have KX : Hid (∀ w', Below w.heap.size w w' → IsVa w' w.heap.size (.agg #[.int .u8 kx, .int .i64 nx, .string sx, .slice Ax lenx capx, .int .i64 rx]) x) := Lib.hid (fun w' hb => HX.out.keep fun b h => hb.block b h)
  clear hh hv hf hx HX
  obtain ⟨g, hg⟩ : ∃ g, g = greatL x 20000 := ⟨_, rfl⟩
  obtain ⟨TK, ee, hTK⟩ : ∃ T e, tokX x = (T, e) := ⟨_, _, rfl⟩
  have htl : TK.length ≤ 1048577 := by have := tokX_len x; rw [hTK] at this; exact this
  go_enter Tryz.func3, Tryz.ntmps3
  go_upto_region 1 with fail
  obtain ⟨W, hW⟩ : ∃ W, W = w.alloc (.cells #[.int .u8 kx, .int .i64 nx, .string sx, .slice Ax lenx capx, .int .i64 rx] 27) := ⟨_, rfl⟩
  have HBW : Hid (Below w.heap.size w W) := Lib.hid (by rw [hW]; exact (Below.refl _ w).alloc (Nat.le_refl _) _)
  have H0 : Hid (BlkN W w.heap.size 27 #[.int .u8 kx, .int .i64 nx, .string sx, .slice Ax lenx capx, .int .i64 rx]) := Lib.hid (by rw [hW]; exact BlkN.at_ rfl _ _)
  have KT : Hid (∀ w', Below W.heap.size W w' → IsTks w' w.heap.size (.slice A l.length cap) l) := Lib.hid (fun w' hb => KT.out w' (bnext HBW.out hb))
  have KX : Hid (∀ w', Below W.heap.size W w' → IsVa w' w.heap.size (.agg #[.int .u8 kx, .int .i64 nx, .string sx, .slice Ax lenx capx, .int .i64 rx]) x) := Lib.hid (fun w' hb => KX.out w' (bnext HBW.out hb))
  have HV : Hid (Vars W) := Lib.hid (HV.out.on HBW.out)
  have KS : Hid (∀ w', Below W.heap.size W w' → w.heap.size ≤ w'.heap.size) := Lib.hid (fun w' hb => (bnext HBW.out hb).size)
  have PX : Hid (∀ w', Below W.heap.size W w' → w'.cell? ⟨w.heap.size, 0, Option.none⟩ = some (.int .u8 kx) ∧ w'.cell? ⟨w.heap.size, 1, Option.none⟩ = some (.int .i64 nx) ∧ w'.cell? ⟨w.heap.size, 2, Option.none⟩ = some (.string sx) ∧ w'.cell? ⟨w.heap.size, 3, Option.none⟩ = some (.slice Ax lenx capx) ∧ w'.cell? ⟨w.heap.size, 4, Option.none⟩ = some (.int .i64 rx) ∧ w.heap.size < w'.heap.size) := Lib.hid (fun w' hb => by
    have h := H0.out.below hb
    exact ⟨h.cell 0 rfl, h.cell 1 rfl, h.cell 2 rfl, h.cell 3 rfl, h.cell 4 rfl, h.lt⟩)
  have C15 := Lib.hid (fun w' (hb : Below W.heap.size W w') => awake_any w' (HV.out.on hb))
  have C14 := Lib.hid (fun w' (hb : Below W.heap.size W w') => great_any x w' w.heap.size _ 20000 (KX.out w' hb) (KS.out w' hb) (by omega) (by omega))
  rw [← hg] at C14
  have C16 : Hid (∀ w', Below W.heap.size W w' → Calls Tryz.prog 16 #[.agg #[.int .u8 kx, .int .i64 nx, .string sx, .slice Ax lenx capx, .int .i64 rx]] w' fun e w2 => Below w'.heap.size w' w2 ∧ ∃ A cap, e = .returned (.tuple #[.slice A TK.length cap, .int .i64 ee]) ∧ TRow w2 w'.heap.size (.slice A TK.length cap) TK) := Lib.hid (fun w' hb => (Tokens_any w' (KX.out w' hb) (KS.out w' hb) HF.out (HV.out.on hb)).mono fun e w2 h => by rw [hTK] at h; exact h)
  have C17 : Hid (∀ w', Below W.heap.size W w' → Calls Tryz.prog 17 #[.agg #[.int .u8 kx, .int .i64 nx, .string sx, .slice Ax lenx capx, .int .i64 rx]] w' fun e w2 => Below w'.heap.size w' w2 ∧ ∃ A cap, e = .returned (.tuple #[.slice A TK.length cap, .int .i64 ee]) ∧ TRow w2 w'.heap.size (.slice A TK.length cap) TK) := Lib.hid (fun w' hb => (rTokens_any w' (KX.out w' hb) (KS.out w' hb) HF.out (HV.out.on hb)).mono fun e w2 h => by rw [hTK] at h; exact h)
  have C9 := Lib.hid (handed_any W (KT.out W (Below.refl _ _)) (KS.out W (Below.refl _ _)) hlb)
  rw [← hW]
  clear hW hTK hg
  go_upto_region 2 with (first | (go_at_call 9; refine C9.out.mono ?_; rintro e w1 ⟨hb0, u1, rfl, hh1⟩; have hh2 := hh1; obtain ⟨g1, c1, hu1, -⟩ := hh2; subst hu1; have HB0 := Lib.hid hb0; have HH := Lib.hid hh1; clear hb0 hh1))
  go_upto_region 3 with (first | (go_at_call 10; refine (C10.out _ _ (HH.out.tks hl48)).mono ?_; rintro e w2 ⟨hb1, k1, n1, s1, A1, len1, cap1, r1, rfl, hx1⟩; have HB1 := Lib.hid hb1; have HX1 := Lib.hid hx1; clear hb1 hx1))
  obtain ⟨X1, hX1⟩ : ∃ X, X = w2.alloc (.cells #[.int .u8 k1, .int .i64 n1, .string s1, .slice A1 len1 cap1, .int .i64 r1] 27) := ⟨_, rfl⟩
  have HC1 : Hid (BlkN X1 w2.heap.size 27 #[.int .u8 k1, .int .i64 n1, .string s1, .slice A1 len1 cap1, .int .i64 r1]) := Lib.hid (by rw [hX1]; exact BlkN.at_ rfl _ _)
  have HL1 : Hid (Below w2.heap.size w2 X1) := Lib.hid (by rw [hX1]; exact (Below.refl _ _).alloc (Nat.le_refl _) _)
  rw [← hX1]
  clear hX1
  have hz1 := HC1.out.lt
  go_upto_region 4 with (first | (go_at_call 10; refine (C10.out _ _ ((HH.out.below (bnext HB1.out HL1.out)).tks hl48)).mono ?_; rintro e w3 ⟨hb2, k2, n2, s2, A2, len2, cap2, r2, rfl, hx2⟩; have HB2 := Lib.hid hb2; have HX2 := Lib.hid hx2; clear hb2 hx2))
  obtain ⟨X2, hX2⟩ : ∃ X, X = w3.alloc (.cells #[.int .u8 k2, .int .i64 n2, .string s2, .slice A2 len2 cap2, .int .i64 r2] 27) := ⟨_, rfl⟩
  have HC2 : Hid (BlkN X2 w3.heap.size 27 #[.int .u8 k2, .int .i64 n2, .string s2, .slice A2 len2 cap2, .int .i64 r2]) := Lib.hid (by rw [hX2]; exact BlkN.at_ rfl _ _)
  have HL2 : Hid (Below w3.heap.size w3 X2) := Lib.hid (by rw [hX2]; exact (Below.refl _ _).alloc (Nat.le_refl _) _)
  rw [← hX2]
  clear hX2
  have hz2 := HC2.out.lt
  go_upto_region 5 with (first | (go_at_call 11; refine (C11.out _ _ _ (KT.out _ (bnext HB0.out (bnext HB1.out (bnext HL1.out (bnext HB2.out HL2.out))))) (KS.out _ (bnext HB0.out (bnext HB1.out (bnext HL1.out (bnext HB2.out HL2.out)))))).mono ?_; rintro e w4 ⟨hb3, k3, n3, s3, A3, len3, cap3, r3, rfl, hx3⟩; have HB3 := Lib.hid hb3; have HX3 := Lib.hid hx3; clear hb3 hx3))
  obtain ⟨X3, hX3⟩ : ∃ X, X = w4.alloc (.cells #[.int .u8 k3, .int .i64 n3, .string s3, .slice A3 len3 cap3, .int .i64 r3] 27) := ⟨_, rfl⟩
  have HC3 : Hid (BlkN X3 w4.heap.size 27 #[.int .u8 k3, .int .i64 n3, .string s3, .slice A3 len3 cap3, .int .i64 r3]) := Lib.hid (by rw [hX3]; exact BlkN.at_ rfl _ _)
  have HL3 : Hid (Below w4.heap.size w4 X3) := Lib.hid (by rw [hX3]; exact (Below.refl _ _).alloc (Nat.le_refl _) _)
  rw [← hX3]
  clear hX3
  have hz3 := HC3.out.lt
  have HK2 : Hid (Below X1.heap.size X1 X3) := Lib.hid (bnext HB2.out (bnext HL2.out (bnext HB3.out HL3.out)))
  have HK1 : Hid (Below w2.heap.size w2 X3) := Lib.hid (bnext HL1.out HK2.out)
  have HK3 : Hid (Below w3.heap.size w3 X3) := Lib.hid (bnext HL2.out (bnext HB3.out HL3.out))
  have HK0 : Hid (Below w1.heap.size w1 X3) := Lib.hid (bnext HB1.out HK1.out)
  have C12 : Hid (Calls Tryz.prog 12 #[.agg #[.int .u8 k1, .int .i64 n1, .string s1, .slice A1 len1 cap1, .int .i64 r1], .agg #[.int .u8 k2, .int .i64 n2, .string s2, .slice A2 len2 cap2, .int .i64 r2], .agg #[.int .u8 k3, .int .i64 n3, .string s3, .slice A3 len3 cap3, .int .i64 r3]] X3 fun e w' => e = .returned (.bool true) ∧ Below w1.heap.size X3 w') := Lib.hid (same_any X X3 w1.heap.size X1.heap.size _ _ _
    (((HX1.out.mono (R' := fun b o => RW X3 w1.heap.size X1.heap.size b o ∧ b < w2.heap.size) fun b o h => by
      have hl := h.lt
      obtain ⟨h1, h2, cur, h3⟩ := h
      exact ⟨⟨h1, by have := HL1.out.size; omega, h2, cur, h3.below HK1.out⟩, hl⟩).keep fun b o h => HK1.out.block b h.2).mono fun b o h => h.1)
    ((HX2.out.below HK3.out).mono fun b o h => ⟨h.1, h.lt⟩)
    ((HX3.out.below HL3.out).mono fun b o h => ⟨by have := h.1; have := HB2.out.size; have := HL2.out.size; omega, h.lt⟩)
    (by have := HB1.out.size; have := HL1.out.size; omega) HK2.out.size)
  have C13 : Hid (∀ w', Below w1.heap.size w1 w' → Calls Tryz.prog 13 #[.slice (some ⟨g1, 0, Option.none⟩) l.length c1, .slice A l.length cap] w' fun e w2 => e = .returned (.bool true) ∧ Below w'.heap.size w' w2) := Lib.hid (fun w' hb => left_any w' (HH.out.below hb) (KT.out w' (bnext HB0.out hb)) (KS.out w' (bnext HB0.out hb)))
  have g1' := HC1.out.below HK2.out
  have g2' := HC2.out.below (bnext HB3.out HL3.out)
  have g3' := HC3.out
  have l1 := g1'.lt
  have l2 := g2'.lt
  have d10 := g1'.cell 0 rfl
  have d11 := g1'.cell 1 rfl
  have d12 := g1'.cell 2 rfl
  have d13 := g1'.cell 3 rfl
  have d14 := g1'.cell 4 rfl
  have d20 := g2'.cell 0 rfl
  have d21 := g2'.cell 1 rfl
  have d22 := g2'.cell 2 rfl
  have d23 := g2'.cell 3 rfl
  have d24 := g2'.cell 4 rfl
  have d30 := g3'.cell 0 rfl
  have d31 := g3'.cell 1 rfl
  have d32 := g3'.cell 2 rfl
  have d33 := g3'.cell 3 rfl
  have d34 := g3'.cell 4 rfl
  clear g1' g2' g3' C10 C11 C9
  go_upto_region 7 with (first | (go_at_call 12; refine C12.out.mono ?_; rintro e w5 ⟨rfl, hb5⟩; have HB5 : Hid (Below w1.heap.size w1 w5) := Lib.hid (HK0.out.trans hb5); clear hb5) | (go_at_call 13; refine (C13.out _ HB5.out).mono ?_; rintro e w6 ⟨rfl, hb6⟩; have HB6 : Hid (Below W.heap.size W w6) := Lib.hid (bnext HB0.out (bnext HB5.out hb6)); clear hb6))
  clear d10 d11 d12 d13 d14 d20 d21 d22 d23 d24 d30 d31 d32 d33 d34 l1 l2 hz1 hz2 hz3 HC1 HC2 HC3 HX1 HX2 HX3 HK1 HK2 HK3 HK0 HL1 HL2 HL3 HB1 HB2 HB3 HH C12 C13
  obtain ⟨x0, x1, x2, x3, x4, hxl⟩ := PX.out w6 HB6.out
  by_cases hg0 : g < 0
  · go_wp2_with (first | (go_at_call 14; refine (C14.out _ HB6.out).mono ?_; rintro e w7 ⟨⟨rfl, hg7⟩, hb7⟩; have HB7 := Lib.hid (bnext HB6.out hb7); clear hb7) | (go_at_call 15; refine (C15.out _ HB7.out).mono ?_; rintro e w8 ⟨rfl, hb8⟩))
    go_ret
    exact ⟨rfl, bnext HBW.out (bnext HB7.out hb8)⟩
  go_upto_region 9 with (first | (go_at_call 14; refine (C14.out _ HB6.out).mono ?_; rintro e w7 ⟨⟨rfl, hg7⟩, hb7⟩; have HB7 := Lib.hid (bnext HB6.out hb7); clear hb7 hg7))
  clear x0 x1 x2 x3 x4 hxl C14 hg0
  obtain ⟨x0, x1, x2, x3, x4, hxl⟩ := PX.out w7 HB7.out
  go_upto_region 10 with (first | (go_at_call 16; refine (C16.out _ HB7.out).mono ?_; rintro e w8 ⟨hb8, A8, cap8, rfl, hv8⟩; have HC8 := Lib.hid hb8; have HB8 := Lib.hid (bnext HB7.out hb8); have HV8 := Lib.hid hv8; clear hb8 hv8))
  clear x0 x1 x2 x3 x4 hxl
  obtain ⟨x0, x1, x2, x3, x4, hxl⟩ := PX.out w8 HB8.out
  go_upto_region 11 with (first | (go_at_call 16; refine (C16.out _ HB8.out).mono ?_; rintro e w9 ⟨hb9, A9, cap9, rfl, hv9⟩; have HC9 := Lib.hid hb9; have HB9 := Lib.hid (bnext HB8.out hb9); have HV9 := Lib.hid hv9; clear hb9 hv9))
  clear x0 x1 x2 x3 x4 hxl
  obtain ⟨x0, x1, x2, x3, x4, hxl⟩ := PX.out w9 HB9.out
  go_upto_region 12 with (first | (go_at_call 17; refine (C17.out _ HB9.out).mono ?_; rintro e w10 ⟨hb10, A10, cap10, rfl, hv10⟩; have HC10 := Lib.hid hb10; have HB10 := Lib.hid (bnext HB9.out hb10); have HV10 := Lib.hid hv10; clear hb10 hv10))
  clear x0 x1 x2 x3 x4 hxl
  have C18 : Hid (Calls Tryz.prog 18 #[.slice A8 TK.length cap8, .slice A9 TK.length cap9, .slice A10 TK.length cap10] w10 fun e w' => e = .returned (.bool true) ∧ Below w7.heap.size w10 w') := Lib.hid (tokens_any TK (by omega) w10 w7.heap.size w8.heap.size _ _ _ (HV8.out.below (bnext HC9.out HC10.out)) (fun g hg => (HV8.out.blk hg).2) (HV9.out.below HC10.out) (HV10.out.low HC9.out.size) HC8.out.size (Nat.le_trans HC9.out.size HC10.out.size))
  have HK7 : Hid (Below w7.heap.size w7 w10) := Lib.hid (bnext HC8.out (bnext HC9.out HC10.out))
  go_wp2_with (first | (go_at_call 18; refine C18.out.mono ?_; rintro e w11 ⟨rfl, hb11⟩; have HB11 : Hid (Below W.heap.size W w11) := Lib.hid (bnext HB7.out (HK7.out.trans hb11)); clear hb11) | (go_at_call 15; refine (C15.out _ HB11.out).mono ?_; rintro e w12 ⟨rfl, hb12⟩))
  go_ret
  exact ⟨rfl, bnext HBW.out (bnext HB11.out hb12)⟩
end Go.Proofs.YtjmelamllapmiaaGreatDoor
