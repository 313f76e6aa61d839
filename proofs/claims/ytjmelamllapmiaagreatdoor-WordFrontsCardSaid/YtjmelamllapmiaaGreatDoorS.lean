/- The laws of word: awake. -/
import Derived.Test.YtjmelamllapmiaaGreatDoorRa
namespace Go.Proofs.YtjmelamllapmiaaGreatDoor
open Go.RowKit

def awV : Va := .mk 3 0 ⟨#[]⟩ [.mk 1 1 ⟨#[]⟩ [] 0, .mk 3 0 ⟨#[]⟩ [] 0, .mk 4 0 ⟨#[]⟩ [] 2] 0
theorem aw_text : textR awV = ([91, 49, 32, 91, 93, 32, 35, 50, 93], 0) := by decide +kernel
theorem aw_read : ∀ x t, readL [91, 49, 32, 50] ≠ .ok x t := by
  intro x t h
  have : (match readL [91, 49, 32, 50] with | .ok _ _ => false | .no _ => true) = true := by decide +kernel
  rw [h] at this; cases this
theorem aw_read2 : readL [91, 49, 32, 50] = .no [] := by kernel_rfl
theorem aw_unq : unqL 3 [34, 97, 34] = .ok [97] [] := by kernel_rfl
theorem aw_cut : cutR ⟨#[120, 32, 61, 32, 35, 51]⟩ = .ok [⟨1, 0, 0, [120], 0⟩, ⟨5, 2, 0, [61], 0⟩, ⟨4, 4, 0, [], 3⟩] [] := by kernel_rfl
def awT : List Tk := [⟨1, 0, 0, [97], 0⟩, ⟨5, 0, 0, [91], 0⟩]
theorem aw_join : joinR awT = ([97, 32, 91], 0) := by decide +kernel
theorem aw_quote : quoteL [10] = [34, 92, 110, 34] := by decide +kernel
/-- The variables of the library that the laws need. -/
structure Vars (w : World) : Prop where
  tab : TabI w
  err : ∃ tp q, w.var? Tryz.prog "strconv.ErrRange" = some #[.iface tp q]
theorem Vars.on {w w' : World} (h : Vars w) (hb : Below w.heap.size w w') : Vars w' := ⟨h.tab.on hb, let ⟨tp, q, h⟩ := h.err; ⟨tp, q, varB h hb⟩⟩
def c15 : Array Value := #[.int .u8 1, .int .i64 1, .string ⟨#[]⟩, .slice Option.none 0 0, .int .i64 0, .int .u8 3, .int .i64 0, .string ⟨#[]⟩, .slice Option.none 0 0, .int .i64 0, .int .u8 4, .int .i64 0, .string ⟨#[]⟩, .slice Option.none 0 0, .int .i64 2]
theorem at_of {w : World} {b : Nat} {T : TypeId} {cs : Array Value} (h : BlkN w b T cs) (o : Nat) (l : List Value) (hl : ∀ j v, l[j]? = some v → cs[o + j]? = some v) : At w b o l := fun j v hv => by
  rw [h.cell_eq]; exact hl j v hv
theorem awV_is {w : World} {b : Nat} (h : BlkN w b 27 c15) : IsVa w (b + 1) (.agg #[.int .u8 3, .int .i64 0, .string ⟨#[]⟩, .slice (some ⟨b, 0, Option.none⟩) 3 3, .int .i64 0]) awV := by
  unfold IsVa awV IsVaR
  refine ⟨by decide, by decide, by decide, by simp, _, 3, by simp, rfl, fun _ => ⟨b, 0, by omega, rfl, ?_⟩⟩
  unfold IsVasR
  refine ⟨⟨_, _, _, _, _, at_of h 0 [.int .u8 1, .int .i64 1, .string ⟨#[]⟩, .slice Option.none 0 0, .int .i64 0] (by intro j v hv; match j, hv with | 0, hv => exact hv | 1, hv => exact hv | 2, hv => exact hv | 3, hv => exact hv | 4, hv => exact hv), leafV _ _ _ _ _ _ (by decide) (by decide) (by decide)⟩, ?_⟩
  unfold IsVasR
  refine ⟨⟨_, _, _, _, _, at_of h 5 [.int .u8 3, .int .i64 0, .string ⟨#[]⟩, .slice Option.none 0 0, .int .i64 0] (by intro j v hv; match j, hv with | 0, hv => exact hv | 1, hv => exact hv | 2, hv => exact hv | 3, hv => exact hv | 4, hv => exact hv), leafV _ _ _ _ _ _ (by decide) (by decide) (by decide)⟩, ?_⟩
  unfold IsVasR
  refine ⟨⟨_, _, _, _, _, at_of h 10 [.int .u8 4, .int .i64 0, .string ⟨#[]⟩, .slice Option.none 0 0, .int .i64 2] (by intro j v hv; match j, hv with | 0, hv => exact hv | 1, hv => exact hv | 2, hv => exact hv | 3, hv => exact hv | 4, hv => exact hv), leafV _ _ _ _ _ _ (by decide) (by decide) (by decide)⟩, ?_⟩
  unfold IsVasR
  trivial
theorem awV_fit : Fit awV := by
  unfold awV Fit
  refine ⟨⟨by decide, by decide⟩, ⟨by decide, by decide⟩, ?_⟩
  unfold Fits Fit Fits
  refine ⟨⟨⟨by decide, by decide⟩, ⟨by decide, by decide⟩, trivial⟩, ?_⟩
  unfold Fits Fit Fits
  refine ⟨⟨⟨by decide, by decide⟩, ⟨by decide, by decide⟩, trivial⟩, ?_⟩
  exact ⟨⟨⟨by decide, by decide⟩, ⟨by decide, by decide⟩, trivial⟩, trivial⟩
def c10 : Array Value := #[.int .u8 1, .int .i64 0, .int .i64 0, .string ⟨#[97]⟩, .int .i64 0, .int .u8 5, .int .i64 0, .int .i64 0, .string ⟨#[91]⟩, .int .i64 0]
theorem awT_is {w : World} {b : Nat} (h : BlkN w b 58 c10) : IsTks w (b + 1) (.slice (some ⟨b, 0, Option.none⟩) 2 2) awT := by
  refine ⟨by decide, _, 2, by decide, rfl, fun _ => ⟨b, 0, by omega, rfl, fun i hi => ?_⟩⟩
  match i, hi with
  | 0, _ => exact at_of h 0 _ (by intro j v hv; match j, hv with | 0, hv => exact hv | 1, hv => exact hv | 2, hv => exact hv | 3, hv => exact hv | 4, hv => exact hv)
  | 1, _ => exact at_of h 5 _ (by intro j v hv; match j, hv with | 0, hv => exact hv | 1, hv => exact hv | 2, hv => exact hv | 3, hv => exact hv | 4, hv => exact hv)
theorem awT_ok : ∀ t ∈ awT, TkOk t := by
  intro t ht
  simp only [awT, List.mem_cons, List.not_mem_nil, or_false] at ht
  rcases ht with rfl | rfl
  · exact ⟨by decide, ⟨by decide, by decide⟩, by decide, by decide⟩
  · exact ⟨by decide, ⟨by decide, by decide⟩, by decide, by decide⟩
theorem aw24 (w : World) (hv : Vars w) {b : Nat} (h : BlkN w b 27 c15) : Calls Tryz.prog 53 #[.agg #[.int .u8 3, .int .i64 0, .string ⟨#[]⟩, .slice (some ⟨b, 0, Option.none⟩) 3 3, .int .i64 0]] w fun e w' => Below w.heap.size w w' ∧ e = .returned (.tuple #[.string ⟨#[91, 49, 32, 91, 93, 32, 35, 50, 93]⟩, .int .i64 0]) :=
  (Text_any w (awV_is h) h.lt awV_fit hv.tab).mono fun e w' ⟨h1, h2⟩ => ⟨h1, by rw [aw_text] at h2; exact h2⟩
theorem aw12 (w : World) : Calls Tryz.prog 54 #[.string ⟨#[91, 49, 32, 50]⟩] w fun e w' => Below w.heap.size w w' ∧ e = .returned (.tuple #[.agg #[.int .u8 0, .int .i64 0, .string ⟨#[]⟩, .slice Option.none 0 0, .int .i64 0], .int .i64 4, .int .i64 30]) :=
  (read_any ⟨#[91, 49, 32, 50]⟩ (by decide) w).mono fun e w' ⟨h1, h2⟩ => ⟨h1, by
    unfold ReadP at h2
    have h3 : readL (⟨#[91, 49, 32, 50]⟩ : ByteArray).data.toList = .no [] := aw_read2
    rw [h3] at h2
    exact h2⟩
theorem aw16 (w : World) : Calls Tryz.prog 55 #[.string ⟨#[34, 97, 34]⟩] w fun e w' => Below w.heap.size w w' ∧ e = .returned (.tuple #[.string ⟨#[97]⟩, .int .i64 0, .int .i64 0]) :=
  (unquote_any ⟨#[34, 97, 34]⟩ (by decide) w).mono fun e w' ⟨h1, h2⟩ => ⟨h1, by
    unfold UnqP at h2
    have h3 : unqL (⟨#[34, 97, 34]⟩ : ByteArray).size (⟨#[34, 97, 34]⟩ : ByteArray).data.toList = .ok [97] [] := aw_unq
    rw [h3] at h2
    exact h2⟩
theorem aw20 (w : World) (hv : Vars w) : Calls Tryz.prog 36 #[.string ⟨#[120, 32, 61, 32, 35, 51]⟩] w fun e w' => Below w.heap.size w w' ∧ ∃ A cap, e = .returned (.tuple #[.slice A 3 cap, .int .i64 0, .int .i64 0]) := by
  obtain ⟨tp, q, hq⟩ := hv.err
  refine (cut_any ⟨#[120, 32, 61, 32, 35, 51]⟩ (by decide) w tp q hq).mono fun e w' ⟨h1, h2⟩ => ⟨h1, ?_⟩
  unfold CutP at h2
  rw [if_neg (by decide), aw_cut] at h2
  obtain ⟨v, h3, h4⟩ := h2
  obtain ⟨A, cap, rfl, _⟩ := h4.slice
  exact ⟨A, cap, h3⟩
theorem aw28 (w : World) (hv : Vars w) {b : Nat} (h : BlkN w b 58 c10) : Calls Tryz.prog 37 #[.slice (some ⟨b, 0, Option.none⟩) 2 2] w fun e w' => Below w.heap.size w w' ∧ e = .returned (.tuple #[.string ⟨#[97, 32, 91]⟩, .int .i64 0]) :=
  (join_any w (awT_is h) h.lt awT_ok hv.tab).mono fun e w' ⟨h1, h2⟩ => ⟨h1, by rw [aw_join] at h2; exact h2⟩
theorem aw18 (w : World) : Calls Tryz.prog 56 #[.string ⟨#[10]⟩] w fun e w' => Below w.heap.size w w' ∧ e = .returned (.string ⟨#[34, 92, 110, 34]⟩) :=
  (Quote_any ⟨#[10]⟩ (by decide) w).mono fun e w' ⟨h1, h2⟩ => ⟨h1, by
    have h3 : quoteL (⟨#[10]⟩ : ByteArray).data.toList = [34, 92, 110, 34] := aw_quote
    rw [h3] at h2
    exact h2⟩
set_option maxRecDepth 100000 in
set_option maxHeartbeats 4000000 in
theorem awake_any (w : World) (hv : Vars w) : Calls Tryz.prog 15 #[] w fun e w' => e = .returned (.bool true) ∧ Below w.heap.size w w' := by
  have HV := Lib.hid hv
  clear hv
  obtain ⟨n, hn⟩ : ∃ n, n = w.heap.size := ⟨_, rfl⟩
  rw [← hn]
  go_enter Tryz.func15, Tryz.ntmps15
  go_upto_region 2 with fail
  obtain ⟨W, hW⟩ : ∃ W, W = (w.alloc (.cells c15 27)).alloc (.cells #[.int .u8 3, .int .i64 0, .string ⟨#[]⟩, .slice (some ⟨w.heap.size, 0, Option.none⟩) 3 3, .int .i64 0] 27) := ⟨_, rfl⟩
  have hb0 : Below w.heap.size w W := by rw [hW]; exact ((Below.refl _ w).alloc (Nat.le_refl _) _).alloc (by simp) _
  have HB0 := Lib.hid (hn ▸ hb0 : Below n w W)
  have HV0 := Lib.hid (HV.out.on hb0)
  have C24 := Lib.hid (aw24 W HV0.out (b := w.heap.size) (by rw [hW]; exact (BlkN.at_ rfl _ _).alloc _))
  have hc : BlkN W (w.heap.size + 1) 27 #[.int .u8 3, .int .i64 0, .string ⟨#[]⟩, .slice (some ⟨w.heap.size, 0, Option.none⟩) 3 3, .int .i64 0] := by rw [hW]; exact BlkN.at_ (by simp) _ _
  have d0 := hc.cell 0 rfl
  have d1 := hc.cell 1 rfl
  have d2 := hc.cell 2 rfl
  have d3 := hc.cell 3 rfl
  have d4 := hc.cell 4 rfl
  have hl := hc.lt
  unfold c15 at hW
  rw [← hW]
  rw [← hn] at C24 d0 d1 d2 d3 d4 hl ⊢
  have HN := Lib.hid hn
  clear hW hn hb0 hc
  have hnW : n ≤ W.heap.size := by have := HB0.out.size; have := HN.out; omega
  have HW := HB0
  have VW := HV0
  clear HB0 HV0
  go_upto_region 3 with (first | (go_at_call 53; refine (C24.out).mono ?_; rintro e w1 ⟨hb, rfl⟩; have Hw1 := Lib.hid (HW.out.trans (hb.mono hnW)); have Vw1 := Lib.hid (VW.out.on hb); have hnw1 : n ≤ w1.heap.size := Nat.le_trans hnW hb.size; clear hb))
  clear d0 d1 d2 d3 d4 hl C24
  go_upto_region 4 with (first | (go_at_call 54; refine (aw12 _).mono ?_; rintro e w2 ⟨hb, rfl⟩; have Hw2 := Lib.hid (Hw1.out.trans (hb.mono hnw1)); have Vw2 := Lib.hid (Vw1.out.on hb); have hnw2 : n ≤ w2.heap.size := Nat.le_trans hnw1 hb.size; clear hb))
  obtain ⟨W3, hW3⟩ : ∃ W3, W3 = w2.alloc (.cells #[.int .u8 0, .int .i64 0, .string ⟨#[]⟩, .slice Option.none 0 0, .int .i64 0] 27) := ⟨_, rfl⟩
  have hb3 : Below w2.heap.size w2 W3 := by rw [hW3]; exact (Below.refl _ _).alloc (Nat.le_refl _) _
  rw [← hW3]
  have HW3 := Lib.hid (Hw2.out.trans (hb3.mono hnw2))
  have VW3 := Lib.hid (Vw2.out.on hb3)
  have hnW3 : n ≤ W3.heap.size := Nat.le_trans hnw2 hb3.size
  clear hb3 hW3
  go_upto_region 5 with (first | (go_at_call 55; refine (aw16 _).mono ?_; rintro e w4 ⟨hb, rfl⟩; have Hw4 := Lib.hid (HW3.out.trans (hb.mono hnW3)); have Vw4 := Lib.hid (VW3.out.on hb); have hnw4 : n ≤ w4.heap.size := Nat.le_trans hnW3 hb.size; clear hb))
  go_upto_region 6 with (first | (go_at_call 36; refine (aw20 _ Vw4.out).mono ?_; rintro e w5 ⟨hb, A, cap, rfl⟩; have Hw5 := Lib.hid (Hw4.out.trans (hb.mono hnw4)); have Vw5 := Lib.hid (Vw4.out.on hb); have hnw5 : n ≤ w5.heap.size := Nat.le_trans hnw4 hb.size; clear hb))
  obtain ⟨W6, hW6⟩ : ∃ W6, W6 = w5.alloc (.cells c10 58) := ⟨_, rfl⟩
  have hb6 : Below w5.heap.size w5 W6 := by rw [hW6]; exact (Below.refl _ _).alloc (Nat.le_refl _) _
  have HW6 := Lib.hid (Hw5.out.trans (hb6.mono hnw5))
  have VW6 := Lib.hid (Vw5.out.on hb6)
  have hnW6 : n ≤ W6.heap.size := Nat.le_trans hnw5 hb6.size
  have C28 := Lib.hid (aw28 W6 VW6.out (b := w5.heap.size) (by rw [hW6]; exact BlkN.at_ rfl _ _))
  rw [hW6] at C28
  unfold c10 at C28
  have HW6e := Lib.hid hW6
  clear hb6 hW6
  go_wp2_with (first | (go_at_call 37; refine C28.out.mono ?_; rintro e w7 ⟨hb, rfl⟩; have hb' : Below W6.heap.size W6 w7 := by { rw [HW6e.out]; exact hb }; have Hw7 := Lib.hid (HW6.out.trans (hb'.mono hnW6)); have hnw7 : n ≤ w7.heap.size := Nat.le_trans hnW6 hb'.size; clear hb hb') | (go_at_call 56; refine (aw18 _).mono ?_; rintro e w8 ⟨hb, rfl⟩; have Hw8 := Lib.hid (Hw7.out.trans (hb.mono hnw7)); clear hb))
  go_ret
  exact ⟨rfl, Hw8.out⟩
end Go.Proofs.YtjmelamllapmiaaGreatDoor
