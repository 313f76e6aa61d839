/- package word: Tokens. -/
import Derived.Test.YtjmelamllapmiaaGreatDoorXh
import Derived.Test.YtjmelamllapmiaaGreatDoorS
namespace Go.Proofs.YtjmelamllapmiaaGreatDoor
open Go.RowKit

/-- What Cut answers. -/
def cutY (s : ByteArray) : List Tk × Int × Int := if 1048576 < s.size then ([], 0, 4) else match cutR s with
  | .ok l _ => (l, 0, 0)
  | .no t => ([], ((s.size - t.length : Nat) : Int), 30)
theorem CutP.y {s : ByteArray} {n : Nat} {e : Ending} {w : World} (h : CutP s n e w) : ∃ A cap, e = .returned (.tuple #[.slice A (cutY s).1.length cap, .int .i64 (cutY s).2.1, .int .i64 (cutY s).2.2]) ∧ TRow w n (.slice A (cutY s).1.length cap) (cutY s).1 := by
  unfold CutP at h
  unfold cutY
  by_cases hl : 1048576 < s.size
  · rw [if_pos hl] at h ⊢
    exact ⟨_, _, h, TRow.nil _ _⟩
  · rw [if_neg hl] at h ⊢
    cases hL : cutR s with
    | no t =>
      rw [hL] at h
      exact ⟨_, _, h, TRow.nil _ _⟩
    | ok x t =>
      rw [hL] at h
      obtain ⟨v, rfl, hv⟩ := h
      obtain ⟨A, cap, rfl, _⟩ := hv.slice
      exact ⟨_, _, rfl, hv⟩
theorem cutY_len (s : ByteArray) : (cutY s).1.length ≤ 1048577 := by
  unfold cutY
  by_cases hl : 1048576 < s.size
  · rw [if_pos hl]; simp
  · rw [if_neg hl]
    cases hL : cutR s with
    | no t => simp
    | ok x t =>
      have := cutL_len _ _ _ _ _ _ _ hL
      simp at this ⊢
      omega
/-- What Tokens answers. -/
def tokX (x : Va) : List Tk × Int := if mayV x then ((cutY (txtV (textL x))).1, (cutY (txtV (textL x))).2.2) else ([], 2)
set_option maxRecDepth 100000 in
set_option maxHeartbeats 4000000 in
theorem Tokens_any {B : Nat} {v : Value} {x : Va} (w : World) (h : IsVa w B v x) (hB : B ≤ w.heap.size) (hfit : Fit x) (hv : Vars w) :
    Calls Tryz.prog 16 #[v] w fun e w' => Below w.heap.size w w' ∧ ∃ A cap, e = .returned (.tuple #[.slice A (tokX x).1.length cap, .int .i64 (tokX x).2]) ∧ TRow w' w.heap.size (.slice A (tokX x).1.length cap) (tokX x).1 := by
  have HH := Lib.hid h
  obtain ⟨k, n, s, A, len, cap, r, rfl⟩ := h.shape
  have HB0 : Hid (Below w.heap.size w (w.alloc (.cells #[.int .u8 k, .int .i64 n, .string s, .slice A len cap, .int .i64 r] 27))) := Lib.hid ((Below.refl _ _).alloc (Nat.le_refl _) _)
  have C24 := Lib.hid (Text_any (w.alloc (.cells #[.int .u8 k, .int .i64 n, .string s, .slice A len cap, .int .i64 r] 27)) (HH.out.keep fun b hl => HB0.out.block b (by omega)) (Nat.le_trans hB HB0.out.size) hfit (hv.tab.on HB0.out))
  obtain ⟨tp, q, hq⟩ := hv.err
  obtain ⟨m, hm⟩ : ∃ m, m = mayV x := ⟨_, rfl⟩
  cases m
  · have HR : Hid (textR x = ([], 2)) := Lib.hid (by simp [textR, ← hm])
    have HT : Hid (tokX x = ([], 2)) := Lib.hid (by simp [tokX, ← hm])
    rw [HR.out] at C24
    clear h hv hq hm
    go_enter Tryz.func16, Tryz.ntmps16
    go_wp2_with (first | (go_at_call 53; refine C24.out.mono ?_; rintro e w1 ⟨hb1, rfl⟩))
    go_ret2
    exact ⟨HB0.out.trans (hb1.mono (by simp)), Option.none, 0, by rw [HT.out]; rfl, by rw [HT.out]; exact TRow.nil _ _⟩
  · have HR : Hid (textR x = (textL x, 0)) := Lib.hid (by simp [textR, ← hm])
    have HT : Hid (tokX x = ((cutY (txtV (textL x))).1, (cutY (txtV (textL x))).2.2)) := Lib.hid (by simp [tokX, ← hm])
    have hsz : (txtV (textL x)).size ≤ 140737488351232 := by
      have h1 := mayV_sz x hm.symm
      have h2 := textL_len x hfit
      show (textL x).length ≤ _
      omega
    rw [HR.out] at C24
    have C20 : Hid (∀ w', Below w.heap.size w w' → Calls Tryz.prog 36 #[.string (txtV (textL x))] w' fun e w2 => Below w'.heap.size w' w2 ∧ CutP (txtV (textL x)) w'.heap.size e w2) := Lib.hid (fun w' hb => cut_any _ hsz w' tp q (varB hq hb))
    obtain ⟨T, hT⟩ : ∃ T, T = txtV (textL x) := ⟨_, rfl⟩
    have C24' : Hid (Calls Tryz.prog 53 #[.agg #[.int .u8 k, .int .i64 n, .string s, .slice A len cap, .int .i64 r]] (w.alloc (.cells #[.int .u8 k, .int .i64 n, .string s, .slice A len cap, .int .i64 r] 27)) fun e w' => Below (w.alloc (.cells #[.int .u8 k, .int .i64 n, .string s, .slice A len cap, .int .i64 r] 27)).heap.size (w.alloc (.cells #[.int .u8 k, .int .i64 n, .string s, .slice A len cap, .int .i64 r] 27)) w' ∧ e = .returned (.tuple #[.string T, .int .i64 0])) := Lib.hid (by rw [hT]; exact C24.out)
    rw [← hT] at C20 HT
    clear h hv hq hm C24 hT HR hsz
    go_enter Tryz.func16, Tryz.ntmps16
    go_upto_region 4 with (first | (go_at_call 53; refine C24'.out.mono ?_; rintro e w1 ⟨hb1, rfl⟩))
    have HB1 := Lib.hid (HB0.out.trans (hb1.mono (by simp)))
    have hs1 := HB1.out.size
    clear hb1
    go_wp2_with (first | (go_at_call 36; refine (C20.out _ HB1.out).mono ?_; rintro e w2 ⟨hb2, hc2⟩; obtain ⟨A2, cap2, rfl, ht2⟩ := hc2.y))
    go_ret2
    exact ⟨bnext HB1.out hb2, A2, cap2, by rw [HT.out]; first | rfl | skip, by rw [HT.out]; exact ht2.low hs1⟩
end Go.Proofs.YtjmelamllapmiaaGreatDoor
