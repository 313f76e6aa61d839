/- Size. -/
import Derived.Test.YtnknefdpglnbnaaZg
namespace Go.Proofs.Ytnknefdpglnbnaa
open Go.RowKit

theorem cf79 (args : Array Value) (w : World) : (callFunc 79 args).run Try.prog w = .ok (.enter 79 args) w := by go_simp
attribute [local go_sem] SV.g0 SV.g1 SV.g2 SV.g3 SV.g4 SV.g5 SV.g6 SV.g7 SV.g8 SV.g9 SV.g10 SV.g11 SV.g12 SV.g13 SV.g14 SV.g15 SV.g16
set_option maxHeartbeats 1000000 in
theorem size1_any (s : SV) (k d : Int) (w : World) : Calls Try.prog 79 #[.int .i64 k, .int .i64 d, .agg s.arr] w fun e w' => e = .returned (.bool true) ∧ Below w.heap.size w w' := by
  have h17 := s.size
  go_enter Try.func79, Try.ntmps79
  go_wp2_with fail
  go_ret
  exact ⟨rfl, (Below.refl _ _).alloc (Nat.le_refl _) _⟩
def SI (p : Nat) (w0 : World) (_ : List (Int × St)) (w : World) : Prop := Kp (fun _ => False) p w0 w
theorem size_teller (B p : Nat) (w0 : World) (hBp : B ≤ p) (hpl : p < w0.heap.size) : Teller 79 #[] (fun _ => False) (SI p w0) (fun _ _ => False) B p w0 where
  cf := cf79
  own := fun b h => h.elim
  ownp := fun h => h
  size := fun told w h => Kp.size h
  keep := fun told w h b hb => Kp.block h b (by omega) (fun h => h) (by omega)
  mono := fun told w w' h hu => Kp.upd h hu
  call := by
    rintro told d x s w h hs hlen hd0 hd1
    have hsz := Kp.size h
    refine (size1_any s _ d w).mono ?_
    rintro e w' ⟨rfl, g⟩
    exact ⟨⟨true, rfl, fun _ => Kp.trans h (Kp.of_below g), (fun h => nomatch h)⟩, g.block p (by omega), Kp.of_below g⟩
def sizeL (l : List St) : Nat := if (chkL l).2 = 0 then (flats l 0).length else 0
set_option maxRecDepth 100000 in
set_option maxHeartbeats 1000000 in
theorem Size_any (l : List St) (A : Option Addr) (len cap : Nat) (w : World) (B : Nat) (hB : B ≤ w.heap.size) (h : LR (fun b _ => b < B) 256 A len cap l (fun b o => IsSts w B b o l)) :
    Calls Try.prog 32 #[.slice A len cap] w fun e w' => e = .returned (.int .i64 (sizeL l : Nat)) ∧ Below w.heap.size w w' := by
  have HH := Lib.hid h
  clear h
  have HC := Lib.hid (May_any l A len cap _ B hB HH.out)
  by_cases hz : (chkL l).2 = 0
  · have HZ := Lib.hid hz
    rw [hz] at HC
    clear hz
    go_enter Try.func32, Try.ntmps32
    go_upto_region 4 with (go_at_call 30; refine (HC.out).mono ?_; rintro e w1 ⟨rfl, hb1⟩)
    obtain ⟨w2, hw2⟩ : ∃ w2, w2 = w1.alloc (.cells #[.int .i64 0] 3) := ⟨_, rfl⟩
    have hp2 : Blk w2 w1.heap.size 3 (.int .i64 0) := by rw [hw2]; exact Blk.at_ rfl _ _
    have hb3 : Below w.heap.size w w2 := by rw [hw2]; exact hb1.alloc hb1.size _
    rw [← hw2]
    have hsz := hb1.size
    have hT := size_teller B w1.heap.size w2 (by omega) hp2.lt
    have HW := Lib.hid (walk_any 79 _ _ _ _ B _ w2 hT (by omega) l w2 A len cap 0 [] (HH.out.imp fun b o hr hp => ⟨hr, IsSts.keep (fun b hb => hb3.block b (by omega)) hr hp⟩) Kp.refl (by simpa using hp2) (by omega) (by simp) (by simp))
    have HB3 := Lib.hid hb3
    have HSZ := Lib.hid hsz
    have hlen : (flats l 0).length ≤ 512 := by
      have := chk_zero _ 0 (by omega) HZ.out
      simpa using this
    have HL := Lib.hid hlen
    clear hT hw2 hp2 hb3 hb1 hsz hlen
    go_upto_region 5 with (go_at_call 74; refine HW.out.mono ?_; rintro e w3 ⟨ok, rfl, h1, h2⟩)
    have hok : ok = true := by
      cases ok with
      | true => rfl
      | false =>
        obtain ⟨m, hm, h3⟩ := h2 rfl
        have := HL.out
        rcases h3 with h3 | ⟨h3, _⟩
        · exact h3.elim
        · simp at h3; omega
    obtain ⟨k2, k1, _⟩ := h1 hok
    rw [List.nil_append] at k1
    have K2 := Lib.hid k2
    have q := k1.cell
    have HE : Hid (sizeL l = (flats l 0).length) := Lib.hid (by unfold sizeL; rw [if_pos HZ.out])
    clear h1 h2 k1 k2
    go_wp2_with fail
    go_ret
    have K : Kp (fun _ => False) w1.heap.size w2 w3 := K2.out
    refine ⟨by rw [HE.out]; rfl, ⟨K.os.trans HB3.out.os, K.tape.trans HB3.out.tape, K.output.trans HB3.out.output, Nat.le_trans HB3.out.size K.size, fun k hk => (K.block k (Nat.lt_of_lt_of_le hk HB3.out.size) (fun h => h) (by have := HSZ.out; omega)).trans (HB3.out.block k hk)⟩⟩
  · have HZ := Lib.hid hz
    have hne : (((chkL l).2 : Int) == 0) = false := by rw [beq_eq_false_iff_ne]; omega
    rw [hne] at HC
    clear hz hne
    go_enter Try.func32, Try.ntmps32
    go_wp2_with (go_at_call 30; refine (HC.out).mono ?_; rintro e w1 ⟨rfl, hb1⟩)
    go_ret
    exact ⟨by unfold sizeL; rw [if_neg HZ.out]; rfl, hb1⟩
end Go.Proofs.Ytnknefdpglnbnaa
