/- The document's Quote. -/
import Derived.Test.YtjmelamllapmiaaGreatDoorK
import Derived.Test.YtjmelamllapmiaaGreatDoorU
namespace Go.Proofs.YtjmelamllapmiaaGreatDoor
open Go.RowKit

theorem BRow.new (w : World) (b : L8) (hb : b.length ≤ 140737488355328) : BRow (w.alloc (.cells (b.map byt).toArray 5)) w.heap.size (.slice (some ⟨w.heap.size, 0, Option.none⟩) b.length b.length) b :=
  ⟨by simp, .inr ⟨w.heap.size, b.length, (b.map byt).toArray, rfl, Nat.le_refl _, BlkN.at_ rfl 5 _, Nat.le_refl _, by unfold maxLen; omega, by simp, by simp [List.take_of_length_le]⟩⟩
theorem Grw.toBelow {w w0 w' : World} {v v' : Value} {b' : L8} (h : Grw w0 w.heap.size v w' v' b') (h0 : Below w.heap.size w w0) (hv : ∀ g, v.ownBlock = some g → w.heap.size ≤ g) : Below w.heap.size w w' :=
  ⟨h.grow.os.trans h0.os, h.grow.tape.trans h0.tape, h.grow.output.trans h0.output, Nat.le_trans h0.size h.grow.size, fun k hk => (h.grow.block k (Nat.lt_of_lt_of_le hk h0.size) (fun e => by have := hv k e.symm; omega)).trans (h0.block k hk)⟩
theorem quo16 : ∀ c : Fin 256, IntKind.u8.wrap ((c.val : Int) / 16) = (c.val : Int) / 16 := by decide +kernel
theorem rem16 : ∀ c : Fin 256, (c.val : Int).tmod 16 = (c.val : Int) % 16 := by decide +kernel
theorem Grw.toBelow' {w w0 w' : World} {lo : Nat} {v' : Value} {b' : L8} (h : Grw w0 lo (.slice (some ⟨lo, 0, Option.none⟩) 1 1) w' v' b') (hlo : lo = w.heap.size) (h0 : Below w.heap.size w w0) : Below w.heap.size w w' := by
  subst hlo
  exact Grw.toBelow h h0 fun g hg => by simp [Value.ownBlock] at hg; omega
set_option maxRecDepth 100000 in
set_option maxHeartbeats 4000000 in
theorem rQuote_any (s : ByteArray) (hlen : 4 * s.size + 2 ≤ 140737488355328) (w : World) :
    Calls Tryz.prog 167 #[.string s] w fun e w' => Below w.heap.size w w' ∧ e = .returned (.string (txtV (quoteL s.data.toList))) := by
  have hs : s.size ≤ 140737488355328 := by omega
  obtain ⟨w0, hw0⟩ : ∃ w0, w0 = w := ⟨_, rfl⟩
  go_enter Tryz.func167, Tryz.ntmps167
  go_upto_region 2 with fail
  obtain ⟨lo, hlo'⟩ : ∃ lo, lo = w.heap.size := ⟨_, rfl⟩
  obtain ⟨W, hW⟩ : ∃ W, W = w.alloc (.cells #[byt 34] 5) := ⟨_, rfl⟩
  have HG1 : Hid (Grw W lo (.slice (some ⟨lo, 0, Option.none⟩) 1 1) W (.slice (some ⟨lo, 0, Option.none⟩) 1 1) [34]) := Lib.hid (by rw [hW, hlo']; exact Grw.refl (BRow.new w [34] (by decide)))
  have HBW : Hid (Below w.heap.size w W) := Lib.hid (by rw [hW]; exact (Below.refl _ _).alloc (Nat.le_refl _) _)
  have HLO := Lib.hid hlo'
  have hlo : lo ≤ W.heap.size := by rw [hlo']; exact HBW.out.size
  have e0 : w.alloc (.cells #[.int .u8 34] 5) = W := hW.symm
  rw [e0, ← hlo']
  clear hW e0 hlo' hw0 w0
  go_wp2_with fail
  go_loopw [3, 4, 5] (fun v i c wr => ∃ j : Nat, i = .int .i64 j ∧ j ≤ s.size ∧ Grw W lo (.slice (some ⟨lo, 0, Option.none⟩) 1 1) wr v (34 :: qbs (s.data.toList.take j))) (fun _ i _ _ => s.size - (intOf i).toNat)
  case atStart => exact ⟨0, rfl, by omega, by simpa [qbs] using HG1.out⟩
  case round =>
    obtain ⟨j, rfl, hj, hg⟩ := hrel
    obtain ⟨A2, cap2, rfl, hcap2⟩ := hg.row.slice
    have HG := Lib.hid hg
    have hql := qbs_len (s.data.toList.take j)
    have htl : (s.data.toList.take j).length = j := by simp; omega
    rw [htl] at hql
    have hlw := hg.cut hlo
    clear hg
    obtain ⟨B, hB⟩ : ∃ B, B = 34 :: qbs (s.data.toList.take j) := ⟨_, rfl⟩
    have hBl : B.length ≤ 1 + 4 * j := by rw [hB]; simp; omega
    rw [← hB] at HG ⊢
    have HBB := Lib.hid hB
    clear hB hql htl
    by_cases hjl : j < s.size
    rotate_left
    · go_upto_region 14 with (first
        | (refine wpList_append_byte _ rfl (.tmp 49) (.tmp 50) rfl rfl lo (.slice A2 B.length cap2) B rfl (own_below HG.out.row ((Below.refl _ _).alloc (Nat.le_refl _) (.cells #[byt 34] 5))) wr.heap.size 1 1 [34] rfl rfl (row_new wr [byt 34] 5) (by simp; omega) (by simp; omega) ?_
           intro v2 w2 hv2 hg2 ho2
           have HG2 := Lib.hid (Grw.step (Grw.add HG.out (.cells #[byt 34] 5)) hv2 hg2 ho2)
           clear hv2 hg2 ho2))
      have hconv := brow_string HG2.out.row
      go_wp2_with fail
      go_ret
      have e : quoteL s.data.toList = B ++ [34] := by
        rw [HBB.out, List.take_of_length_le (by simp; omega)]; simp [quoteL]
      rw [e]; exact ⟨HG2.out.toBelow' HLO.out HBW.out, rfl⟩
    have Hnext : ∀ (w' : World) (v' : Value), Grw W lo (.slice (some ⟨lo, 0, Option.none⟩) 1 1) w' v' (B ++ qb s[j]) → Grw W lo (.slice (some ⟨lo, 0, Option.none⟩) 1 1) w' v' (34 :: qbs (s.data.toList.take (j + 1))) := fun w' v' h => by
      rw [take_next hjl, qbs_append]
      rw [HBB.out] at h
      simpa [qbs] using h
    have HNEXT := Lib.hid Hnext
    clear Hnext
    obtain ⟨c, hc⟩ : ∃ c, c = s[j] := ⟨_, rfl⟩
    rw [← hc] at HNEXT
    have hc0 : c.toNat < 256 := c.toNat_lt
    have HC := Lib.hid hc
    go_upto_region 7 with fail
    rw [← hc]
    clear hc
    by_cases h34 : c = 34
    · subst h34
      go_wp2_with (first
        | (refine wpList_append_byte _ rfl (.tmp 32) (.tmp 34) rfl rfl lo (.slice A2 B.length cap2) B rfl (own_below HG.out.row ((Below.refl _ _).alloc (Nat.le_refl _) (.cells #[byt 92, byt 34] 5))) wr.heap.size 2 2 [92, 34] rfl rfl (row_new wr [byt 92, byt 34] 5) (by simp; omega) (by simp; omega) ?_
           intro v2 w2 hv2 hg2 ho2
           have HG2 := Lib.hid (Grw.step (Grw.add HG.out (.cells #[byt 92, byt 34] 5)) hv2 hg2 ho2)
           clear hv2 hg2 ho2))
      go_roundw
      case rel => exact ⟨j + 1, by go_num, by omega, HNEXT.out _ _ HG2.out⟩
      case measure => simp only [intOf]; omega
    have n34 : ((c.toNat : Int) == 34) = false := u8_beq (n := 34) (by decide) h34
    by_cases h92 : c = 92
    · subst h92
      go_wp2_with (first
        | (refine wpList_append_byte _ rfl (.tmp 32) (.tmp 34) rfl rfl lo (.slice A2 B.length cap2) B rfl (own_below HG.out.row ((Below.refl _ _).alloc (Nat.le_refl _) (.cells #[byt 92, byt 92] 5))) wr.heap.size 2 2 [92, 92] rfl rfl (row_new wr [byt 92, byt 92] 5) (by simp; omega) (by simp; omega) ?_
           intro v2 w2 hv2 hg2 ho2
           have HG2 := Lib.hid (Grw.step (Grw.add HG.out (.cells #[byt 92, byt 92] 5)) hv2 hg2 ho2)
           clear hv2 hg2 ho2))
      go_roundw
      case rel => exact ⟨j + 1, by go_num, by omega, HNEXT.out _ _ HG2.out⟩
      case measure => simp only [intOf]; omega
    have n92 : ((c.toNat : Int) == 92) = false := u8_beq (n := 92) (by decide) h92
    by_cases h10 : c = 10
    · subst h10
      go_wp2_with (first
        | (refine wpList_append_byte _ rfl (.tmp 39) (.tmp 40) rfl rfl lo (.slice A2 B.length cap2) B rfl (own_below HG.out.row ((Below.refl _ _).alloc (Nat.le_refl _) (.cells #[byt 92, byt 110] 5))) wr.heap.size 2 2 [92, 110] rfl rfl (row_new wr [byt 92, byt 110] 5) (by simp; omega) (by simp; omega) ?_
           intro v2 w2 hv2 hg2 ho2
           have HG2 := Lib.hid (Grw.step (Grw.add HG.out (.cells #[byt 92, byt 110] 5)) hv2 hg2 ho2)
           clear hv2 hg2 ho2))
      go_roundw
      case rel => exact ⟨j + 1, by go_num, by omega, HNEXT.out _ _ HG2.out⟩
      case measure => simp only [intOf]; omega
    have n10 : ((c.toNat : Int) == 10) = false := u8_beq (n := 10) (by decide) h10
    have CP := plain_any c
    by_cases hx : c.toNat < 32 ∨ 126 < c.toNat
    rotate_left
    · have e : qb c = [c] := by simp only [qb, h34, h92, h10, or_self, if_false, if_neg hx]
      rw [e] at HNEXT
      have hpl : plainB c = true := by
        have k1 : c ≠ 34 := h34
        have k2 : c ≠ 92 := h92
        simp [plainB, k1, k2]; omega
      rw [hpl] at CP
      go_wp2_with (first
        | (go_at_call 217; refine (CP _).mono ?_; rintro e w1 ⟨rfl, hw1⟩; rw [hw1]; clear hw1)
        | (refine wpList_append_byte _ rfl (.tmp 45) (.tmp 47) rfl rfl lo (.slice A2 B.length cap2) B rfl (own_below HG.out.row ((Below.refl _ _).alloc (Nat.le_refl _) (.cells #[byt c] 5))) wr.heap.size 1 1 [c] rfl rfl (row_new wr [byt c] 5) (by simp; omega) (by simp; omega) ?_
           intro v2 w2 hv2 hg2 ho2
           have HG2 := Lib.hid (Grw.step (Grw.add HG.out (.cells #[byt c] 5)) hv2 hg2 ho2)
           clear hv2 hg2 ho2))
      go_roundw
      case rel => exact ⟨j + 1, by go_num, by omega, HNEXT.out _ _ HG2.out⟩
      case measure => simp only [intOf]; omega
    have hpl : plainB c = false := by
      simp [plainB]; omega
    rw [hpl] at CP
    have e : qb c = [92, 120, hexc (c.toNat / 16), hexc (c.toNat % 16)] := by simp only [qb, h34, h92, h10, or_self, if_false, if_pos hx]
    rw [e] at HNEXT
    go_upto_region 6 with (first | (go_at_call 217; refine (CP _).mono ?_; rintro e w1 ⟨rfl, hw1⟩; rw [hw1]; clear hw1))
    all_goals
      refine RegT.region_seq (fun i => Nat.ble i 7) Yes [0, 1, 2, 3, 4, 5, 6] [7, 8, 9] (by kernel_rfl) (by kernel_rfl) (by decide +kernel) (by decide) (Yes.intro _) ?_
      refine RegT.quiet_step rfl (fun _ _ _ h => h) (by kernel_rfl) (v := .slice A2 B.length cap2) (fun w' hS => ?_) ?_
      · go_simp
      refine RegT.quiet_step rfl (fun _ _ _ h => h) (by kernel_rfl) (v := .int .u8 (c.toNat : Nat)) (fun w' hS => ?_) ?_
      · go_simp
      refine RegT.quiet_step rfl (fun _ _ _ h => h) (by kernel_rfl) (v := .int .u8 ((c.toNat / 16 : Nat) : Int)) (fun w' hS => ?_) ?_
      · go_simp
        exact quo16 ⟨c.toNat, hc0⟩
      refine RegT.quiet_step rfl (fun _ _ _ h => h) (by kernel_rfl) (v := .int .u8 ((hexc (c.toNat / 16)).toNat : Nat)) (fun w' hS => ?_) ?_
      · go_simp
        exact hex_at _ _ _ (by omega) (by omega) _
      refine RegT.quiet_step rfl (fun _ _ _ h => h) (by kernel_rfl) (v := .int .u8 (c.toNat : Nat)) (fun w' hS => ?_) ?_
      · go_simp
      refine RegT.quiet_step rfl (fun _ _ _ h => h) (by kernel_rfl) (v := .int .u8 ((c.toNat % 16 : Nat) : Int)) (fun w' hS => ?_) ?_
      · go_simp
        exact rem16 ⟨c.toNat, hc0⟩
      refine RegT.quiet_step rfl (fun _ _ _ h => h) (by kernel_rfl) (v := .int .u8 ((hexc (c.toNat % 16)).toNat : Nat)) (fun w' hS => ?_) ?_
      · go_simp
        exact hex_at _ _ _ (by omega) (by omega) _
      refine RegT.seqT_held rfl ?_
      go_wp2_with fail
      refine ⟨Yes.intro _, RegT.seqT_tail [8, 9] [_, _] rfl rfl _ _ ?_⟩
      go_wp2_with (first
        | (refine wpList_append_byte _ rfl (.tmp 16) (.tmp 23) rfl rfl lo (.slice A2 B.length cap2) B rfl (own_below HG.out.row ((Below.refl _ _).alloc (Nat.le_refl _) (.cells #[byt 92, byt 120, byt (hexc (c.toNat / 16)), byt (hexc (c.toNat % 16))] 5)).drew) wr.heap.size 4 4 [92, 120, hexc (c.toNat / 16), hexc (c.toNat % 16)] rfl rfl (fun j u hu => row_new wr [byt 92, byt 120, byt (hexc (c.toNat / 16)), byt (hexc (c.toNat % 16))] 5 j u hu) (by simp; omega) (by simp; omega) ?_
           intro v2 w2 hv2 hg2 ho2
           have HG2 := Lib.hid (Grw.step (Grw.below HG.out ((Below.refl _ _).alloc (Nat.le_refl _) (.cells #[byt 92, byt 120, byt (hexc (c.toNat / 16)), byt (hexc (c.toNat % 16))] 5)).drew) hv2 hg2 ho2)
           clear hv2 hg2 ho2))
      simp only [RegT.NP, Exit.inBlock]
      go_wp2_with fail
      go_roundw
      case rel => exact ⟨j + 1, by go_num, by omega, HNEXT.out _ _ HG2.out⟩
      case measure => simp only [intOf]; omega
end Go.Proofs.YtjmelamllapmiaaGreatDoor
