/- The statements' kept: a value with its marks, beside what it was. -/
import Derived.Test.YtkhpfghehjcfoaaDoorXp
import Derived.Test.YtkhpfghehjcfoaaDoorW
namespace Go.Proofs.YtkhpfghehjcfoaaDoor
open Go.RowKit

def KeptC (x : Va) : Prop := ∀ (w : World) (R : Nat → Nat → Prop) (C : Nat) (v u : Value), IsLtR w R v x → (∀ b o, R b o → b < w.heap.size) → IsVa w C u x → C ≤ w.heap.size →
  Calls Tryd.prog 33 #[v, u] w fun e w' => e = .returned (.bool true) ∧ Below w.heap.size w w'
theorem IsLtR.form {w : World} {R : Nat → Nat → Prop} {v : Value} {k n : Int} {s : ByteArray} {l : List Va} {r : Int} (h : IsLtR w R v (.mk k n s l r)) : 0 ≤ k ∧ k < 256 ∧ s.size ≤ 140737488351232 ∧ l.length * 64 ≤ 140737488351232 ∧ ∃ A cap, l.length ≤ cap ∧ v = .agg #[.int .u8 k, .int .i64 n, .string s, .slice A l.length cap, .int .i64 r] ∧
      (l ≠ [] → l.length + 1 ≤ cap ∧ ∃ b o, R b o ∧ A = some ⟨b, o, Option.none⟩ ∧ IsLtsR w R b o l ∧ w.cell? ⟨b, o + l.length * 5, Option.none⟩ = some (.int .u8 77)) := by
  unfold IsLtR at h
  exact h
set_option maxRecDepth 100000 in
set_option maxHeartbeats 8000000 in
theorem kept_any (x : Va) : KeptC x := by
  induction x using Va.ind with
  | h k n s l r IH =>
  intro w R C v u h hR hy hC
  obtain ⟨h1, h2, h3, h4, A, cap, h5, rfl, h7⟩ := h.form
  obtain ⟨h1', h2', h3', h4', A', cap', h5', rfl, h7'⟩ := hy.form
  have hln : l.length ≤ 140737488351232 := by omega
  have H7 := Lib.hid h7
  have H7' := Lib.hid h7'
  have HI := Lib.hid IH
  have HR := Lib.hid hR
  have HB0 := Lib.hid (((Below.refl w.heap.size w).alloc (Nat.le_refl _) (.cells #[.int .u8 k, .int .i64 n, .string s, .slice A l.length cap, .int .i64 r] 26)).alloc (by simp) (.cells #[.int .u8 k, .int .i64 n, .string s, .slice A' l.length cap', .int .i64 r] 26))
  have HQ : Hid (BlkN ((w.alloc (.cells #[.int .u8 k, .int .i64 n, .string s, .slice A l.length cap, .int .i64 r] 26)).alloc (.cells #[.int .u8 k, .int .i64 n, .string s, .slice A' l.length cap', .int .i64 r] 26)) w.heap.size 26 #[.int .u8 k, .int .i64 n, .string s, .slice A l.length cap, .int .i64 r]) := Lib.hid ((BlkN.at_ rfl _ _).alloc _)
  have HQ' : Hid (BlkN ((w.alloc (.cells #[.int .u8 k, .int .i64 n, .string s, .slice A l.length cap, .int .i64 r] 26)).alloc (.cells #[.int .u8 k, .int .i64 n, .string s, .slice A' l.length cap', .int .i64 r] 26)) (w.heap.size + 1) 26 #[.int .u8 k, .int .i64 n, .string s, .slice A' l.length cap', .int .i64 r]) := Lib.hid (BlkN.at_ (by simp) _ _)
  clear h h7 hy h7' IH hR h4 h1' h2' h3' h4'
  have gk : (k != k) = false := by simp
  have gn : (n != n) = false := by simp
  have gs : (s.toList != s.toList) = false := by simp
  have gr : (r != r) = false := by simp
  have gl : ((l.length : Int) != l.length) = false := by simp
  go_enter Tryd.func33, Tryd.ntmps33
  go_wp2_with fail
  clear gk gn gs gr gl
  go_loopw [5] (fun i wr => ∃ j : Nat, j ≤ l.length ∧ i = .int .i64 j ∧ Below w.heap.size w wr ∧ BlkN wr w.heap.size 26 #[.int .u8 k, .int .i64 n, .string s, .slice A l.length cap, .int .i64 r] ∧ BlkN wr (w.heap.size + 1) 26 #[.int .u8 k, .int .i64 n, .string s, .slice A' l.length cap', .int .i64 r]) (fun i _ => l.length - (intOf i).toNat)
  case atStart => exact ⟨0, by omega, rfl, HB0.out, HQ.out, HQ'.out⟩
  case round =>
    obtain ⟨j, hj, rfl, hu, hb0, hb1⟩ := hrel
    have HU := Lib.hid hu
    have HC := Lib.hid hb0
    have HC' := Lib.hid hb1
    have hsz := hb1.lt
    have y3 := hb0.cell 3 rfl
    have y3' := hb1.cell 3 rfl
    clear hu hb0 hb1
    by_cases hlt : j < l.length
    · have hne : l ≠ [] := by rintro rfl; simp at hlt
      obtain ⟨hcp, b, o, hbB, hA, hx, hmk⟩ := H7.out hne
      obtain ⟨b', o', hbB', hA', hx'⟩ := H7'.out hne
      have hbl := HR.out b o hbB
      subst hA hA'
      obtain ⟨k1, n1, s1, A1, len1, cap1, r1, hat, hx1⟩ := hx.at2 j hlt
      obtain ⟨k2, n2, s2, A2, len2, cap2, r2, hat2, hx2⟩ := hx'.at2 j hlt
      have hat' := hat.keep hbl (fun b hb => HU.out.block b (by omega))
      have hat2' := hat2.keep hbB' (fun b hb => HU.out.block b (by omega))
      obtain ⟨e0, e1, e2, e3, e4⟩ := hat'.five
      obtain ⟨f0, f1, f2, f3, f4⟩ := hat2'.five
      have hcall := fun w' (hb : Below w.heap.size w w') => HI.out l[j] (List.getElem_mem hlt) w' R C _ _ (IsLtR.keep (fun b o hr => hb.block b (HR.out b o hr)) hx1) (fun b o hr => Nat.lt_of_lt_of_le (HR.out b o hr) hb.size) (IsVa.keep (fun b hb' => hb.block b (by omega)) hx2) (Nat.le_trans hC hb.size)
      have HCALL := Lib.hid hcall
      clear hat hat' hat2 hat2' hx hx1 hx' hx2 hcall hmk
      go_wp2_with fail
      refine RegT.region_seq (fun i => Nat.ble i 9) (fun W => W.cell? ⟨w.heap.size, 3, Option.none⟩ = some (.slice (some ⟨b, o, Option.none⟩) l.length cap) ∧ W.cell? ⟨w.heap.size + 1, 3, Option.none⟩ = some (.slice (some ⟨b', o', Option.none⟩) l.length cap') ∧ (W.cell? ⟨b, o + j * 5, Option.none⟩ = some (.int .u8 k1) ∧ W.cell? ⟨b, o + j * 5 + 1, Option.none⟩ = some (.int .i64 n1) ∧ W.cell? ⟨b, o + j * 5 + 2, Option.none⟩ = some (.string s1) ∧ W.cell? ⟨b, o + j * 5 + 3, Option.none⟩ = some (.slice A1 len1 cap1) ∧ W.cell? ⟨b, o + j * 5 + 4, Option.none⟩ = some (.int .i64 r1)) ∧ (W.cell? ⟨b', o' + j * 5, Option.none⟩ = some (.int .u8 k2) ∧ W.cell? ⟨b', o' + j * 5 + 1, Option.none⟩ = some (.int .i64 n2) ∧ W.cell? ⟨b', o' + j * 5 + 2, Option.none⟩ = some (.string s2) ∧ W.cell? ⟨b', o' + j * 5 + 3, Option.none⟩ = some (.slice A2 len2 cap2) ∧ W.cell? ⟨b', o' + j * 5 + 4, Option.none⟩ = some (.int .i64 r2))) [0, 1, 2, 3, 4, 5, 6, 7, 8, 9] [10, 11] (by kernel_rfl) (by kernel_rfl) (by decide +kernel) (by decide) ⟨y3, y3', ⟨e0, e1, e2, e3, e4⟩, ⟨f0, f1, f2, f3, f4⟩⟩ ?_
      refine RegT.quiet_step rfl (fun _ _ _ h => h) (by rfl) (v := .pointer (some ⟨w.heap.size, 3, Option.none⟩)) (fun w' hS => ?_) ?_
      · go_simp
      refine RegT.quiet_step rfl (fun _ _ _ h => h) (by rfl) (v := .slice (some ⟨b, o, Option.none⟩) l.length cap) (fun w' hS => ?_) ?_
      · obtain ⟨t0, t1, ⟨t2, t3, t4, t5, t6⟩, ⟨u2, u3, u4, u5, u6⟩⟩ := hS; go_simp
      refine RegT.quiet_step rfl (fun _ _ _ h => h) (by rfl) (v := .int .i64 j) (fun w' hS => ?_) ?_
      · go_simp
      refine RegT.quiet_step rfl (fun _ _ _ h => h) (by rfl) (v := .pointer (some ⟨b, o + j * 5, Option.none⟩)) (fun w' hS => ?_) ?_
      · go_simp
      refine RegT.quiet_step rfl (fun _ _ _ h => h) (by rfl) (v := .agg #[.int .u8 k1, .int .i64 n1, .string s1, .slice A1 len1 cap1, .int .i64 r1]) (fun w' hS => ?_) ?_
      · obtain ⟨t0, t1, ⟨t2, t3, t4, t5, t6⟩, ⟨u2, u3, u4, u5, u6⟩⟩ := hS; go_simp
      refine RegT.quiet_step rfl (fun _ _ _ h => h) (by rfl) (v := .pointer (some ⟨w.heap.size + 1, 3, Option.none⟩)) (fun w' hS => ?_) ?_
      · go_simp
      refine RegT.quiet_step rfl (fun _ _ _ h => h) (by rfl) (v := .slice (some ⟨b', o', Option.none⟩) l.length cap') (fun w' hS => ?_) ?_
      · obtain ⟨t0, t1, ⟨t2, t3, t4, t5, t6⟩, ⟨u2, u3, u4, u5, u6⟩⟩ := hS; go_simp
      refine RegT.quiet_step rfl (fun _ _ _ h => h) (by rfl) (v := .int .i64 j) (fun w' hS => ?_) ?_
      · go_simp
      refine RegT.quiet_step rfl (fun _ _ _ h => h) (by rfl) (v := (.pointer (some ⟨b', o' + j * 5, Option.none⟩))) (fun w' hS => ?_) ?_
      · go_simp
      refine RegT.quiet_step rfl (fun _ _ _ h => h) (by rfl) (v := .agg #[.int .u8 k2, .int .i64 n2, .string s2, .slice A2 len2 cap2, .int .i64 r2]) (fun w' hS => ?_) ?_
      · obtain ⟨t0, t1, ⟨t2, t3, t4, t5, t6⟩, ⟨u2, u3, u4, u5, u6⟩⟩ := hS; go_simp
      refine RegT.seqT_tail [10, 11] [_, _] rfl rfl _ _ ?_
      have HD := Lib.hid (HU.out.drew)
      clear y3 y3' e0 e1 e2 e3 e4 f0 f1 f2 f3 f4
      go_wp2_with (go_at_call 33; refine (HCALL.out _ HD.out).mono ?_; rintro e w1 ⟨rfl, hb1⟩)
      simp only [RegT.NP]
      go_wp2_with fail
      go_roundw
      case rel => exact ⟨j + 1, by omega, by go_num, bnext HD.out hb1, HC.out.below (bnext ((Below.refl wr.heap.size wr).drew) hb1), HC'.out.below (bnext ((Below.refl wr.heap.size wr).drew) hb1)⟩
      case measure => simp [intOf]; omega
    · obtain rfl : j = l.length := by omega
      by_cases hne : l = []
      · have hl0 : l.length = 0 := by rw [hne]; rfl
        rw [hl0] at y3 y3' ⊢
        have hz : ((0 : Int) == 0) = true := rfl
        clear hlt
        go_wp2_with (go_quiet (fail))
        go_ret
        exact ⟨rfl, ⟨HU.out.os, HU.out.tape, HU.out.output, HU.out.size, HU.out.block⟩⟩
      · obtain ⟨hcp, b, o, hbB, hA, hx, hmk⟩ := H7.out hne
        have hbl := HR.out b o hbB
        subst hA
        have hm0 := (World.cell?_of_block (w := w) (HU.out.block b hbl)).trans hmk
        have hl0 : ((l.length : Int) == 0) = false := by rw [beq_eq_false_iff_ne]; have : l.length ≠ 0 := fun e => hne (List.length_eq_zero_iff.1 e); omega
        clear hx hmk
        go_wp2_with (go_quiet (fail))
        go_ret
        exact ⟨rfl, ⟨HU.out.os, HU.out.tape, HU.out.output, HU.out.size, HU.out.block⟩⟩
end Go.Proofs.YtkhpfghehjcfoaaDoor
