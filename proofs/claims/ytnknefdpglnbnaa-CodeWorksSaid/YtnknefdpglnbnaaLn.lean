/- The law's own helpers on names, walked: ownNames, sameNames, short. -/
import Derived.Test.YtnknefdpglnbnaaLm
namespace Go.Proofs.Ytnknefdpglnbnaa
open Go.RowKit

theorem field93 (w : World) (vn : Value) (k n r : Int) (s : ByteArray) (A : Option Addr) (len cap : Nat) : (Instr.field 93 (.agg #[.int .u8 0, .int .i64 0, .int .u8 k, .int .i64 n, .string s, .slice A len cap, .int .i64 r, .slice Option.none 0 0, .int .i64 0, .int .i64 0, .int .i64 0, .int .i64 0, .int .u8 0, .bool false, .slice Option.none 0 0, vn]) 11).run Try.prog w = .ok vn w := by kernel_rfl
theorem IsNsR.list {w : World} {R : Nat → Nat → Prop} {v : Value} {l : List Na} (h : IsNsR w R v l) : ∃ A cap, v = .slice A l.length cap ∧ l.length ≤ cap := by
  obtain ⟨_, A, cap, h1, h2, _⟩ := h
  exact ⟨A, cap, h2, h1⟩
set_option maxRecDepth 100000 in
set_option maxHeartbeats 1000000 in
theorem ownNames18_any {B : Nat} {v : Value} {l : List Na} (w : World) (h : IsNs w B v l) (hB : B ≤ w.heap.size) :
    Calls Try.prog 18 #[v] w fun e w' => ∃ v', e = .returned v' ∧ IsNsR w' (RN B w.heap.size w') v' l ∧ Below w.heap.size w w' := by
  have HH := Lib.hid h
  have hcn := MayNames24_any w h hB
  have hco := fun w' (hb : Below w.heap.size w w') => Own61_names (B := B) w' (h.keep fun b hl => hb.block b (by omega)) (Nat.le_trans hB hb.size)
  obtain ⟨A, cap, rfl, hcap⟩ := h.list
  obtain ⟨mn, hmn⟩ : ∃ mn, mn = mayNs l := ⟨_, rfl⟩
  rw [← hmn] at hcn
  have CN := Lib.hid hcn
  have CO := Lib.hid hco
  clear h hcn hco hmn
  cases mn
  · go_enter Try.func18, Try.ntmps18
    go_wp2_with (go_at_call 24; refine (CN.out).mono ?_; rintro e w1 ⟨rfl, hb1⟩)
    go_ret
    exact ⟨_, rfl, (HH.out.keep fun b hl => hb1.block b (by omega)).mono (fun b o hr => ⟨.inl hr, by have := hb1.size; omega⟩), hb1⟩
  · go_enter Try.func18, Try.ntmps18
    go_wp2_with (first | (go_at_call 24; refine (CN.out).mono ?_; rintro e w1 ⟨rfl, hb1⟩) | (go_at_call 61; refine (CO.out _ hb1).mono ?_; rintro e w2 ⟨k, n, s, A', len', cap', r, vn', rfl, hv', hb2⟩; have hfld := fun w => field93 w vn' k n r s A' len' cap'))
    go_ret
    exact ⟨_, rfl, hv'.mono (fun b o hr => ⟨.inr (by have := hb1.size; rcases hr.1 with h | h <;> omega), hr.2⟩), bnext hb1 hb2⟩
def sameNs : List Na → List Na → Bool
  | [], [] => true
  | x :: l, y :: m => x.1.toList == y.1.toList && (sameV x.2 y.2 && sameNs l m)
  | _, _ => false
theorem sameNs_len : ∀ (l m : List Na), sameNs l m = true → l.length = m.length
  | [], [], _ => rfl
  | x :: l, y :: m, h => by simp only [sameNs, Bool.and_eq_true] at h; simp [sameNs_len l m h.2.2]
  | [], _ :: _, h => by simp [sameNs] at h
  | _ :: _, [], h => by simp [sameNs] at h
theorem sameNs_refl : ∀ (l : List Na), sameNs l l = true
  | [] => rfl
  | x :: l => by simp [sameNs, sameV_refl, sameNs_refl l]
theorem sameNs_cons (x y : Na) (l m : List Na) : sameNs (x :: l) (y :: m) = (x.1.toList == y.1.toList && (sameV x.2 y.2 && sameNs l m)) := by simp [sameNs]
theorem seqQ_nil {P : Program} {ops : Array Oper} {Q : Exit → Act → World → Prop} {T : Nat → Bool} {S : World → Prop} {acts : List Nat} {a : Act} {w : World} (h : RegT.seqT P ops Q T S acts a w) : RegT.seqQ P ops Q T S acts [] a w := h
attribute [local irreducible] wpList RegT.seqT RegT.seqQ
set_option maxRecDepth 100000 in
set_option maxHeartbeats 2000000 in
theorem sameNames25_any {B C : Nat} {v u : Value} {l m : List Na} (w : World) (h : IsNs w B v l) (hy : IsNs w C u m) (hB : B ≤ w.heap.size) (hC : C ≤ w.heap.size) :
    Calls Try.prog 25 #[v, u] w fun e w' => e = .returned (.bool (sameNs l m)) ∧ Below w.heap.size w w' := by
  obtain ⟨hlen, A, cap, hcap, rfl, h7⟩ := h
  obtain ⟨hlen', A', cap', hcap', rfl, h7'⟩ := hy
  have H7 := Lib.hid h7
  have H7' := Lib.hid h7'
  clear h7 h7'
  have hl : l.length ≤ 140737488351232 := by omega
  have hl' : m.length ≤ 140737488351232 := by omega
  obtain ⟨T, hT⟩ : ∃ T, T = sameNs l m := ⟨_, rfl⟩
  rw [← hT]
  have HTT := Lib.hid hT
  clear hT
  by_cases gl : l.length = m.length
  · have HLL := Lib.hid gl
    have gl' : ((l.length : Int) != m.length) = false := by rw [gl]; simp
    clear gl
    go_enter Try.func25, Try.ntmps25
    go_wp2_with fail
    clear gl'
    go_loopw [5] (fun i wr => ∃ j : Nat, j ≤ l.length ∧ i = .int .i64 j ∧ sameNs (l.drop j) (m.drop j) = T ∧ Below w.heap.size w wr) (fun i _ => l.length - (intOf i).toNat)
    case atStart => exact ⟨0, by omega, rfl, HTT.out.symm, Below.refl _ _⟩
    case round =>
      obtain ⟨j, hj, rfl, ht, hu⟩ := hrel
      have HT := Lib.hid ht
      have HU := Lib.hid hu
      clear ht hu
      by_cases hlt : j < l.length
      · have hlt' : j < m.length := by have := HLL.out; omega
        obtain ⟨b, o, hbB, hA, hx⟩ := H7.out (by rintro rfl; simp at hlt)
        obtain ⟨b', o', hbB', hA', hx'⟩ := H7'.out (by rintro rfl; simp at hlt')
        subst hA hA'
        obtain ⟨hs0, k1, n1, s1, A1, len1, cap1, r1, hat, hx1⟩ := hx.at2 j hlt
        obtain ⟨hs0', k2, n2, s2, A2, len2, cap2, r2, hat2, hx2⟩ := hx'.at2 j hlt'
        have hat' := hat.keep hbB (fun b hb => HU.out.block b (by omega))
        have hat2' := hat2.keep hbB' (fun b hb => HU.out.block b (by omega))
        obtain ⟨e0, e1, e2, e3, e4, e5⟩ := hat'.six
        obtain ⟨f0, f1, f2, f3, f4, f5⟩ := hat2'.six
        have HD1 := Lib.hid (List.drop_eq_getElem_cons hlt)
        have HD2 := Lib.hid (List.drop_eq_getElem_cons hlt')
        have hcall := fun w' (hb : Below w.heap.size w w') => Same23_any l[j].2 m[j].2 w' B C _ _ (IsVa.keep (fun b hb' => hb.block b (by omega)) hx1) (IsVa.keep (fun b hb' => hb.block b (by omega)) hx2) (Nat.le_trans hB hb.size) (Nat.le_trans hC hb.size)
        obtain ⟨pp, hpp⟩ : ∃ pp, pp = sameV l[j].2 m[j].2 := ⟨_, rfl⟩
        rw [← hpp] at hcall
        have HPP := Lib.hid hpp
        have HCALL := Lib.hid hcall
        obtain ⟨sn, hsn⟩ : ∃ sn, sn = l[j].1 := ⟨_, rfl⟩
        obtain ⟨sm, hsm⟩ : ∃ sm, sm = m[j].1 := ⟨_, rfl⟩
        have HSN := Lib.hid hsn
        have HSM := Lib.hid hsm
        rw [← hsn] at e0 hs0
        rw [← hsm] at f0 hs0'
        clear hat hat' hat2 hat2' hx hx1 hx' hx2 hcall hpp hsn hsm
        cases heq : (sn.toList == sm.toList)
        · have HF : Hid (T = false) := Lib.hid (by rw [← HT.out, HD1.out, HD2.out, sameNs_cons, ← HSN.out, ← HSM.out, heq]; rfl)
          have heq2 : (sn.toList != sm.toList) = true := by rw [bne, heq]; rfl
          go_wp2_with fail
          go_quiet (fail)
          go_wp2_with fail
          go_ret
          rw [HF.out]
          exact ⟨rfl, belowN HU.out _⟩
        have heq2 : (sn.toList != sm.toList) = false := by rw [bne, heq]; rfl
        have HEQ := Lib.hid heq
        go_wp2_with fail
        refine RegT.region_seq (fun i => Nat.ble i 21) (fun W => (W.cell? ⟨b, o + j * 6, Option.none⟩ = some (.string sn) ∧ W.cell? ⟨b, o + j * 6 + 1, Option.none⟩ = some (.int .u8 k1) ∧ W.cell? ⟨b, o + j * 6 + 2, Option.none⟩ = some (.int .i64 n1) ∧ W.cell? ⟨b, o + j * 6 + 3, Option.none⟩ = some (.string s1) ∧ W.cell? ⟨b, o + j * 6 + 4, Option.none⟩ = some (.slice A1 len1 cap1) ∧ W.cell? ⟨b, o + j * 6 + 5, Option.none⟩ = some (.int .i64 r1)) ∧ (W.cell? ⟨b', o' + j * 6, Option.none⟩ = some (.string sm) ∧ W.cell? ⟨b', o' + j * 6 + 1, Option.none⟩ = some (.int .u8 k2) ∧ W.cell? ⟨b', o' + j * 6 + 2, Option.none⟩ = some (.int .i64 n2) ∧ W.cell? ⟨b', o' + j * 6 + 3, Option.none⟩ = some (.string s2) ∧ W.cell? ⟨b', o' + j * 6 + 4, Option.none⟩ = some (.slice A2 len2 cap2) ∧ W.cell? ⟨b', o' + j * 6 + 5, Option.none⟩ = some (.int .i64 r2))) [0, 1, 2, 3, 4, 5, 6, 7, 8, 9, 10, 11, 12, 13, 14, 15, 16, 17, 18, 19, 20, 21] [22, 23, 24] (by kernel_rfl) (by kernel_rfl) (by decide +kernel) (by decide) ⟨⟨e0, e1, e2, e3, e4, e5⟩, ⟨f0, f1, f2, f3, f4, f5⟩⟩ ?_
        refine RegT.quiet_step rfl (fun _ _ _ h => h) (by kernel_rfl) (v := .slice (some ⟨b, o, Option.none⟩) l.length cap) (fun w' hS => ?_) ?_
        · go_simp
        refine RegT.quiet_step rfl (fun _ _ _ h => h) (by kernel_rfl) (v := .int .i64 j) (fun w' hS => ?_) ?_
        · go_simp
        refine RegT.quiet_step rfl (fun _ _ _ h => h) (by kernel_rfl) (v := .pointer (some ⟨b, o + j * 6, Option.none⟩)) (fun w' hS => ?_) ?_
        · go_simp
        refine RegT.quiet_step rfl (fun _ _ _ h => h) (by kernel_rfl) (v := .pointer (some ⟨b, o + j * 6, Option.none⟩)) (fun w' hS => ?_) ?_
        · go_simp
        refine RegT.quiet_step rfl (fun _ _ _ h => h) (by kernel_rfl) (v := .string sn) (fun w' hS => ?_) ?_
        · obtain ⟨⟨t0, t1, t2, t3, t4, t5⟩, ⟨u0, u1, u2, u3, u4, u5⟩⟩ := hS; go_simp
        refine RegT.quiet_step rfl (fun _ _ _ h => h) (by kernel_rfl) (v := (.slice (some ⟨b', o', Option.none⟩) m.length cap')) (fun w' hS => ?_) ?_
        · go_simp
        refine RegT.quiet_step rfl (fun _ _ _ h => h) (by kernel_rfl) (v := .int .i64 j) (fun w' hS => ?_) ?_
        · go_simp
        refine RegT.quiet_step rfl (fun _ _ _ h => h) (by kernel_rfl) (v := (.pointer (some ⟨b', o' + j * 6, Option.none⟩))) (fun w' hS => ?_) ?_
        · go_simp
        refine RegT.quiet_step rfl (fun _ _ _ h => h) (by kernel_rfl) (v := (.pointer (some ⟨b', o' + j * 6, Option.none⟩))) (fun w' hS => ?_) ?_
        · go_simp
        refine RegT.quiet_step rfl (fun _ _ _ h => h) (by kernel_rfl) (v := .string sm) (fun w' hS => ?_) ?_
        · obtain ⟨⟨t0, t1, t2, t3, t4, t5⟩, ⟨u0, u1, u2, u3, u4, u5⟩⟩ := hS; go_simp
        refine RegT.quiet_step rfl (fun _ _ _ h => h) (by kernel_rfl) (v := .bool false) (fun w' hS => ?_) ?_
        · go_simp
        refine RegT.quiet_step rfl (fun _ _ _ h => h) (by kernel_rfl) (v := .bool false) (fun w' hS => ?_) ?_
        · go_simp
        refine RegT.quiet_step rfl (fun _ _ _ h => h) (by kernel_rfl) (v := .slice (some ⟨b, o, Option.none⟩) l.length cap) (fun w' hS => ?_) ?_
        · go_simp
        refine RegT.quiet_step rfl (fun _ _ _ h => h) (by kernel_rfl) (v := .int .i64 j) (fun w' hS => ?_) ?_
        · go_simp
        refine RegT.quiet_step rfl (fun _ _ _ h => h) (by kernel_rfl) (v := .pointer (some ⟨b, o + j * 6, Option.none⟩)) (fun w' hS => ?_) ?_
        · go_simp
        refine RegT.quiet_step rfl (fun _ _ _ h => h) (by kernel_rfl) (v := .pointer (some ⟨b, o + j * 6 + 1, Option.none⟩)) (fun w' hS => ?_) ?_
        · go_simp
        refine RegT.quiet_step rfl (fun _ _ _ h => h) (by kernel_rfl) (v := .agg #[.int .u8 k1, .int .i64 n1, .string s1, .slice A1 len1 cap1, .int .i64 r1]) (fun w' hS => ?_) ?_
        · obtain ⟨⟨t0, t1, t2, t3, t4, t5⟩, ⟨u0, u1, u2, u3, u4, u5⟩⟩ := hS; go_simp
        refine RegT.quiet_step rfl (fun _ _ _ h => h) (by kernel_rfl) (v := (.slice (some ⟨b', o', Option.none⟩) m.length cap')) (fun w' hS => ?_) ?_
        · go_simp
        refine RegT.quiet_step rfl (fun _ _ _ h => h) (by kernel_rfl) (v := .int .i64 j) (fun w' hS => ?_) ?_
        · go_simp
        refine RegT.quiet_step rfl (fun _ _ _ h => h) (by kernel_rfl) (v := (.pointer (some ⟨b', o' + j * 6, Option.none⟩))) (fun w' hS => ?_) ?_
        · go_simp
        refine RegT.quiet_step rfl (fun _ _ _ h => h) (by kernel_rfl) (v := (.pointer (some ⟨b', o' + j * 6 + 1, Option.none⟩))) (fun w' hS => ?_) ?_
        · go_simp
        refine RegT.quiet_step rfl (fun _ _ _ h => h) (by kernel_rfl) (v := .agg #[.int .u8 k2, .int .i64 n2, .string s2, .slice A2 len2 cap2, .int .i64 r2]) (fun w' hS => ?_) ?_
        · obtain ⟨⟨t0, t1, t2, t3, t4, t5⟩, ⟨u0, u1, u2, u3, u4, u5⟩⟩ := hS; go_simp
        refine seqQ_nil (RegT.seqT_tail [22, 23, 24] [_, _, _] rfl rfl _ _ ?_)
        have HD := Lib.hid (HU.out.drew)
        clear e0 e1 e2 e3 e4 e5 f0 f1 f2 f3 f4 f5
        cases pp
        · have HF : Hid (T = false) := Lib.hid (by rw [← HT.out, HD1.out, HD2.out, sameNs_cons, ← HPP.out]; simp)
          go_wp2_with (go_at_call 23; refine (HCALL.out _ HD.out).mono ?_; rintro e w1 ⟨rfl, hb1⟩)
          simp only [RegT.NP]
          go_wp2_with fail
          go_ret
          rw [HF.out]
          exact ⟨rfl, bnext HD.out hb1⟩
        · go_wp2_with (go_at_call 23; refine (HCALL.out _ HD.out).mono ?_; rintro e w1 ⟨rfl, hb1⟩)
          simp only [RegT.NP]
          go_wp2_with fail
          go_roundw
          case rel => exact ⟨j + 1, by omega, by go_num, by rw [← HT.out, HD1.out, HD2.out, sameNs_cons, ← HPP.out, ← HSN.out, ← HSM.out, HEQ.out]; rfl, bnext HD.out hb1⟩
          case measure => simp [intOf]; omega
      · obtain rfl : j = l.length := by omega
        have HF : Hid (T = true) := Lib.hid (by rw [← HT.out, List.drop_length, HLL.out, List.drop_length]; rfl)
        go_wp2_with fail
        go_ret
        rw [HF.out]
        exact ⟨rfl, HU.out⟩
  · have gl' : ((l.length : Int) != m.length) = true := by simp; omega
    have HF : Hid (T = false) := Lib.hid (by
      rw [HTT.out]
      cases hs : sameNs l m
      · rfl
      · exact absurd (sameNs_len l m hs) gl)
    clear H7 H7' HTT gl
    go_enter Try.func25, Try.ntmps25
    go_wp2_with fail
    go_ret
    rw [HF.out]
    exact ⟨rfl, Below.refl _ _⟩
end Go.Proofs.Ytnknefdpglnbnaa
