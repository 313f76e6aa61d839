/- The statements' alike: two values, field by field. (Carried over by program from the texts on code.) -/
import Derived.Test.YtjmelamllapmiaaGreatDoorB
import Derived.Test.YtjmelamllapmiaaGreatDoorRt
namespace Go.Proofs.YtjmelamllapmiaaGreatDoor
open Go.RowKit

mutual
def sameV : Va → Va → Bool
  | .mk k n s l r, .mk k' n' s' l' r' => k == k' && (n == n' && (s.toList == s'.toList && (r == r' && sameVs l l')))
def sameVs : List Va → List Va → Bool
  | [], [] => true
  | x :: l, y :: m => sameV x y && sameVs l m
  | _, _ => false
end
theorem sameVs_len : ∀ (l m : List Va), sameVs l m = true → l.length = m.length
  | [], [], _ => rfl
  | x :: l, y :: m, h => by simp only [sameVs, Bool.and_eq_true] at h; simp [sameVs_len l m h.2]
  | [], _ :: _, h => by simp [sameVs] at h
  | _ :: _, [], h => by simp [sameVs] at h
mutual
theorem sameV_eq : ∀ (x y : Va), sameV x y = true → x = y
  | .mk k n s l r, .mk k' n' s' l' r', h => by
    simp only [sameV, Bool.and_eq_true, beq_iff_eq] at h
    obtain ⟨h1, h2, h3, h4, h5⟩ := h
    have := sameVs_eq l l' h5
    have hs : s = s' := by rw [ByteArray.toList_eq, ByteArray.toList_eq] at h3; obtain ⟨⟨a⟩⟩ := s; obtain ⟨⟨b⟩⟩ := s'; simp at h3; rw [h3]
    rw [h1, h2, hs, h4, this]
theorem sameVs_eq : ∀ (l m : List Va), sameVs l m = true → l = m
  | [], [], _ => rfl
  | x :: l, y :: m, h => by simp only [sameVs, Bool.and_eq_true] at h; rw [sameV_eq x y h.1, sameVs_eq l m h.2]
  | [], _ :: _, h => by simp [sameVs] at h
  | _ :: _, [], h => by simp [sameVs] at h
end
mutual
theorem sameV_refl : ∀ (x : Va), sameV x x = true
  | .mk k n s l r => by simp [sameV, sameVs_refl l]
theorem sameVs_refl : ∀ (l : List Va), sameVs l l = true
  | [] => rfl
  | x :: l => by simp [sameVs, sameV_refl x, sameVs_refl l]
end
theorem sameVs_cons (x y : Va) (l m : List Va) : sameVs (x :: l) (y :: m) = (sameV x y && sameVs l m) := by simp [sameVs]
def SameC (x : Va) : Prop := ∀ (y : Va) (w : World) (B C : Nat) (v u : Value), IsVa w B v x → IsVa w C u y → B ≤ w.heap.size → C ≤ w.heap.size →
  Calls Tryz.prog 51 #[v, u] w fun e w' => e = .returned (.bool (sameV x y)) ∧ Below w.heap.size w w'
set_option maxRecDepth 100000 in
set_option maxHeartbeats 1000000 in
theorem alike_any (x : Va) : SameC x := by
  induction x using Va.ind with
  | h k n s l r IH =>
  intro y w B C v u h hy hB hC
  obtain ⟨k', n', s', l', r'⟩ := y
  obtain ⟨h1, h2, h3, h4, A, cap, h5, rfl, h7⟩ := h.form
  obtain ⟨h1', h2', h3', h4', A', cap', h5', rfl, h7'⟩ := hy.form
  have H7 := Lib.hid h7
  have H7' := Lib.hid h7'
  have HI := Lib.hid IH
  have HB0 := Lib.hid (((Below.refl w.heap.size w).alloc (Nat.le_refl _) (.cells #[.int .u8 k, .int .i64 n, .string s, .slice A l.length cap, .int .i64 r] 27)).alloc (by simp) (.cells #[.int .u8 k', .int .i64 n', .string s', .slice A' l'.length cap', .int .i64 r'] 27))
  have HQ : Hid (BlkN ((w.alloc (.cells #[.int .u8 k, .int .i64 n, .string s, .slice A l.length cap, .int .i64 r] 27)).alloc (.cells #[.int .u8 k', .int .i64 n', .string s', .slice A' l'.length cap', .int .i64 r'] 27)) w.heap.size 27 #[.int .u8 k, .int .i64 n, .string s, .slice A l.length cap, .int .i64 r]) := Lib.hid ((BlkN.at_ rfl _ _).alloc _)
  have HQ' : Hid (BlkN ((w.alloc (.cells #[.int .u8 k, .int .i64 n, .string s, .slice A l.length cap, .int .i64 r] 27)).alloc (.cells #[.int .u8 k', .int .i64 n', .string s', .slice A' l'.length cap', .int .i64 r'] 27)) (w.heap.size + 1) 27 #[.int .u8 k', .int .i64 n', .string s', .slice A' l'.length cap', .int .i64 r']) := Lib.hid (BlkN.at_ (by simp) _ _)
  clear h h7 hy h7' IH
  obtain ⟨T, hT⟩ : ∃ T, T = sameV (.mk k n s l r) (.mk k' n' s' l' r') := ⟨_, rfl⟩
  rw [← hT]
  have HTT : Hid (T = (k == k' && (n == n' && (s.toList == s'.toList && (r == r' && sameVs l l'))))) := Lib.hid (by rw [hT]; simp only [sameV])
  clear hT
  cases gk : ((k : Int) == k')
  · have gk' : ((k : Int) != k') = true := by rw [bne, gk]; rfl
    have HF : Hid (T = false) := Lib.hid (by rw [HTT.out, gk]; simp)
    clear H7 H7' HI HQ HQ' HTT
    go_enter Tryz.func51, Tryz.ntmps51
    go_wp2_with fail
    go_ret
    rw [HF.out]
    exact ⟨rfl, HB0.out⟩
  · have gk' : ((k : Int) != k') = false := by rw [bne, gk]; rfl
    cases gn : ((n : Int) == n')
    · have gn' : ((n : Int) != n') = true := by rw [bne, gn]; rfl
      have HF : Hid (T = false) := Lib.hid (by rw [HTT.out, gk, gn]; simp)
      clear H7 H7' HI HQ HQ' HTT
      go_enter Tryz.func51, Tryz.ntmps51
      go_wp2_with fail
      go_ret
      rw [HF.out]
      exact ⟨rfl, HB0.out⟩
    · have gn' : ((n : Int) != n') = false := by rw [bne, gn]; rfl
      cases gs : (s.toList == s'.toList)
      · have gs' : (s.toList != s'.toList) = true := by rw [bne, gs]; rfl
        have HF : Hid (T = false) := Lib.hid (by rw [HTT.out, gk, gn, gs]; simp)
        clear H7 H7' HI HQ HQ' HTT
        go_enter Tryz.func51, Tryz.ntmps51
        go_wp2_with fail
        go_ret
        rw [HF.out]
        exact ⟨rfl, HB0.out⟩
      · have gs' : (s.toList != s'.toList) = false := by rw [bne, gs]; rfl
        cases gr : ((r : Int) == r')
        · have gr' : ((r : Int) != r') = true := by rw [bne, gr]; rfl
          have HF : Hid (T = false) := Lib.hid (by rw [HTT.out, gk, gn, gs, gr]; simp)
          clear H7 H7' HI HQ HQ' HTT
          go_enter Tryz.func51, Tryz.ntmps51
          go_wp2_with fail
          go_ret
          rw [HF.out]
          exact ⟨rfl, HB0.out⟩
        · have gr' : ((r : Int) != r') = false := by rw [bne, gr]; rfl
          by_cases gl : l.length = l'.length
          · have HLL := Lib.hid gl
            have gl' : ((l.length : Int) != l'.length) = false := by rw [gl]; simp
            have HT2 : Hid (T = sameVs l l') := Lib.hid (by rw [HTT.out, gk, gn, gs, gr]; simp)
            clear gl HTT
            go_enter Tryz.func51, Tryz.ntmps51
            go_wp2_with fail
            clear gk gk' gn gn' gs gs' gr gr' gl'
            go_loopw [5] (fun i wr => ∃ j : Nat, j ≤ l.length ∧ i = .int .i64 j ∧ sameVs (l.drop j) (l'.drop j) = T ∧ Below w.heap.size w wr ∧ BlkN wr w.heap.size 27 #[.int .u8 k, .int .i64 n, .string s, .slice A l.length cap, .int .i64 r] ∧ BlkN wr (w.heap.size + 1) 27 #[.int .u8 k', .int .i64 n', .string s', .slice A' l'.length cap', .int .i64 r']) (fun i _ => l.length - (intOf i).toNat)
            case atStart => exact ⟨0, by omega, rfl, HT2.out.symm, HB0.out, HQ.out, HQ'.out⟩
            case round =>
              obtain ⟨j, hj, rfl, ht, hu, hb0, hb1⟩ := hrel
              have HT := Lib.hid ht
              have HU := Lib.hid hu
              have HC := Lib.hid hb0
              have HC' := Lib.hid hb1
              have hsz := hb1.lt
              have y3 := hb0.cell 3 rfl
              have y3' := hb1.cell 3 rfl
              clear ht hu hb0 hb1
              by_cases hlt : j < l.length
              · have hlt' : j < l'.length := by have := HLL.out; omega
                obtain ⟨b, o, hbB, hA, hx⟩ := H7.out (by rintro rfl; simp at hlt)
                obtain ⟨b', o', hbB', hA', hx'⟩ := H7'.out (by rintro rfl; simp at hlt')
                subst hA hA'
                obtain ⟨k1, n1, s1, A1, len1, cap1, r1, hat, hx1⟩ := hx.at2 j hlt
                obtain ⟨k2, n2, s2, A2, len2, cap2, r2, hat2, hx2⟩ := hx'.at2 j hlt'
                have hat' := hat.keep hbB (fun b hb => HU.out.block b (by omega))
                have hat2' := hat2.keep hbB' (fun b hb => HU.out.block b (by omega))
                obtain ⟨e0, e1, e2, e3, e4⟩ := hat'.five
                obtain ⟨f0, f1, f2, f3, f4⟩ := hat2'.five
                have HD1 := Lib.hid (List.drop_eq_getElem_cons hlt)
                have HD2 := Lib.hid (List.drop_eq_getElem_cons hlt')
                have hcall := fun w' (hb : Below w.heap.size w w') => HI.out l[j] (List.getElem_mem hlt) l'[j] w' B C _ _ (IsVa.keep (fun b hb' => hb.block b (by omega)) hx1) (IsVa.keep (fun b hb' => hb.block b (by omega)) hx2) (Nat.le_trans hB hb.size) (Nat.le_trans hC hb.size)
                obtain ⟨pp, hpp⟩ : ∃ pp, pp = sameV l[j] l'[j] := ⟨_, rfl⟩
                rw [← hpp] at hcall
                have HPP := Lib.hid hpp
                have HCALL := Lib.hid hcall
                clear hat hat' hat2 hat2' hx hx1 hx' hx2 hcall hpp
                go_wp2_with fail
                refine RegT.region_seq (fun i => Nat.ble i 9) (fun W => W.cell? ⟨w.heap.size, 3, Option.none⟩ = some (.slice (some ⟨b, o, Option.none⟩) l.length cap) ∧ W.cell? ⟨w.heap.size + 1, 3, Option.none⟩ = some (.slice (some ⟨b', o', Option.none⟩) l'.length cap') ∧ (W.cell? ⟨b, o + j * 5, Option.none⟩ = some (.int .u8 k1) ∧ W.cell? ⟨b, o + j * 5 + 1, Option.none⟩ = some (.int .i64 n1) ∧ W.cell? ⟨b, o + j * 5 + 2, Option.none⟩ = some (.string s1) ∧ W.cell? ⟨b, o + j * 5 + 3, Option.none⟩ = some (.slice A1 len1 cap1) ∧ W.cell? ⟨b, o + j * 5 + 4, Option.none⟩ = some (.int .i64 r1)) ∧ (W.cell? ⟨b', o' + j * 5, Option.none⟩ = some (.int .u8 k2) ∧ W.cell? ⟨b', o' + j * 5 + 1, Option.none⟩ = some (.int .i64 n2) ∧ W.cell? ⟨b', o' + j * 5 + 2, Option.none⟩ = some (.string s2) ∧ W.cell? ⟨b', o' + j * 5 + 3, Option.none⟩ = some (.slice A2 len2 cap2) ∧ W.cell? ⟨b', o' + j * 5 + 4, Option.none⟩ = some (.int .i64 r2))) [0, 1, 2, 3, 4, 5, 6, 7, 8, 9] [10, 11] (by kernel_rfl) (by kernel_rfl) (by decide +kernel) (by decide) ⟨y3, y3', ⟨e0, e1, e2, e3, e4⟩, ⟨f0, f1, f2, f3, f4⟩⟩ ?_
                refine RegT.quiet_step rfl (fun _ _ _ h => h) (by rfl) (v := .pointer (some ⟨w.heap.size, 3, Option.none⟩)) (fun w' hS => ?_) ?_
                · go_simp
                refine RegT.quiet_step rfl (fun _ _ _ h => h) (by rfl) (v := .slice (some ⟨b, o, Option.none⟩) l.length cap) (fun w' hS => ?_) ?_
                · obtain ⟨t0, t1, ⟨t2, t3, t4, t5, t6⟩, ⟨u2, u3, u4, u5, u6⟩⟩ := hS; go_simp
                refine RegT.quiet_step rfl (fun _ _ _ h => h) (by rfl) (v := .int .i64 j) (fun w' hS => ?_) ?_
                · go_simp
                refine RegT.quiet_step rfl (fun _ _ _ h => h) (by rfl) (v := .pointer (some ⟨b, o + j * 5, Option.none⟩)) (fun w' hS => ?_) ?_
                · go_simp
                refine RegT.quiet_step rfl (fun _ _ _ h => h) (by rfl) (v := .agg #[.int .u8 k1, .int .i64 n1, .string s1, .slice A1 len1 cap1, .int .i64 r1]) (fun w' hS => ?_) ?_
                · obtain ⟨t0, t1, ⟨t2, t3, t4, t5, t6⟩, ⟨u2, u3, u4, u5, u6⟩⟩ := hS; go_simp
                refine RegT.quiet_step rfl (fun _ _ _ h => h) (by rfl) (v := .pointer (some ⟨w.heap.size + 1, 3, Option.none⟩)) (fun w' hS => ?_) ?_
                · go_simp
                refine RegT.quiet_step rfl (fun _ _ _ h => h) (by rfl) (v := .slice (some ⟨b', o', Option.none⟩) l'.length cap') (fun w' hS => ?_) ?_
                · obtain ⟨t0, t1, ⟨t2, t3, t4, t5, t6⟩, ⟨u2, u3, u4, u5, u6⟩⟩ := hS; go_simp
                refine RegT.quiet_step rfl (fun _ _ _ h => h) (by rfl) (v := .int .i64 j) (fun w' hS => ?_) ?_
                · go_simp
                refine RegT.quiet_step rfl (fun _ _ _ h => h) (by rfl) (v := (.pointer (some ⟨b', o' + j * 5, Option.none⟩))) (fun w' hS => ?_) ?_
                · go_simp
                refine RegT.quiet_step rfl (fun _ _ _ h => h) (by rfl) (v := .agg #[.int .u8 k2, .int .i64 n2, .string s2, .slice A2 len2 cap2, .int .i64 r2]) (fun w' hS => ?_) ?_
                · obtain ⟨t0, t1, ⟨t2, t3, t4, t5, t6⟩, ⟨u2, u3, u4, u5, u6⟩⟩ := hS; go_simp
                refine RegT.seqT_tail [10, 11] [_, _] rfl rfl _ _ ?_
                have HD := Lib.hid (HU.out.drew)
                clear y3 y3' e0 e1 e2 e3 e4 f0 f1 f2 f3 f4
                cases pp
                · have HF : Hid (T = false) := Lib.hid (by rw [← HT.out, HD1.out, HD2.out, sameVs_cons, ← HPP.out]; rfl)
                  go_wp2_with (go_at_call 51; refine (HCALL.out _ HD.out).mono ?_; rintro e w1 ⟨rfl, hb1⟩)
                  simp only [RegT.NP]
                  go_wp2_with fail
                  go_ret
                  rw [HF.out]
                  exact ⟨rfl, bnext HD.out hb1⟩
                · go_wp2_with (go_at_call 51; refine (HCALL.out _ HD.out).mono ?_; rintro e w1 ⟨rfl, hb1⟩)
                  simp only [RegT.NP]
                  go_wp2_with fail
                  go_roundw
                  case rel => exact ⟨j + 1, by omega, by go_num, by rw [← HT.out, HD1.out, HD2.out, sameVs_cons, ← HPP.out]; rfl, bnext HD.out hb1, HC.out.below (bnext ((Below.refl wr.heap.size wr).drew) hb1), HC'.out.below (bnext ((Below.refl wr.heap.size wr).drew) hb1)⟩
                  case measure => simp [intOf]; omega
              · obtain rfl : j = l.length := by omega
                have HF : Hid (T = true) := Lib.hid (by rw [← HT.out, List.drop_length, HLL.out, List.drop_length]; rfl)
                go_wp2_with fail
                go_ret
                rw [HF.out]
                exact ⟨rfl, HU.out⟩
          · have gl' : ((l.length : Int) != l'.length) = true := by simp; omega
            have HF : Hid (T = false) := Lib.hid (by
              rw [HTT.out, gk, gn, gs, gr]
              cases hs : sameVs l l'
              · rfl
              · exact absurd (sameVs_len l l' hs) gl)
            clear H7 H7' HI HQ HQ' HTT gl
            go_enter Tryz.func51, Tryz.ntmps51
            go_wp2_with fail
            go_ret
            rw [HF.out]
            exact ⟨rfl, HB0.out⟩
end Go.Proofs.YtjmelamllapmiaaGreatDoor
