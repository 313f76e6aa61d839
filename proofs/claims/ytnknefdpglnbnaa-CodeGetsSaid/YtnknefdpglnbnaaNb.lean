/- The law's helper alike, walked. The plain law of CodeGets: what Set has set. -/
import Derived.Test.YtnknefdpglnbnaaLl
import Derived.Test.YtnknefdpglnbnaaMi
namespace Go.Proofs.Ytnknefdpglnbnaa
open Go.RowKit

def AlikeC (x : Va) : Prop := ∀ (y : Va) (w : World) (B C : Nat) (v u : Value), IsVa w B v x → IsVa w C u y → B ≤ w.heap.size → C ≤ w.heap.size →
  Calls Try.prog 48 #[v, u] w fun e w' => e = .returned (.bool (sameV x y)) ∧ Below w.heap.size w w'
set_option maxRecDepth 100000 in
set_option maxHeartbeats 1000000 in
theorem alike48_any (x : Va) : AlikeC x := by
  induction x using Va.ind with
  | h k n s l r IH =>
  intro y w B C v u h hy hB hC
  obtain ⟨k', n', s', l', r'⟩ := y
  obtain ⟨h1, h2, h3, h4, A, cap, h5, rfl, h7⟩ := h.form
  obtain ⟨h1', h2', h3', h4', A', cap', h5', rfl, h7'⟩ := hy.form
  have H7 := Lib.hid h7
  have H7' := Lib.hid h7'
  have HI := Lib.hid IH
  have HB0 := Lib.hid (((Below.refl w.heap.size w).alloc (Nat.le_refl _) (.cells #[.int .u8 k, .int .i64 n, .string s, .slice A l.length cap, .int .i64 r] 34)).alloc (by simp) (.cells #[.int .u8 k', .int .i64 n', .string s', .slice A' l'.length cap', .int .i64 r'] 34))
  have HQ : Hid (BlkN ((w.alloc (.cells #[.int .u8 k, .int .i64 n, .string s, .slice A l.length cap, .int .i64 r] 34)).alloc (.cells #[.int .u8 k', .int .i64 n', .string s', .slice A' l'.length cap', .int .i64 r'] 34)) w.heap.size 34 #[.int .u8 k, .int .i64 n, .string s, .slice A l.length cap, .int .i64 r]) := Lib.hid ((BlkN.at_ rfl _ _).alloc _)
  have HQ' : Hid (BlkN ((w.alloc (.cells #[.int .u8 k, .int .i64 n, .string s, .slice A l.length cap, .int .i64 r] 34)).alloc (.cells #[.int .u8 k', .int .i64 n', .string s', .slice A' l'.length cap', .int .i64 r'] 34)) (w.heap.size + 1) 34 #[.int .u8 k', .int .i64 n', .string s', .slice A' l'.length cap', .int .i64 r']) := Lib.hid (BlkN.at_ (by simp) _ _)
  clear h h7 hy h7' IH
  obtain ⟨T, hT⟩ : ∃ T, T = sameV (.mk k n s l r) (.mk k' n' s' l' r') := ⟨_, rfl⟩
  rw [← hT]
  have HTT : Hid (T = (k == k' && (n == n' && (s.toList == s'.toList && (r == r' && sameVs l l'))))) := Lib.hid (by rw [hT]; simp only [sameV])
  clear hT
  cases gk : ((k : Int) == k')
  · have gk' : ((k : Int) != k') = true := by rw [bne, gk]; rfl
    have HF : Hid (T = false) := Lib.hid (by rw [HTT.out, gk]; simp)
    clear H7 H7' HI HQ HQ' HTT
    go_enter Try.func48, Try.ntmps48
    go_wp2_with fail
    go_ret
    rw [HF.out]
    exact ⟨rfl, HB0.out⟩
  · have gk' : ((k : Int) != k') = false := by rw [bne, gk]; rfl
    cases gn : ((n : Int) == n')
    · have gn' : ((n : Int) != n') = true := by rw [bne, gn]; rfl
      have HF : Hid (T = false) := Lib.hid (by rw [HTT.out, gk, gn]; simp)
      clear H7 H7' HI HQ HQ' HTT
      go_enter Try.func48, Try.ntmps48
      go_wp2_with fail
      go_ret
      rw [HF.out]
      exact ⟨rfl, HB0.out⟩
    · have gn' : ((n : Int) != n') = false := by rw [bne, gn]; rfl
      cases gs : (s.toList == s'.toList)
      · have gs' : (s.toList != s'.toList) = true := by rw [bne, gs]; rfl
        have HF : Hid (T = false) := Lib.hid (by rw [HTT.out, gk, gn, gs]; simp)
        clear H7 H7' HI HQ HQ' HTT
        go_enter Try.func48, Try.ntmps48
        go_wp2_with fail
        go_ret
        rw [HF.out]
        exact ⟨rfl, HB0.out⟩
      · have gs' : (s.toList != s'.toList) = false := by rw [bne, gs]; rfl
        cases gr : ((r : Int) == r')
        · have gr' : ((r : Int) != r') = true := by rw [bne, gr]; rfl
          have HF : Hid (T = false) := Lib.hid (by rw [HTT.out, gk, gn, gs, gr]; simp)
          clear H7 H7' HI HQ HQ' HTT
          go_enter Try.func48, Try.ntmps48
          go_wp2_with fail
          go_ret
          rw [HF.out]
          exact ⟨rfl, HB0.out⟩
        · have gr' : ((r : Int) != r') = false := by rw [bne, gr]; rfl
          by_cases gl : l.length = l'.length
          · have HLL := Lib.hid gl
            have gl' : ((l.length : Int) != l'.length) = false := by rw [gl]; simp
            have HT2 : Hid (T = sameVs l l') := Lib.hid (by rw [HTT.out, gk, gn, gs, gr]; simp)
            clear gl HTT
            go_enter Try.func48, Try.ntmps48
            go_wp2_with fail
            clear gk gk' gn gn' gs gs' gr gr' gl'
            go_loopw [5] (fun i wr => ∃ j : Nat, j ≤ l.length ∧ i = .int .i64 j ∧ sameVs (l.drop j) (l'.drop j) = T ∧ Below w.heap.size w wr ∧ BlkN wr w.heap.size 34 #[.int .u8 k, .int .i64 n, .string s, .slice A l.length cap, .int .i64 r] ∧ BlkN wr (w.heap.size + 1) 34 #[.int .u8 k', .int .i64 n', .string s', .slice A' l'.length cap', .int .i64 r']) (fun i _ => l.length - (intOf i).toNat)
            case atStart => exact ⟨0, by omega, rfl, HT2.out.symm, HB0.out, HQ.out, HQ'.out⟩
            case round =>
              obtain ⟨j, hj, rfl, ht, hu, hb0, hb1⟩ := hrel
              have HT := Lib.hid ht
              have HU := Lib.hid hu
              have HC := Lib.hid hb0
              have HC' := Lib.hid hb1
              have hsz := hb1.lt
              have y3 := hb0.cell 3 rfl
              have y3' := hb1.cell 3 rfl
              clear ht hu hb0 hb1
              by_cases hlt : j < l.length
              · have hlt' : j < l'.length := by have := HLL.out; omega
                obtain ⟨b, o, hbB, hA, hx⟩ := H7.out (by rintro rfl; simp at hlt)
                obtain ⟨b', o', hbB', hA', hx'⟩ := H7'.out (by rintro rfl; simp at hlt')
                subst hA hA'
                obtain ⟨k1, n1, s1, A1, len1, cap1, r1, hat, hx1⟩ := hx.at2 j hlt
                obtain ⟨k2, n2, s2, A2, len2, cap2, r2, hat2, hx2⟩ := hx'.at2 j hlt'
                have hat' := hat.keep hbB (fun b hb => HU.out.block b (by omega))
                have hat2' := hat2.keep hbB' (fun b hb => HU.out.block b (by omega))
                obtain ⟨e0, e1, e2, e3, e4⟩ := hat'.five
                obtain ⟨f0, f1, f2, f3, f4⟩ := hat2'.five
                have HD1 := Lib.hid (List.drop_eq_getElem_cons hlt)
                have HD2 := Lib.hid (List.drop_eq_getElem_cons hlt')
                have hcall := fun w' (hb : Below w.heap.size w w') => HI.out l[j] (List.getElem_mem hlt) l'[j] w' B C _ _ (IsVa.keep (fun b hb' => hb.block b (by omega)) hx1) (IsVa.keep (fun b hb' => hb.block b (by omega)) hx2) (Nat.le_trans hB hb.size) (Nat.le_trans hC hb.size)
                obtain ⟨pp, hpp⟩ : ∃ pp, pp = sameV l[j] l'[j] := ⟨_, rfl⟩
                rw [← hpp] at hcall
                have HPP := Lib.hid hpp
                have HCALL := Lib.hid hcall
                clear hat hat' hat2 hat2' hx hx1 hx' hx2 hcall hpp
                go_wp2_with fail
                refine RegT.region_seq (fun i => Nat.ble i 9) (fun W => W.cell? ⟨w.heap.size, 3, Option.none⟩ = some (.slice (some ⟨b, o, Option.none⟩) l.length cap) ∧ W.cell? ⟨w.heap.size + 1, 3, Option.none⟩ = some (.slice (some ⟨b', o', Option.none⟩) l'.length cap') ∧ (W.cell? ⟨b, o + j * 5, Option.none⟩ = some (.int .u8 k1) ∧ W.cell? ⟨b, o + j * 5 + 1, Option.none⟩ = some (.int .i64 n1) ∧ W.cell? ⟨b, o + j * 5 + 2, Option.none⟩ = some (.string s1) ∧ W.cell? ⟨b, o + j * 5 + 3, Option.none⟩ = some (.slice A1 len1 cap1) ∧ W.cell? ⟨b, o + j * 5 + 4, Option.none⟩ = some (.int .i64 r1)) ∧ (W.cell? ⟨b', o' + j * 5, Option.none⟩ = some (.int .u8 k2) ∧ W.cell? ⟨b', o' + j * 5 + 1, Option.none⟩ = some (.int .i64 n2) ∧ W.cell? ⟨b', o' + j * 5 + 2, Option.none⟩ = some (.string s2) ∧ W.cell? ⟨b', o' + j * 5 + 3, Option.none⟩ = some (.slice A2 len2 cap2) ∧ W.cell? ⟨b', o' + j * 5 + 4, Option.none⟩ = some (.int .i64 r2))) [0, 1, 2, 3, 4, 5, 6, 7, 8, 9] [10, 11] (by kernel_rfl) (by kernel_rfl) (by decide +kernel) (by decide) ⟨y3, y3', ⟨e0, e1, e2, e3, e4⟩, ⟨f0, f1, f2, f3, f4⟩⟩ ?_
                refine RegT.quiet_step rfl (fun _ _ _ h => h) (by rfl) (v := .pointer (some ⟨w.heap.size, 3, Option.none⟩)) (fun w' hS => ?_) ?_
                · go_simp
                refine RegT.quiet_step rfl (fun _ _ _ h => h) (by rfl) (v := .slice (some ⟨b, o, Option.none⟩) l.length cap) (fun w' hS => ?_) ?_
                · obtain ⟨t0, t1, ⟨t2, t3, t4, t5, t6⟩, ⟨u2, u3, u4, u5, u6⟩⟩ := hS; go_simp
                refine RegT.quiet_step rfl (fun _ _ _ h => h) (by rfl) (v := .int .i64 j) (fun w' hS => ?_) ?_
                · go_simp
                refine RegT.quiet_step rfl (fun _ _ _ h => h) (by rfl) (v := .pointer (some ⟨b, o + j * 5, Option.none⟩)) (fun w' hS => ?_) ?_
                · go_simp
                refine RegT.quiet_step rfl (fun _ _ _ h => h) (by rfl) (v := .agg #[.int .u8 k1, .int .i64 n1, .string s1, .slice A1 len1 cap1, .int .i64 r1]) (fun w' hS => ?_) ?_
                · obtain ⟨t0, t1, ⟨t2, t3, t4, t5, t6⟩, ⟨u2, u3, u4, u5, u6⟩⟩ := hS; go_simp
                refine RegT.quiet_step rfl (fun _ _ _ h => h) (by rfl) (v := .pointer (some ⟨w.heap.size + 1, 3, Option.none⟩)) (fun w' hS => ?_) ?_
                · go_simp
                refine RegT.quiet_step rfl (fun _ _ _ h => h) (by rfl) (v := .slice (some ⟨b', o', Option.none⟩) l'.length cap') (fun w' hS => ?_) ?_
                · obtain ⟨t0, t1, ⟨t2, t3, t4, t5, t6⟩, ⟨u2, u3, u4, u5, u6⟩⟩ := hS; go_simp
                refine RegT.quiet_step rfl (fun _ _ _ h => h) (by rfl) (v := .int .i64 j) (fun w' hS => ?_) ?_
                · go_simp
                refine RegT.quiet_step rfl (fun _ _ _ h => h) (by rfl) (v := (.pointer (some ⟨b', o' + j * 5, Option.none⟩))) (fun w' hS => ?_) ?_
                · go_simp
                refine RegT.quiet_step rfl (fun _ _ _ h => h) (by rfl) (v := .agg #[.int .u8 k2, .int .i64 n2, .string s2, .slice A2 len2 cap2, .int .i64 r2]) (fun w' hS => ?_) ?_
                · obtain ⟨t0, t1, ⟨t2, t3, t4, t5, t6⟩, ⟨u2, u3, u4, u5, u6⟩⟩ := hS; go_simp
                refine RegT.seqT_tail [10, 11] [_, _] rfl rfl _ _ ?_
                have HD := Lib.hid (HU.out.drew)
                clear y3 y3' e0 e1 e2 e3 e4 f0 f1 f2 f3 f4
                cases pp
                · have HF : Hid (T = false) := Lib.hid (by rw [← HT.out, HD1.out, HD2.out, sameVs_cons, ← HPP.out]; rfl)
                  go_wp2_with (go_at_call 48; refine (HCALL.out _ HD.out).mono ?_; rintro e w1 ⟨rfl, hb1⟩)
                  simp only [RegT.NP]
                  go_wp2_with fail
                  go_ret
                  rw [HF.out]
                  exact ⟨rfl, bnext HD.out hb1⟩
                · go_wp2_with (go_at_call 48; refine (HCALL.out _ HD.out).mono ?_; rintro e w1 ⟨rfl, hb1⟩)
                  simp only [RegT.NP]
                  go_wp2_with fail
                  go_roundw
                  case rel => exact ⟨j + 1, by omega, by go_num, by rw [← HT.out, HD1.out, HD2.out, sameVs_cons, ← HPP.out]; rfl, bnext HD.out hb1, HC.out.below (bnext ((Below.refl wr.heap.size wr).drew) hb1), HC'.out.below (bnext ((Below.refl wr.heap.size wr).drew) hb1)⟩
                  case measure => simp [intOf]; omega
              · obtain rfl : j = l.length := by omega
                have HF : Hid (T = true) := Lib.hid (by rw [← HT.out, List.drop_length, HLL.out, List.drop_length]; rfl)
                go_wp2_with fail
                go_ret
                rw [HF.out]
                exact ⟨rfl, HU.out⟩
          · have gl' : ((l.length : Int) != l'.length) = true := by simp; omega
            have HF : Hid (T = false) := Lib.hid (by
              rw [HTT.out, gk, gn, gs, gr]
              cases hs : sameVs l l'
              · rfl
              · exact absurd (sameVs_len l l' hs) gl)
            clear H7 H7' HI HQ HQ' HTT gl
            go_enter Try.func48, Try.ntmps48
            go_wp2_with fail
            go_ret
            rw [HF.out]
            exact ⟨rfl, HB0.out⟩
end Go.Proofs.Ytnknefdpglnbnaa
namespace Go.Proofs.Ytnknefdpglnbnaa
open Go.RowKit

theorem ba_ext {a b : ByteArray} (h : (a.toList == b.toList) = true) : a = b := by
  rw [beq_iff_eq, ByteArray.toList_eq, ByteArray.toList_eq] at h
  obtain ⟨⟨a⟩⟩ := a
  obtain ⟨⟨b⟩⟩ := b
  simp at h
  rw [h]
theorem ba_eq (a b : ByteArray) : (a.toList == b.toList) = decide (a = b) := by
  by_cases h : a = b
  · subst h; simp
  · rw [decide_eq_false h, Bool.eq_false_iff]; exact fun e => h (ba_ext e)
theorem getN_setN (s : ByteArray) (v : Va) : ∀ (ns : List Na), getB ns s = true → getN (setN ns s v) s = some v
  | [], h => by simp [getB, getN] at h
  | (t, x) :: l, h => by
    unfold setN
    rw [List.map_cons]
    cases e : (t.toList == s.toList)
    · simp only [e, Bool.false_eq_true, if_false, getN]
      have h' : getB l s = true := by unfold getB at h ⊢; simpa only [getN, e, Bool.false_eq_true, if_false] using h
      exact getN_setN s v l h'
    · simp only [e, if_true, getN]
theorem getN_setN_other (s b : ByteArray) (v : Va) (hb : (s.toList == b.toList) = false) : ∀ (ns : List Na), getN (setN ns s v) b = getN ns b
  | [] => rfl
  | (t, x) :: l => by
    have ih := getN_setN_other s b v hb l
    unfold setN at ih ⊢
    rw [List.map_cons]
    cases e : (t.toList == s.toList)
    · simp only [Bool.false_eq_true, if_false, getN, ih]
    · have : t = s := ba_ext e
      subst this
      simp only [if_true, getN, hb, Bool.false_eq_true, if_false, ih]
theorem getN_app (b : ByteArray) (m : List Na) : ∀ (ns : List Na), getN (ns ++ m) b = match getN ns b with | Option.none => getN m b | some x => some x
  | [] => rfl
  | (t, x) :: l => by
    rw [List.cons_append]
    simp only [getN]
    split
    · rfl
    · exact getN_app b m l
theorem getB_none {ns : List Na} {s : ByteArray} (h : getB ns s = false) : getN ns s = Option.none := by
  unfold getB at h
  cases hg : getN ns s
  · rfl
  · rw [hg] at h; cases h
theorem setN_names (s : ByteArray) (v : Va) (ns : List Na) : (setN ns s v).map (·.1) = ns.map (·.1) := by
  unfold setN
  rw [List.map_map]
  apply List.map_congr_left
  intro x _
  simp only [Function.comp]
  split <;> rfl
/-- Where Set has set. -/
structure SetOk (ns ol : List Na) (s : ByteArray) (x : Va) : Prop where
  may : mayNs ns = true
  mayS : mayN s = true
  mayX : mayV x = true
  got : getN ol s = some x
  mayO : mayNs ol = true
  other : ∀ b : ByteArray, (s.toList == b.toList) = false → getN ol b = getN ns b
  lo : ns.length ≤ ol.length
  hi : ol.length ≤ ns.length + 1
  nth : ∀ (i : Nat) (h : i < ns.length) (h' : i < ol.length), ol[i].1 = ns[i].1 ∧ ((ns[i].1.toList == s.toList) = false → ol[i].2 = ns[i].2)
theorem set_ok (ns : List Na) (s : ByteArray) (x : Va) (h : (setW ns s x).2 = 0) : SetOk ns (setW ns s x).1 s x := by
  unfold setW at *
  by_cases h1 : (mayNs ns && (mayN s && mayV x)) = true
  · rw [if_pos h1] at h ⊢
    simp only [Bool.and_eq_true] at h1
    obtain ⟨m1, m2, m3⟩ := h1
    have hM := m1
    simp only [mayNs, Bool.and_eq_true, decide_eq_true_eq, List.all_eq_true] at hM
    obtain ⟨⟨hl, ha⟩, hu⟩ := hM
    by_cases h2 : getB ns s = true
    · rw [if_pos h2] at h ⊢
      have hlen : (setN ns s x).length = ns.length := by simp [setN]
      refine ⟨m1, m2, m3, getN_setN s x ns h2, ?_, fun b hb => getN_setN_other s b x hb ns, by simp [hlen], by simp [hlen], fun i h h' => ?_⟩
      · simp only [mayNs, Bool.and_eq_true, decide_eq_true_eq, List.all_eq_true]
        refine ⟨⟨by rw [hlen]; exact hl, fun y hy => ?_⟩, by rw [setN_names]; exact hu⟩
        unfold setN at hy
        obtain ⟨z, hz, rfl⟩ := List.mem_map.1 hy
        have := ha z hz
        split
        · exact ⟨this.1, m3⟩
        · exact this
      · simp only [setN, List.getElem_map]
        constructor
        · split <;> rfl
        · intro e; rw [e]; rfl
    · have h2' : getB ns s = false := by simpa using h2
      rw [if_neg h2] at h ⊢
      by_cases h3 : 64 ≤ ns.length
      · rw [if_pos h3] at h; simp at h
      · rw [if_neg h3] at h ⊢
        have hn := getB_none h2'
        refine ⟨m1, m2, m3, by simp only [getN_app, hn]; simp [getN], ?_, fun b hb => ?_, by simp, by simp, fun i h h' => ?_⟩
        · simp only [mayNs, Bool.and_eq_true, decide_eq_true_eq, List.all_eq_true]
          refine ⟨⟨by simp; omega, fun y hy => ?_⟩, ?_⟩
          · rcases List.mem_append.1 hy with hy | hy
            · exact ha y hy
            · simp at hy; subst hy; exact ⟨m2, m3⟩
          · simp only [twB, Bool.not_not, decide_eq_true_eq] at hu ⊢
            unfold uniq at hu ⊢
            rw [List.map_append, List.map_append, List.nodup_append]
            refine ⟨hu, by simp, fun a ha' b hb e => ?_⟩
            simp at hb
            subst hb e
            simp only [List.mem_map] at ha'
            obtain ⟨t, ⟨z, hz, rfl⟩, ht⟩ := ha'
            have : (ns.any fun x => x.1.toList == s.toList) = true := List.any_eq_true.2 ⟨z, hz, by rw [beq_iff_eq, ByteArray.toList_eq, ByteArray.toList_eq]; exact ht⟩
            rw [← getB_any, h2'] at this
            cases this
        · simp only [getN_app]
          cases hg : getN ns b
          · simp [getN, hb]
          · rfl
        · rw [List.getElem_append_left h]
          exact ⟨rfl, fun _ => rfl⟩
  · rw [if_neg h1] at h; simp at h
/-- Work at a name that is among the names. -/
theorem workW_name (ns : List Na) (s : ByteArray) (x : Va) (h : mayNs ns = true) (hs : mayN s = true) (hx : mayV x = true) (hg : getN ns s = some x) : workW ns (.mk 4 0 s []) = (x, 0) := by
  have hr : workR ns (.mk 4 0 s []) = x := by simp [workR, rawX, hg]
  have ho : orNoneE (.mk 4 0 s []) = true := by
    unfold orNoneE mayE
    simp [mayX, hs]
  unfold workW
  rw [hr, h, ho, hx]
  rfl
theorem mayNs_one (s : ByteArray) (x : Va) (hs : mayN s = true) (hx : mayV x = true) : mayNs [(s, x)] = true := by
  simp [mayNs, hs, hx, twB, uniq]
end Go.Proofs.Ytnknefdpglnbnaa
