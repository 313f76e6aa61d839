/- CodeFree, the plain law: what an expression works out to hangs on the names alone that stand in it. The law of CodeFree: its helper alike, walked. CodeFree: the law's walk. -/
import Derived.Test.YtnknefdpglnbnaaXo
import Derived.Test.YtnknefdpglnbnaaMc
import Derived.Test.YtnknefdpglnbnaaLl
import Derived.Test.YtnknefdpglnbnaaLp
namespace Go.Proofs.Ytnknefdpglnbnaa
open Go Go.RowKit Go.Maps Go.Sort

def stX (x : Ex) : St := .mk 1 ⟨#[120]⟩ ⟨#[]⟩ 0 0 x zE [] [] [] []
theorem stX_may (x : Ex) (h : mayE x = true) : mayS (stX x) = true := by
  have h1 : mayN ⟨#[120]⟩ = true := by decide
  have h2 : noneX zE = true := by simp [noneX, zE, ByteArray.toList_eq]
  have h3 : (ByteArray.toList ⟨#[]⟩ == []) = true := by rw [ByteArray.toList_eq]; rfl
  simp only [stX, mayS, zS, if_true, h1, orNoneE, h, h2, h3]
  simp
theorem chk_stX (x : Ex) (h : mayE x = true) : chkL [stX x] = (0, 0) := by
  have e : ((flats [stX x] 0).map (·.2)) = [stX x] := by simp [flats, stX, flat]
  unfold chkL
  rw [e]
  simp [chk, stX_may x h]
theorem reads_stX (x : Ex) (h : mayE x = true) : ownR readsX (rowsX [stX x]) = namesX x := by
  rw [ownR_rows _ (by rw [chk_stX x h])]
  simp [ownL, stX, ownS, readsX, zE, namesX, namesXs]
theorem txt_inj {s t : ByteArray} (h : txt s = txt t) : s = t := by
  obtain ⟨⟨s⟩⟩ := s
  obtain ⟨⟨t⟩⟩ := t
  simp only [txt] at h
  rw [h]
theorem sortU_mem (l : List ByteArray) (s : ByteArray) : s ∈ sortU l ↔ s ∈ l := by
  have h := (sortU_spec l).2 (txt s)
  constructor
  · intro hs
    obtain ⟨t, ht, e⟩ := h.1 ⟨s, hs, rfl⟩
    rwa [← txt_inj e]
  · intro hs
    obtain ⟨t, ht, e⟩ := h.2 ⟨s, hs, rfl⟩
    rwa [← txt_inj e]
theorem sortU_uniq (l : List ByteArray) : uniq (sortU l) := by
  have hp : ((sortU l).map txt).Pairwise (fun a b => a < b) := List.pairwise_map.2 (sortU_spec l).1
  exact List.Pairwise.imp (fun {a b} (h : a < b) (e : a = b) => List.lt_irrefl b (e ▸ h)) hp
/-- The names that Only answers with. -/
def fewX (ns : List Na) (x : Ex) : List Na := (sortU (namesX x)).map fun s => (s, rawX ns s)
theorem names_may {x : Ex} (h : mayE x = true) : ∀ s ∈ namesX x, mayN s = true := by
  rw [mayE_eq] at h
  simp only [Bool.and_eq_true, decide_eq_true_eq] at h
  exact names_fld x h.2.2
theorem names_few {x : Ex} (h : mayE x = true) : (namesX x).length ≤ 512 := (or_names (by simp [orNoneE, h])).1
theorem only_few (ns : List Na) (x : Ex) (hm : mayNs ns = true) (h : mayE x = true) : onlyW ns (sortU (namesX x)) = (fewX ns x, 0) := by
  have h1 : (sortU (namesX x)).all mayN = true := List.all_eq_true.2 fun s hs => names_may h s ((sortU_mem _ _).1 hs)
  have h2 : twB (sortU (namesX x)) = false := by simp [twB, sortU_uniq]
  simp [onlyW, hm, h1, h2, fewX]
theorem getN_map (f : ByteArray → Va) (l : List ByteArray) (s : ByteArray) (h : s ∈ l) : getN (l.map fun s => (s, f s)) s = some (f s) := by
  induction l with
  | nil => simp at h
  | cons t l ih =>
    simp only [List.map_cons, getN]
    by_cases e : (t.toList == s.toList) = true
    · rw [if_pos e]
      rw [beq_iff_eq, ByteArray.toList_eq, ByteArray.toList_eq] at e
      rw [txt_inj e]
    · rw [if_neg e]
      rcases List.mem_cons.1 h with rfl | h
      · simp at e
      · exact ih h
theorem raw_few (ns : List Na) (x : Ex) (s : ByteArray) (h : s ∈ namesX x) : rawX (fewX ns x) s = rawX ns s := by
  have := getN_map (rawX ns) (sortU (namesX x)) s ((sortU_mem _ _).2 h)
  have h2 : ∀ (l : List Na) (v : Va), getN l s = some v → rawX l s = v := fun l v h => by unfold rawX; rw [h]
  exact h2 _ _ this
theorem may_few (ns : List Na) (x : Ex) (hm : mayNs ns = true) (h : mayE x = true) (hl : (fewX ns x).length ≤ 64) : mayNs (fewX ns x) = true := by
  have e : (fewX ns x).map (·.1) = sortU (namesX x) := by
    unfold fewX
    rw [List.map_map]
    exact List.map_id _
  have h2 : twB (sortU (namesX x)) = false := by simp [twB, sortU_uniq]
  simp only [mayNs, e, h2, hl, decide_true, Bool.true_and, Bool.not_false, Bool.and_true]
  rw [List.all_eq_true]
  intro y hy
  simp only [fewX, List.mem_map] at hy
  obtain ⟨s, hs, rfl⟩ := hy
  simp [names_may h s ((sortU_mem _ _).1 hs), rawX_may ns s hm]
mutual
theorem workR_free (ns ms : List Na) : ∀ (x : Ex), (∀ s ∈ namesX x, rawX ms s = rawX ns s) → workR ms x = workR ns x
  | .mk k n s l, h => by
    unfold workR
    by_cases h3 : k = 3
    · rw [workRs_free ns ms l fun s hs => h s (by simp [namesX, hs])]
      simp [h3]
    · by_cases h4 : k = 4
      · subst h4
        rw [h s (by simp [namesX])]
        simp
      · simp [h3, h4]
theorem workRs_free (ns ms : List Na) : ∀ (l : List Ex), (∀ s ∈ namesXs l, rawX ms s = rawX ns s) → workRs ms l = workRs ns l
  | [], _ => rfl
  | x :: l, h => by
    unfold workRs
    rw [workR_free ns ms x fun s hs => h s (by simp [namesXs, hs]), workRs_free ns ms l fun s hs => h s (by simp [namesXs, hs])]
end
/-- Worked out with its own names alone. -/
theorem work_few (ns : List Na) (x : Ex) (hm : mayNs ns = true) (h : mayE x = true) (hl : (fewX ns x).length ≤ 64) : workV (fewX ns x) x = workV ns x := by
  rw [workW_eq, workW_eq]
  unfold workW
  rw [hm, may_few ns x hm h hl, workR_free ns (fewX ns x) x fun s hs => raw_few ns x s hs]
/-- Worked out with no names, where none stand in it. -/
theorem work_none (ns : List Na) (x : Ex) (hm : mayNs ns = true) (hn : sortU (namesX x) = []) : workV [] x = workV ns x := by
  have h0 : mayNs [] = true := by decide
  rw [workW_eq, workW_eq]
  unfold workW
  rw [hm, h0, workR_free ns [] x fun s hs => by
    have := (sortU_mem _ s).2 hs
    rw [hn] at this
    simp at this]
end Go.Proofs.Ytnknefdpglnbnaa
namespace Go.Proofs.Ytnknefdpglnbnaa
open Go.RowKit

def AlikeC (x : Va) : Prop := ∀ (y : Va) (w : World) (B C : Nat) (v u : Value), IsVa w B v x → IsVa w C u y → B ≤ w.heap.size → C ≤ w.heap.size →
  Calls Try.prog 48 #[v, u] w fun e w' => e = .returned (.bool (sameV x y)) ∧ Below w.heap.size w w'
set_option maxRecDepth 100000 in
set_option maxHeartbeats 1000000 in
theorem alike48_any (x : Va) : AlikeC x := by
  induction x using Va.ind with
  | h k n s l r IH =>
  intro y w B C v u h hy hB hC
  obtain ⟨k', n', s', l', r'⟩ := y
  obtain ⟨h1, h2, h3, h4, A, cap, h5, rfl, h7⟩ := h.form
  obtain ⟨h1', h2', h3', h4', A', cap', h5', rfl, h7'⟩ := hy.form
  have H7 := Lib.hid h7
  have H7' := Lib.hid h7'
  have HI := Lib.hid IH
  have HB0 := Lib.hid (((Below.refl w.heap.size w).alloc (Nat.le_refl _) (.cells #[.int .u8 k, .int .i64 n, .string s, .slice A l.length cap, .int .i64 r] 34)).alloc (by simp) (.cells #[.int .u8 k', .int .i64 n', .string s', .slice A' l'.length cap', .int .i64 r'] 34))
  have HQ : Hid (BlkN ((w.alloc (.cells #[.int .u8 k, .int .i64 n, .string s, .slice A l.length cap, .int .i64 r] 34)).alloc (.cells #[.int .u8 k', .int .i64 n', .string s', .slice A' l'.length cap', .int .i64 r'] 34)) w.heap.size 34 #[.int .u8 k, .int .i64 n, .string s, .slice A l.length cap, .int .i64 r]) := Lib.hid ((BlkN.at_ rfl _ _).alloc _)
  have HQ' : Hid (BlkN ((w.alloc (.cells #[.int .u8 k, .int .i64 n, .string s, .slice A l.length cap, .int .i64 r] 34)).alloc (.cells #[.int .u8 k', .int .i64 n', .string s', .slice A' l'.length cap', .int .i64 r'] 34)) (w.heap.size + 1) 34 #[.int .u8 k', .int .i64 n', .string s', .slice A' l'.length cap', .int .i64 r']) := Lib.hid (BlkN.at_ (by simp) _ _)
  clear h h7 hy h7' IH
  obtain ⟨T, hT⟩ : ∃ T, T = sameV (.mk k n s l r) (.mk k' n' s' l' r') := ⟨_, rfl⟩
  rw [← hT]
  have HTT : Hid (T = (k == k' && (n == n' && (s.toList == s'.toList && (r == r' && sameVs l l'))))) := Lib.hid (by rw [hT]; simp only [sameV])
  clear hT
  cases gk : ((k : Int) == k')
  · have gk' : ((k : Int) != k') = true := by rw [bne, gk]; rfl
    have HF : Hid (T = false) := Lib.hid (by rw [HTT.out, gk]; simp)
    clear H7 H7' HI HQ HQ' HTT
    go_enter Try.func48, Try.ntmps48
    go_wp2_with fail
    go_ret
    rw [HF.out]
    exact ⟨rfl, HB0.out⟩
  · have gk' : ((k : Int) != k') = false := by rw [bne, gk]; rfl
    cases gn : ((n : Int) == n')
    · have gn' : ((n : Int) != n') = true := by rw [bne, gn]; rfl
      have HF : Hid (T = false) := Lib.hid (by rw [HTT.out, gk, gn]; simp)
      clear H7 H7' HI HQ HQ' HTT
      go_enter Try.func48, Try.ntmps48
      go_wp2_with fail
      go_ret
      rw [HF.out]
      exact ⟨rfl, HB0.out⟩
    · have gn' : ((n : Int) != n') = false := by rw [bne, gn]; rfl
      cases gs : (s.toList == s'.toList)
      · have gs' : (s.toList != s'.toList) = true := by rw [bne, gs]; rfl
        have HF : Hid (T = false) := Lib.hid (by rw [HTT.out, gk, gn, gs]; simp)
        clear H7 H7' HI HQ HQ' HTT
        go_enter Try.func48, Try.ntmps48
        go_wp2_with fail
        go_ret
        rw [HF.out]
        exact ⟨rfl, HB0.out⟩
      · have gs' : (s.toList != s'.toList) = false := by rw [bne, gs]; rfl
        cases gr : ((r : Int) == r')
        · have gr' : ((r : Int) != r') = true := by rw [bne, gr]; rfl
          have HF : Hid (T = false) := Lib.hid (by rw [HTT.out, gk, gn, gs, gr]; simp)
          clear H7 H7' HI HQ HQ' HTT
          go_enter Try.func48, Try.ntmps48
          go_wp2_with fail
          go_ret
          rw [HF.out]
          exact ⟨rfl, HB0.out⟩
        · have gr' : ((r : Int) != r') = false := by rw [bne, gr]; rfl
          by_cases gl : l.length = l'.length
          · have HLL := Lib.hid gl
            have gl' : ((l.length : Int) != l'.length) = false := by rw [gl]; simp
            have HT2 : Hid (T = sameVs l l') := Lib.hid (by rw [HTT.out, gk, gn, gs, gr]; simp)
            clear gl HTT
            go_enter Try.func48, Try.ntmps48
            go_wp2_with fail
            clear gk gk' gn gn' gs gs' gr gr' gl'
            go_loopw [5] (fun i wr => ∃ j : Nat, j ≤ l.length ∧ i = .int .i64 j ∧ sameVs (l.drop j) (l'.drop j) = T ∧ Below w.heap.size w wr ∧ BlkN wr w.heap.size 34 #[.int .u8 k, .int .i64 n, .string s, .slice A l.length cap, .int .i64 r] ∧ BlkN wr (w.heap.size + 1) 34 #[.int .u8 k', .int .i64 n', .string s', .slice A' l'.length cap', .int .i64 r']) (fun i _ => l.length - (intOf i).toNat)
            case atStart => exact ⟨0, by omega, rfl, HT2.out.symm, HB0.out, HQ.out, HQ'.out⟩
            case round =>
              obtain ⟨j, hj, rfl, ht, hu, hb0, hb1⟩ := hrel
              have HT := Lib.hid ht
              have HU := Lib.hid hu
              have HC := Lib.hid hb0
              have HC' := Lib.hid hb1
              have hsz := hb1.lt
              have y3 := hb0.cell 3 rfl
              have y3' := hb1.cell 3 rfl
              clear ht hu hb0 hb1
              by_cases hlt : j < l.length
              · have hlt' : j < l'.length := by have := HLL.out; omega
                obtain ⟨b, o, hbB, hA, hx⟩ := H7.out (by rintro rfl; simp at hlt)
                obtain ⟨b', o', hbB', hA', hx'⟩ := H7'.out (by rintro rfl; simp at hlt')
                subst hA hA'
                obtain ⟨k1, n1, s1, A1, len1, cap1, r1, hat, hx1⟩ := hx.at2 j hlt
                obtain ⟨k2, n2, s2, A2, len2, cap2, r2, hat2, hx2⟩ := hx'.at2 j hlt'
                have hat' := hat.keep hbB (fun b hb => HU.out.block b (by omega))
                have hat2' := hat2.keep hbB' (fun b hb => HU.out.block b (by omega))
                obtain ⟨e0, e1, e2, e3, e4⟩ := hat'.five
                obtain ⟨f0, f1, f2, f3, f4⟩ := hat2'.five
                have HD1 := Lib.hid (List.drop_eq_getElem_cons hlt)
                have HD2 := Lib.hid (List.drop_eq_getElem_cons hlt')
                have hcall := fun w' (hb : Below w.heap.size w w') => HI.out l[j] (List.getElem_mem hlt) l'[j] w' B C _ _ (IsVa.keep (fun b hb' => hb.block b (by omega)) hx1) (IsVa.keep (fun b hb' => hb.block b (by omega)) hx2) (Nat.le_trans hB hb.size) (Nat.le_trans hC hb.size)
                obtain ⟨pp, hpp⟩ : ∃ pp, pp = sameV l[j] l'[j] := ⟨_, rfl⟩
                rw [← hpp] at hcall
                have HPP := Lib.hid hpp
                have HCALL := Lib.hid hcall
                clear hat hat' hat2 hat2' hx hx1 hx' hx2 hcall hpp
                go_wp2_with fail
                refine RegT.region_seq (fun i => Nat.ble i 9) (fun W => W.cell? ⟨w.heap.size, 3, Option.none⟩ = some (.slice (some ⟨b, o, Option.none⟩) l.length cap) ∧ W.cell? ⟨w.heap.size + 1, 3, Option.none⟩ = some (.slice (some ⟨b', o', Option.none⟩) l'.length cap') ∧ (W.cell? ⟨b, o + j * 5, Option.none⟩ = some (.int .u8 k1) ∧ W.cell? ⟨b, o + j * 5 + 1, Option.none⟩ = some (.int .i64 n1) ∧ W.cell? ⟨b, o + j * 5 + 2, Option.none⟩ = some (.string s1) ∧ W.cell? ⟨b, o + j * 5 + 3, Option.none⟩ = some (.slice A1 len1 cap1) ∧ W.cell? ⟨b, o + j * 5 + 4, Option.none⟩ = some (.int .i64 r1)) ∧ (W.cell? ⟨b', o' + j * 5, Option.none⟩ = some (.int .u8 k2) ∧ W.cell? ⟨b', o' + j * 5 + 1, Option.none⟩ = some (.int .i64 n2) ∧ W.cell? ⟨b', o' + j * 5 + 2, Option.none⟩ = some (.string s2) ∧ W.cell? ⟨b', o' + j * 5 + 3, Option.none⟩ = some (.slice A2 len2 cap2) ∧ W.cell? ⟨b', o' + j * 5 + 4, Option.none⟩ = some (.int .i64 r2))) [0, 1, 2, 3, 4, 5, 6, 7, 8, 9] [10, 11] (by kernel_rfl) (by kernel_rfl) (by decide +kernel) (by decide) ⟨y3, y3', ⟨e0, e1, e2, e3, e4⟩, ⟨f0, f1, f2, f3, f4⟩⟩ ?_
                refine RegT.quiet_step rfl (fun _ _ _ h => h) (by rfl) (v := .pointer (some ⟨w.heap.size, 3, Option.none⟩)) (fun w' hS => ?_) ?_
                · go_simp
                refine RegT.quiet_step rfl (fun _ _ _ h => h) (by rfl) (v := .slice (some ⟨b, o, Option.none⟩) l.length cap) (fun w' hS => ?_) ?_
                · obtain ⟨t0, t1, ⟨t2, t3, t4, t5, t6⟩, ⟨u2, u3, u4, u5, u6⟩⟩ := hS; go_simp
                refine RegT.quiet_step rfl (fun _ _ _ h => h) (by rfl) (v := .int .i64 j) (fun w' hS => ?_) ?_
                · go_simp
                refine RegT.quiet_step rfl (fun _ _ _ h => h) (by rfl) (v := .pointer (some ⟨b, o + j * 5, Option.none⟩)) (fun w' hS => ?_) ?_
                · go_simp
                refine RegT.quiet_step rfl (fun _ _ _ h => h) (by rfl) (v := .agg #[.int .u8 k1, .int .i64 n1, .string s1, .slice A1 len1 cap1, .int .i64 r1]) (fun w' hS => ?_) ?_
                · obtain ⟨t0, t1, ⟨t2, t3, t4, t5, t6⟩, ⟨u2, u3, u4, u5, u6⟩⟩ := hS; go_simp
                refine RegT.quiet_step rfl (fun _ _ _ h => h) (by rfl) (v := .pointer (some ⟨w.heap.size + 1, 3, Option.none⟩)) (fun w' hS => ?_) ?_
                · go_simp
                refine RegT.quiet_step rfl (fun _ _ _ h => h) (by rfl) (v := .slice (some ⟨b', o', Option.none⟩) l'.length cap') (fun w' hS => ?_) ?_
                · obtain ⟨t0, t1, ⟨t2, t3, t4, t5, t6⟩, ⟨u2, u3, u4, u5, u6⟩⟩ := hS; go_simp
                refine RegT.quiet_step rfl (fun _ _ _ h => h) (by rfl) (v := .int .i64 j) (fun w' hS => ?_) ?_
                · go_simp
                refine RegT.quiet_step rfl (fun _ _ _ h => h) (by rfl) (v := (.pointer (some ⟨b', o' + j * 5, Option.none⟩))) (fun w' hS => ?_) ?_
                · go_simp
                refine RegT.quiet_step rfl (fun _ _ _ h => h) (by rfl) (v := .agg #[.int .u8 k2, .int .i64 n2, .string s2, .slice A2 len2 cap2, .int .i64 r2]) (fun w' hS => ?_) ?_
                · obtain ⟨t0, t1, ⟨t2, t3, t4, t5, t6⟩, ⟨u2, u3, u4, u5, u6⟩⟩ := hS; go_simp
                refine RegT.seqT_tail [10, 11] [_, _] rfl rfl _ _ ?_
                have HD := Lib.hid (HU.out.drew)
                clear y3 y3' e0 e1 e2 e3 e4 f0 f1 f2 f3 f4
                cases pp
                · have HF : Hid (T = false) := Lib.hid (by rw [← HT.out, HD1.out, HD2.out, sameVs_cons, ← HPP.out]; rfl)
                  go_wp2_with (go_at_call 48; refine (HCALL.out _ HD.out).mono ?_; rintro e w1 ⟨rfl, hb1⟩)
                  simp only [RegT.NP]
                  go_wp2_with fail
                  go_ret
                  rw [HF.out]
                  exact ⟨rfl, bnext HD.out hb1⟩
                · go_wp2_with (go_at_call 48; refine (HCALL.out _ HD.out).mono ?_; rintro e w1 ⟨rfl, hb1⟩)
                  simp only [RegT.NP]
                  go_wp2_with fail
                  go_roundw
                  case rel => exact ⟨j + 1, by omega, by go_num, by rw [← HT.out, HD1.out, HD2.out, sameVs_cons, ← HPP.out]; rfl, bnext HD.out hb1, HC.out.below (bnext ((Below.refl wr.heap.size wr).drew) hb1), HC'.out.below (bnext ((Below.refl wr.heap.size wr).drew) hb1)⟩
                  case measure => simp [intOf]; omega
              · obtain rfl : j = l.length := by omega
                have HF : Hid (T = true) := Lib.hid (by rw [← HT.out, List.drop_length, HLL.out, List.drop_length]; rfl)
                go_wp2_with fail
                go_ret
                rw [HF.out]
                exact ⟨rfl, HU.out⟩
          · have gl' : ((l.length : Int) != l'.length) = true := by simp; omega
            have HF : Hid (T = false) := Lib.hid (by
              rw [HTT.out, gk, gn, gs, gr]
              cases hs : sameVs l l'
              · rfl
              · exact absurd (sameVs_len l l' hs) gl)
            clear H7 H7' HI HQ HQ' HTT gl
            go_enter Try.func48, Try.ntmps48
            go_wp2_with fail
            go_ret
            rw [HF.out]
            exact ⟨rfl, HB0.out⟩
end Go.Proofs.Ytnknefdpglnbnaa
namespace Go.Proofs.Ytnknefdpglnbnaa
open Go Go.RowKit

theorem row_names {w : World} {lo : Nat} {sl : Value} {l : List ByteArray} (h : NmRow w lo sl l) (hs : ∀ s ∈ l, s.size ≤ 32) (hl : l.length ≤ 1000) : IsSs w w.heap.size sl l := by
  refine ⟨by omega, fun s hm => Nat.le_trans (hs s hm) (by decide), ?_⟩
  rcases h.2 with ⟨h1, h2⟩ | ⟨g, cap, cur, h1, h2, h3, h4, h5, h6⟩
  · have : l = [] := List.eq_nil_of_length_eq_zero h2
    subst this
    exact ⟨Option.none, 0, Nat.le_refl _, h1, fun h => absurd rfl h⟩
  · subst h1
    refine ⟨_, cap, h4, rfl, fun _ => ⟨g, 0, lt_of_block h3, rfl, fun i hi => ?_⟩⟩
    have := h.cells rfl i (.string l[i]) (by simp [hi])
    rcases Nat.eq_zero_or_pos i with rfl | hp
    · exact this
    · rw [show (⟨g, 0, Option.none⟩ : Addr).add i = ⟨g, 0 + i, Option.none⟩ by simp [Addr.add]; omega] at this
      exact this
theorem size_may {s : ByteArray} (h : mayN s = true) : s.size ≤ 32 := by
  simp only [mayN, Bool.and_eq_true, decide_eq_true_eq] at h
  exact h.1.1
theorem names_row {w : World} {lo : Nat} {sl : Value} {L : List ByteArray} {ks : List (List UInt8)} (h : KRow w lo sl ks) (e : L.map txt = ks) : NmRow w lo sl L := by
  subst e
  unfold KRow at h
  rw [List.length_map, List.map_map] at h
  have e2 : L.map (encStr ∘ txt) = L.map Value.string := List.map_congr_left fun s _ => by simp [encStr, txt]
  rw [e2] at h
  exact h
abbrev svX (k n : Int) (s : ByteArray) (A : Option Addr) (len cap : Nat) : SV := { SV.zero with op := 1, nm := ⟨#[120]⟩, a0 := k, a1 := n, a2 := s, aA := A, al := len, ac := cap }
theorem is_stX {w : World} {R : Nat → Nat → Prop} {k n : Int} {s : ByteArray} {A : Option Addr} {len cap : Nat} {y : Ex} (h : IsExR w R (.agg #[.int .u8 k, .int .i64 n, .string s, .slice A len cap]) y) : IsStR w R (svX k n s A len cap) (stX y) := by
  unfold IsStR stX
  exact ⟨⟨rfl, rfl, rfl, rfl, rfl⟩, by decide, h, zE_is w R, LR_nil, LR_nil, LR_nil, isSs_nil w R⟩
theorem let_litX (k n : Int) (t : ByteArray) (A : Option Addr) (len cap : Nat) (w : World) : Calls Try.prog 49 #[.string ⟨#[120]⟩, .agg #[.int .u8 k, .int .i64 n, .string t, .slice A len cap]] w fun e w' => e = .returned (.agg #[.int .u8 1, .string ⟨#[120]⟩, .string ⟨#[]⟩, .int .u8 0, .int .u8 0, .int .u8 k, .int .i64 n, .string t, .slice A len cap, .int .u8 0, .int .i64 0, .string ⟨#[]⟩, .slice Option.none 0 0, .slice Option.none 0 0, .slice Option.none 0 0, .slice Option.none 0 0, .slice Option.none 0 0]) ∧ Below w.heap.size w w' := let_any ⟨#[120]⟩ k n t A len cap w
theorem reads_letX {k n : Int} {s : ByteArray} {A : Option Addr} {len cap : Nat} {y : Ex} (hm : mayE y = true) (w : World) (b : Nat) {T : TypeId} (hb : BlkN w b T (svX k n s A len cap).arr) (h : IsEx w w.heap.size (.agg #[.int .u8 k, .int .i64 n, .string s, .slice A len cap]) y) :
    Calls Try.prog 59 #[.slice (some ⟨b, 0, Option.none⟩) 1 1] w fun e w' => Below w.heap.size w w' ∧ ∃ sl, e = .returned (.tuple #[sl, .int .i64 0]) ∧ NmRow w' w.heap.size sl (sortU (namesX y)) := by
  refine (Reads59_any [stX y] _ 1 1 w w.heap.size (Nat.le_refl _) (LR_one hb hb.lt (is_stX h))).mono fun e w' h2 => ?_
  have h0 : (chkL [stX y]).2 = 0 := by rw [chk_stX y hm]
  refine ⟨h2.1, ?_⟩
  rcases h2.2 with ⟨hne, _⟩ | ⟨_, sl, ss, rfl, h3, h4⟩
  · exact absurd h0 hne
  · have h5 := reads_same [stX y] h0 ss h3.1 h3.2
    rw [reads_stX y hm] at h5
    exact ⟨sl, rfl, names_row h4 h5⟩
theorem isNs_nil (w : World) (R : Nat → Nat → Prop) : IsNsR w R (.slice Option.none 0 0) [] := ⟨by simp, Option.none, 0, Nat.le_refl _, rfl, fun h => absurd rfl h⟩
theorem isVa_at {w w' : World} {lo : Nat} {v : Value} {x : Va} (h : IsVaR w (Own34 w lo) v x) (hb : Below w.heap.size w w') : IsVa w' w'.heap.size v x :=
  (IsVa.keep (fun b hl => hb.block b hl) h.ownLt).mono fun _ _ hr => Nat.lt_of_lt_of_le hr hb.size
attribute [local irreducible] wpList
set_option maxRecDepth 100000 in
set_option maxHeartbeats 20000000 in
theorem free_walk (ns : List Na) (x : Ex) (w : World) (vn v : Value) (hns : IsNs w w.heap.size vn ns) (hv : IsEx w w.heap.size v x) :
    Calls Try.prog 15 #[vn, v] w fun e w' => e = .returned (.bool true) ∧ Below w.heap.size w w' := by
  obtain ⟨An, ncap, rfl, hncap⟩ := hns.list
  have hnl := hns.1
  obtain ⟨k, n, s, l⟩ := x
  obtain ⟨h1, h2, h3, h4, A, cap, h5, rfl, h7⟩ := hv.form
  clear h7
  obtain ⟨y, hy⟩ : ∃ y, y = Ex.mk k n s l := ⟨_, rfl⟩
  rw [← hy] at hv
  clear hy
  have C21 := Lib.hid (fun w' (hb : Below w.heap.size w w') => MayExpr_any (B := w.heap.size) (x := y) w' (IsEx.keep (fun b hl => hb.block b hl) hv) hb.size)
  have C40 := Lib.hid (fun w' (hb : Below w.heap.size w w') => MayNames_any (B := w.heap.size) w' (hns.keep fun b hl => hb.block b hl) hb.size)
  have KV := Lib.hid (fun w' (hb : Below w.heap.size w w') => (show IsEx w' w.heap.size (.agg #[.int .u8 k, .int .i64 n, .string s, .slice A l.length cap]) y from IsEx.keep (fun b hl => hb.block b hl) hv))
  have KV2 := Lib.hid (fun w' (hb : Below w.heap.size w w') => (show IsEx w' w'.heap.size (.agg #[.int .u8 k, .int .i64 n, .string s, .slice A l.length cap]) y from (IsEx.keep (fun b hl => hb.block b hl) hv).mono fun _ _ hr => Nat.lt_of_lt_of_le hr hb.size))
  have KN := Lib.hid (fun w' (hb : Below w.heap.size w w') => (show IsNs w' w'.heap.size (.slice An ns.length ncap) ns from (hns.keep fun b hl => hb.block b hl).mono fun _ _ hr => Nat.lt_of_lt_of_le hr hb.size))
  clear hv hns
  obtain ⟨i0, hi, hz0, hz1, hz2⟩ := info_parts info34
  go_enter Try.func15, Try.ntmps15
  go_upto_region 1 with fail
  obtain ⟨W, hW⟩ : ∃ W, W = w.alloc (.cells #[.int .u8 k, .int .i64 n, .string s, .slice A l.length cap] 26) := ⟨_, rfl⟩
  have hB0 : Below w.heap.size w W := by rw [hW]; exact (Below.refl _ w).alloc (Nat.le_refl _) _
  have hE0 : BlkN W w.heap.size 26 #[.int .u8 k, .int .i64 n, .string s, .slice A l.length cap] := by rw [hW]; exact BlkN.at_ rfl _ _
  rw [← hW]
  clear hW
  have hle := hE0.lt
  have e0 := hE0.cell 0 rfl
  have e1 := hE0.cell 1 rfl
  have e2 := hE0.cell 2 rfl
  have e3 := hE0.cell 3 rfl
  have HB0 := Lib.hid hB0
  have HE0 := Lib.hid hE0
  clear hB0 hE0
  by_cases hsh : decide ((ns.length : Int) ≤ 200) = false
  · have C16 := Lib.hid (fun w' => short16_any An ns.length ncap w' _ hsh)
    clear hsh
    go_wp2_with (first | (go_at_call 16; refine (C16.out _).mono ?_; rintro e w1 ⟨rfl, rfl⟩) | (go_at_call 17; refine (lives_any _).mono ?_; rintro e w2 ⟨rfl, hb2⟩))
    go_ret
    exact ⟨rfl, bnext HB0.out hb2⟩
  have hns200 : ns.length ≤ 200 := by simp at hsh; omega
  have C16 := Lib.hid (fun w' => short16_any An ns.length ncap w' _ (by simpa using hsh : decide ((ns.length : Int) ≤ 200) = true))
  clear hsh
  cases hme : mayE y
  · rw [hme] at C21
    clear hme
    go_wp2_with (first | (go_at_call 16; refine (C16.out _).mono ?_; rintro e w1 ⟨rfl, rfl⟩) | (go_at_call 21; refine (C21.out _ HB0.out).mono ?_; rintro e w2 ⟨rfl, hb2⟩) | (go_at_call 17; refine (lives_any _).mono ?_; rintro e w3 ⟨rfl, hb3⟩))
    go_ret
    exact ⟨rfl, bnext (bnext HB0.out hb2) hb3⟩
  rw [hme] at C21
  have HME := Lib.hid hme
  clear hme
  cases hmn : mayNs ns
  · rw [hmn] at C40
    clear hmn
    go_wp2_with (first | (go_at_call 16; refine (C16.out _).mono ?_; rintro e w1 ⟨rfl, rfl⟩) | (go_at_call 21; refine (C21.out _ HB0.out).mono ?_; rintro e w2 ⟨rfl, hb2⟩) | (go_at_call 40; refine (C40.out _ (bnext HB0.out hb2)).mono ?_; rintro e w4 ⟨rfl, hb4⟩) | (go_at_call 17; refine (lives_any _).mono ?_; rintro e w3 ⟨rfl, hb3⟩))
    go_ret
    exact ⟨rfl, bnext (bnext (bnext HB0.out hb2) hb4) hb3⟩
  rw [hmn] at C40
  have HMN := Lib.hid hmn
  clear hmn
  go_upto_region 3 with (first | (go_at_call 16; refine (C16.out _).mono ?_; rintro e w1 ⟨rfl, rfl⟩) | (go_at_call 21; refine (C21.out _ HB0.out).mono ?_; rintro e w2 ⟨rfl, hb2⟩) | (go_at_call 40; refine (C40.out _ (bnext HB0.out hb2)).mono ?_; rintro e w4 ⟨rfl, hb4⟩))
  have HB4 := Lib.hid (bnext (bnext HB0.out hb2) hb4)
  have HE4 := Lib.hid ((HE0.out.below hb2).below hb4)
  clear hb2 hb4 e0 e1 e2 e3 hle HB0 HE0 C16 C21 C40
  have hle := HE4.out.lt
  have e0 := HE4.out.cell 0 rfl
  have e1 := HE4.out.cell 1 rfl
  have e2 := HE4.out.cell 2 rfl
  have e3 := HE4.out.cell 3 rfl
  obtain ⟨NN, hNN⟩ : ∃ NN, NN = sortU (namesX y) := ⟨_, rfl⟩
  have hNl : NN.length ≤ 512 := by rw [hNN]; exact Nat.le_trans (sortU_len _) (names_few HME.out)
  have hNs : ∀ s ∈ NN, s.size ≤ 32 := fun s hs => by rw [hNN] at hs; exact size_may (names_may HME.out s ((sortU_mem _ _).1 hs))
  go_upto_region 6 with (first
    | (go_at_call 49; (with_reducible refine (let_litX _ _ _ _ _ _ _).mono ?_); rintro e w5 ⟨rfl, hb5⟩; have HB5 := Lib.hid (bnext HB4.out hb5); have HE5 := Lib.hid (HE4.out.below hb5); clear hb5)
    | (go_at_call 59; have C := Lib.hid (reads_letX HME.out _ w5.heap.size (BlkN.at_ (w := w5) rfl 58 (svX k n s A l.length cap).arr) (KV2.out _ (HB5.out.alloc HB5.out.size _))); refine C.out.mono ?_; rintro e w6 ⟨hb6, sl, rfl, hr6⟩; have HB6 := Lib.hid (bnext (HB5.out.alloc HB5.out.size (.cells (svX k n s A l.length cap).arr 58)) hb6); have HE6 := Lib.hid ((HE5.out.alloc (.cells (svX k n s A l.length cap).arr 58)).below hb6); have HR6 := Lib.hid hr6; clear hb6 hr6 C))
  have hS6 : IsSs w6 w6.heap.size sl NN := row_names (hNN ▸ HR6.out) hNs (by omega)
  obtain ⟨_, _, As, cs, _, rfl, _⟩ := id hS6
  have C41 := Only41_any (B := w6.heap.size) w6 (KN.out w6 HB6.out) hS6 (Nat.le_refl _) (by omega)
  rw [hNN, only_few ns y HMN.out HME.out] at C41
  obtain ⟨few, hfew⟩ : ∃ few, few = fewX ns y := ⟨_, rfl⟩
  have hfl : few.length = NN.length := by rw [hfew, hNN]; simp [fewX]
  rw [← hfew, ← hNN] at C41
  have HC41 := Lib.hid C41
  have HFW := Lib.hid hfew
  have HNN := Lib.hid hNN
  clear C41 hfew hNN hS6 hNs e0 e1 e2 e3 hle HB4 HE4 HB5 HE5 HR6
  go_upto_region 9 with (go_at_call 41; refine HC41.out.mono ?_; rintro e w7 ⟨vf, rfl, hf7, hb7⟩)
  have hN7 : IsNs w7 w7.heap.size vf few := hf7.names RdN34.plain (by omega)
  obtain ⟨Af, cf, rfl, hcf⟩ := hN7.list
  have HN7 := Lib.hid hN7
  have HB7 := Lib.hid (bnext HB6.out hb7)
  have HE7 := Lib.hid (HE6.out.below hb7)
  have hfl5 : few.length ≤ 512 := by omega
  clear hf7 hb7 HC41 hN7 HB6 HE6 hfl
  have hle := HE7.out.lt
  have e0 := HE7.out.cell 0 rfl
  have e1 := HE7.out.cell 1 rfl
  have e2 := HE7.out.cell 2 rfl
  have e3 := HE7.out.cell 3 rfl
  have C19 := Work_any (B := w7.heap.size) w7 (KV2.out w7 HB7.out) (KN.out w7 HB7.out) (Nat.le_refl _)
  obtain ⟨⟨va, er⟩, hwv⟩ : ∃ p, p = workV ns y := ⟨_, rfl⟩
  rw [← hwv] at C19
  have HWV := Lib.hid hwv
  have HC19 := Lib.hid C19
  clear C19 hwv
  go_upto_region 10 with (first
    | (go_at_call 19; (with_reducible refine HC19.out.mono ?_); rintro e w8 ⟨v8, rfl, hv8, hb8⟩; obtain ⟨k1, n1, s1, A1, len1, cap1, r1, rfl⟩ := hv8.shape))
  obtain ⟨W9, hW9⟩ : ∃ W9, W9 = w8.alloc (.cells #[.int .u8 k1, .int .i64 n1, .string s1, .slice A1 len1 cap1, .int .i64 r1] 34) := ⟨_, rfl⟩
  rw [← hW9]
  have ha8 : Below w8.heap.size w8 W9 := by rw [hW9]; exact (Below.refl _ _).alloc (Nat.le_refl _) _
  have HQ9 : Hid (BlkN W9 w8.heap.size 34 #[.int .u8 k1, .int .i64 n1, .string s1, .slice A1 len1 cap1, .int .i64 r1]) := Lib.hid (by rw [hW9]; exact BlkN.at_ rfl _ _)
  have h79 := bnext hb8 ha8
  have HB9 := Lib.hid (bnext HB7.out h79)
  have HE9 := Lib.hid (HE7.out.below h79)
  have HV9 := Lib.hid (isVa_at hv8 ha8)
  have HN9 : Hid (IsNs W9 W9.heap.size (.slice Af few.length cf) few) := Lib.hid ((HN7.out.keep fun b hl => h79.block b hl).mono fun _ _ hr => Nat.lt_of_lt_of_le hr h79.size)
  obtain ⟨q9, hq9⟩ : ∃ q9, q9 = w8.heap.size := ⟨_, rfl⟩
  rw [← hq9] at HQ9 ⊢
  clear hW9 hq9 ha8 h79 hv8 hb8 HC19 HB7 HE7 HN7 hle e0 e1 e2 e3
  by_cases hlong : 64 < few.length
  · have hl1 : ((64 : Int) < few.length) := by omega
    go_wp2_with (go_at_call 17; refine (lives_any _).mono ?_; rintro e w10 ⟨rfl, hb10⟩)
    go_ret
    exact ⟨rfl, bnext HB9.out hb10⟩
  have hl1 : ¬ ((64 : Int) < few.length) := by omega
  have hle := HE9.out.lt
  have e0 := HE9.out.cell 0 rfl
  have e1 := HE9.out.cell 1 rfl
  have e2 := HE9.out.cell 2 rfl
  have e3 := HE9.out.cell 3 rfl
  have C19 := Work_any (B := W9.heap.size) W9 (KV2.out W9 HB9.out) HN9.out (Nat.le_refl _)
  rw [HFW.out, work_few ns y HMN.out HME.out (by rw [← HFW.out]; omega), ← HWV.out, ← HFW.out] at C19
  have HC19 := Lib.hid C19
  clear C19
  go_upto_region 13 with (first
    | (go_at_call 19; (with_reducible refine HC19.out.mono ?_); rintro e w10 ⟨v10, rfl, hv10, hb10⟩; obtain ⟨k2, n2, s2, A2, len2, cap2, r2, rfl⟩ := hv10.shape))
  obtain ⟨W11, hW11⟩ : ∃ W11, W11 = w10.alloc (.cells #[.int .u8 k2, .int .i64 n2, .string s2, .slice A2 len2 cap2, .int .i64 r2] 34) := ⟨_, rfl⟩
  rw [← hW11]
  have ha10 : Below w10.heap.size w10 W11 := by rw [hW11]; exact (Below.refl _ _).alloc (Nat.le_refl _) _
  have HP11 : Hid (BlkN W11 w10.heap.size 34 #[.int .u8 k2, .int .i64 n2, .string s2, .slice A2 len2 cap2, .int .i64 r2]) := Lib.hid (by rw [hW11]; exact BlkN.at_ rfl _ _)
  have h911 := bnext hb10 ha10
  have HB11 := Lib.hid (bnext HB9.out h911)
  have HE11 := Lib.hid (HE9.out.below h911)
  have HQ11 := Lib.hid (HQ9.out.below h911)
  have HU11 := Lib.hid (isVa_at hv10 ha10)
  have HV11 : Hid (IsVa W11 W11.heap.size _ va) := Lib.hid ((IsVa.keep (fun b hl => h911.block b hl) HV9.out).mono fun _ _ hr => Nat.lt_of_lt_of_le hr h911.size)
  obtain ⟨q11, hq11⟩ : ∃ q11, q11 = w10.heap.size := ⟨_, rfl⟩
  rw [← hq11] at HP11 ⊢
  clear hW11 hq11 ha10 h911 hv10 hb10 HC19 HB9 HE9 HQ9 HN9 HV9 hle e0 e1 e2 e3
  have hle := HE11.out.lt
  have e0 := HE11.out.cell 0 rfl
  have e1 := HE11.out.cell 1 rfl
  have e2 := HE11.out.cell 2 rfl
  have e3 := HE11.out.cell 3 rfl
  have C19 := Work_any (B := W11.heap.size) W11 (KV2.out W11 HB11.out) (isNs_nil W11 _) (Nat.le_refl _)
  obtain ⟨⟨vz, ez⟩, hz⟩ : ∃ p, p = workV [] y := ⟨_, rfl⟩
  rw [← hz] at C19
  have HZ := Lib.hid hz
  have HC19 := Lib.hid C19
  clear C19 hz
  go_upto_region 14 with (first
    | (go_at_call 19; (with_reducible refine HC19.out.mono ?_); rintro e w12 ⟨v12, rfl, hv12, hb12⟩; obtain ⟨k3, n3, s3, A3, len3, cap3, r3, rfl⟩ := hv12.shape))
  obtain ⟨W13, hW13⟩ : ∃ W13, W13 = w12.alloc (.cells #[.int .u8 k3, .int .i64 n3, .string s3, .slice A3 len3 cap3, .int .i64 r3] 34) := ⟨_, rfl⟩
  rw [← hW13]
  have ha12 : Below w12.heap.size w12 W13 := by rw [hW13]; exact (Below.refl _ _).alloc (Nat.le_refl _) _
  have HO13 : Hid (BlkN W13 w12.heap.size 34 #[.int .u8 k3, .int .i64 n3, .string s3, .slice A3 len3 cap3, .int .i64 r3]) := Lib.hid (by rw [hW13]; exact BlkN.at_ rfl _ _)
  have h1113 := bnext hb12 ha12
  have HB13 := Lib.hid (bnext HB11.out h1113)
  have HQ13 := Lib.hid (HQ11.out.below h1113)
  have HP13 := Lib.hid (HP11.out.below h1113)
  have HZ13 := Lib.hid (isVa_at hv12 ha12)
  have HV13 : Hid (IsVa W13 W13.heap.size _ va) := Lib.hid ((IsVa.keep (fun b hl => h1113.block b hl) HV11.out).mono fun _ _ hr => Nat.lt_of_lt_of_le hr h1113.size)
  have HU13 : Hid (IsVa W13 W13.heap.size _ va) := Lib.hid ((IsVa.keep (fun b hl => h1113.block b hl) HU11.out).mono fun _ _ hr => Nat.lt_of_lt_of_le hr h1113.size)
  obtain ⟨q13, hq13⟩ : ∃ q13, q13 = w12.heap.size := ⟨_, rfl⟩
  rw [← hq13] at HO13 ⊢
  clear hW13 hq13 ha12 h1113 hv12 hb12 HC19 HB11 HE11 HQ11 HP11 HV11 HU11 hle e0 e1 e2 e3
  have hlq := HQ13.out.lt
  have hlp := HP13.out.lt
  have hlo := HO13.out.lt
  have a0 := HQ13.out.cell 0 rfl
  have a1 := HQ13.out.cell 1 rfl
  have a2 := HQ13.out.cell 2 rfl
  have a3 := HQ13.out.cell 3 rfl
  have a4 := HQ13.out.cell 4 rfl
  have b0 := HP13.out.cell 0 rfl
  have b1 := HP13.out.cell 1 rfl
  have b2 := HP13.out.cell 2 rfl
  have b3 := HP13.out.cell 3 rfl
  have b4 := HP13.out.cell 4 rfl
  have c1 := alike48_any va va W13 W13.heap.size W13.heap.size _ _ HV13.out HU13.out (Nat.le_refl _) (Nat.le_refl _)
  rw [sameV_refl] at c1
  have HC1 := Lib.hid c1
  clear c1
  by_cases hN0 : NN.length = 0
  rotate_left
  · have hpos : (0 : Int) < NN.length := by omega
    go_wp2_with (first
      | (go_at_call 48; (with_reducible refine HC1.out.mono ?_); rintro e w14 ⟨rfl, hb14⟩)
      | (go_at_call 17; refine (lives_any _).mono ?_; rintro e w15 ⟨rfl, hb15⟩))
    go_ret
    exact ⟨rfl, bnext (bnext HB13.out hb14) hb15⟩
  · have hNe : sortU (namesX y) = [] := List.eq_nil_of_length_eq_zero (by rw [← HNN.out]; exact hN0)
    have hwz := work_none ns y HMN.out hNe
    rw [← HZ.out, ← HWV.out] at hwz
    simp only [Prod.mk.injEq] at hwz
    obtain ⟨rfl, rfl⟩ := hwz
    clear hNe
    have K2 := Lib.hid (fun w' (hb : Below W13.heap.size W13 w') => alike48_any vz vz w' W13.heap.size W13.heap.size _ _ (IsVa.keep (fun b hl => hb.block b hl) HZ13.out) (IsVa.keep (fun b hl => hb.block b hl) HV13.out) hb.size hb.size)
    rw [sameV_refl] at K2
    go_wp2_with (first
      | (go_at_call 48; (with_reducible refine HC1.out.mono ?_); rintro e w14 ⟨rfl, hb14⟩; have HQ14 := (HQ13.out.below hb14); have HO14 := (HO13.out.below hb14); have hlq14 := HQ14.lt; have hlo14 := HO14.lt; have f0 := HQ14.cell 0 rfl; have f1 := HQ14.cell 1 rfl; have f2 := HQ14.cell 2 rfl; have f3 := HQ14.cell 3 rfl; have f4 := HQ14.cell 4 rfl; have g0 := HO14.cell 0 rfl; have g1 := HO14.cell 1 rfl; have g2 := HO14.cell 2 rfl; have g3 := HO14.cell 3 rfl; have g4 := HO14.cell 4 rfl; have HB14 := Lib.hid hb14; clear hb14 HQ14 HO14)
      | (go_at_call 48; (with_reducible refine (K2.out _ HB14.out).mono ?_); rintro e w16 ⟨rfl, hb16⟩)
      | (go_at_call 17; refine (lives_any _).mono ?_; rintro e w15 ⟨rfl, hb15⟩))
    go_ret
    exact ⟨rfl, bnext (bnext (bnext HB13.out HB14.out) hb16) hb15⟩
end Go.Proofs.Ytnknefdpglnbnaa
