/- The document's work, walked: what an expression works out to, in lists of its own or of the names'. -/
import Derived.Test.YtnknefdpglnbnaaLi
namespace Go.Proofs.Ytnknefdpglnbnaa
open Go.RowKit

theorem workRs_len (ns : List Na) : ∀ l : List Ex, (workRs ns l).length = l.length
  | [] => rfl
  | x :: l => by unfold workRs; simp [workRs_len ns l]
theorem workRs_snoc (ns : List Na) (l : List Ex) (x : Ex) : workRs ns (l ++ [x]) = workRs ns l ++ [workR ns x] := by
  induction l with
  | nil => simp [workRs]
  | cons y l ih => simp only [List.cons_append, workRs, ih]
def WorkRC (ns : List Na) (x : Ex) : Prop := ∀ (w : World) (B : Nat) (v vn : Value), IsEx w B v x → IsNs w B vn ns → B ≤ w.heap.size → szE x ≤ 512 →
  Calls Try.prog 66 #[vn, v] w fun e w' => ∃ v', e = .returned v' ∧ IsVaR w' (RN B w.heap.size w') v' (workR ns x) ∧ Below w.heap.size w w'
set_option maxRecDepth 100000 in
set_option maxHeartbeats 1000000 in
theorem workR_flat (ns : List Na) (k n : Int) (s : ByteArray) (l : List Ex) (A An : Option Addr) (cap ncap : Nat) (w : World) (B : Nat) (_h4 : l.length ≤ 140737488351232) (hs : s.size ≤ 140737488351232) (hk3 : ¬ k = 3) (hk4 : ¬ k = 4) :
    Calls Try.prog 66 #[.slice An ns.length ncap, .agg #[.int .u8 k, .int .i64 n, .string s, .slice A l.length cap]] w fun e w' => ∃ v', e = .returned v' ∧ IsVaR w' (RN B w.heap.size w') v' (workR ns (.mk k n s l)) ∧ Below w.heap.size w w' := by
  have e3 : (k == 3) = false := by simpa using hk3
  have e4 : (k == 4) = false := by simpa using hk4
  by_cases hk1 : k = 1
  · subst hk1
    have E2 : Hid (workR ns (.mk 1 n s l) = .mk 1 n ⟨#[]⟩ [] 0) := Lib.hid (by simp [workR])
    clear hk3 hk4 e3 e4
    go_enter Try.func66, Try.ntmps66
    go_wp2_with fail
    refine bodyPost_ret (v := .agg #[.int .u8 1, .int .i64 n, .string ⟨#[]⟩, .slice Option.none 0 0, .int .i64 0]) (by simp [results, Try.results66, go_sem]) rfl ⟨_, rfl, ?_, ((Below.refl _ _).alloc (Nat.le_refl _) _).alloc (by simp) _⟩
    rw [E2.out]; unfold IsVaR; exact ⟨by omega, by omega, by first | assumption | (show 0 ≤ _; omega), by simp, Option.none, 0, by simp, rfl, fun h => absurd rfl h⟩
  · have e1 : (k == 1) = false := by simpa using hk1
    by_cases hk2 : k = 2
    · subst hk2
      have E2 : Hid (workR ns (.mk 2 n s l) = .mk 2 0 s [] 0) := Lib.hid (by simp [workR])
      clear hk1 hk3 hk4 e3 e4
      go_enter Try.func66, Try.ntmps66
      go_wp2_with fail
      refine bodyPost_ret (v := .agg #[.int .u8 2, .int .i64 0, .string s, .slice Option.none 0 0, .int .i64 0]) (by simp [results, Try.results66, go_sem]) rfl ⟨_, rfl, ?_, ((Below.refl _ _).alloc (Nat.le_refl _) _).alloc (by simp) _⟩
      rw [E2.out]; unfold IsVaR; exact ⟨by omega, by omega, by first | assumption | (show 0 ≤ _; omega), by simp, Option.none, 0, by simp, rfl, fun h => absurd rfl h⟩
    · have e2 : (k == 2) = false := by simpa using hk2
      have E2 : Hid (workR ns (.mk k n s l) = zeroVa) := Lib.hid (by simp [workR, hk1, hk2, hk3, hk4])
      clear hk1 hk2 hk3 hk4
      go_enter Try.func66, Try.ntmps66
      go_wp2_with fail
      refine bodyPost_ret (v := .agg #[.int .u8 0, .int .i64 0, .string ⟨#[]⟩, .slice Option.none 0 0, .int .i64 0]) (by simp [results, Try.results66, go_sem]) rfl ⟨_, rfl, ?_, ((Below.refl _ _).alloc (Nat.le_refl _) _).alloc (by simp) _⟩
      rw [E2.out]; exact IsVaR.zero _ _
set_option maxRecDepth 100000 in
set_option maxHeartbeats 1000000 in
theorem workR_four (ns : List Na) (k n : Int) (s : ByteArray) (l : List Ex) (A An : Option Addr) (cap ncap : Nat) (w : World) (B : Nat) (hB : B ≤ w.heap.size) (hns : IsNs w B (.slice An ns.length ncap) ns) (hk : k = 4) :
    Calls Try.prog 66 #[.slice An ns.length ncap, .agg #[.int .u8 k, .int .i64 n, .string s, .slice A l.length cap]] w fun e w' => ∃ v', e = .returned v' ∧ IsVaR w' (RN B w.heap.size w') v' (workR ns (.mk k n s l)) ∧ Below w.heap.size w w' := by
  subst hk
  have E2 : Hid (workR ns (.mk 4 n s l) = rawX ns s) := Lib.hid (by simp [workR])
  have hB0 := Lib.hid (((Below.refl w.heap.size w).alloc (Nat.le_refl _) (.cells #[.int .u8 4, .int .i64 n, .string s, .slice A l.length cap] 26)).alloc (by simp) (.cells zeroV 34))
  have hR0 : Hid (BlkN ((w.alloc (.cells #[.int .u8 4, .int .i64 n, .string s, .slice A l.length cap] 26)).alloc (.cells zeroV 34)) (w.heap.size + 1) 34 zeroV) := Lib.hid (BlkN.at_ (by simp) _ _)
  have HN := Lib.hid hns
  clear hns
  go_enter Try.func66, Try.ntmps66
  go_wp2_with fail
  refine (Get37_any (B := B) s _ (HN.out.keep (fun b hb => hB0.out.block b (by omega))) (by simp; omega)).mono ?_
  rintro e w1 ⟨v', rfl, hv', hb1⟩
  obtain ⟨k2, n2, s2, A2, len2, cap2, r2, rfl⟩ := hv'.shape
  have HB1 := Lib.hid (bnext hB0.out hb1)
  have HR1 := Lib.hid (hR0.out.below hb1)
  have HV := Lib.hid hv'
  have hsz1 := hb1.size
  simp only [World.size_alloc] at hsz1
  clear hb1 hv'
  have d0 := HR1.out.cell 0 rfl
  have d1 := HR1.out.cell 1 rfl
  have d2 := HR1.out.cell 2 rfl
  have d3 := HR1.out.cell 3 rfl
  have d4 := HR1.out.cell 4 rfl
  have x0 := HR1.out.free 0
  have x1 := HR1.out.free 1
  have x2 := HR1.out.free 2
  have x3 := HR1.out.free 3
  have x4 := HR1.out.free 4
  obtain ⟨m0, m1, m2, m3, m4⟩ := lts (show w.heap.size + 1 < w1.heap.size by omega)
  go_wp2_with fail
  obtain ⟨WF, hWF, _, _, _, _, _, hk, hbel, hR⟩ := res5 HR1.out (.int .u8 k2) (.int .i64 n2) (.string s2) (.slice A2 len2 cap2) (.int .i64 r2)
  rw [hWF]
  have hR' := hR.alloc (.cells #[.int .u8 k2, .int .i64 n2, .string s2, .slice A2 len2 cap2, .int .i64 r2] 34)
  have y0 := hR'.cell 0 rfl
  have y1 := hR'.cell 1 rfl
  have y2 := hR'.cell 2 rfl
  have y3 := hR'.cell 3 rfl
  have y4 := hR'.cell 4 rfl
  have hbw := hbel w.heap.size w (by omega) HB1.out
  have hbf := hbw.alloc hbw.size (.cells #[.int .u8 k2, .int .i64 n2, .string s2, .slice A2 len2 cap2, .int .i64 r2] 34)
  refine bodyPost_ret (v := .agg #[.int .u8 k2, .int .i64 n2, .string s2, .slice A2 len2 cap2, .int .i64 r2]) (by simp [results, Try.results66, go_sem, y0, y1, y2, y3, y4]) rfl ⟨_, rfl, ?_, hbf⟩
  rw [E2.out]
  exact (IsVa.keep (fun b hb => (hbf.block b (by omega)).trans (HB1.out.block b (by omega)).symm) HV.out).mono fun b o hb => ⟨.inl hb, Nat.lt_of_lt_of_le hb (Nat.le_trans hB hbf.size)⟩
set_option maxRecDepth 100000 in
set_option maxHeartbeats 1000000 in
theorem workR_three (ns : List Na) (k n : Int) (s : ByteArray) (l : List Ex) (A An : Option Addr) (cap ncap : Nat) (w : World) (B : Nat) (h4 : l.length ≤ 140737488351232) (hB : B ≤ w.heap.size) (hns : IsNs w B (.slice An ns.length ncap) ns) (IH : ∀ x ∈ l, WorkRC ns x) (h7 : l ≠ [] → ∃ b o, b < B ∧ A = some ⟨b, o, Option.none⟩ ∧ IsExs w B b o l) (hsz : szEs l ≤ 511) (hk : k = 3) :
    Calls Try.prog 66 #[.slice An ns.length ncap, .agg #[.int .u8 k, .int .i64 n, .string s, .slice A l.length cap]] w fun e w' => ∃ v', e = .returned v' ∧ IsVaR w' (RN B w.heap.size w') v' (workR ns (.mk k n s l)) ∧ Below w.heap.size w w' := by
  subst hk
  have E2 : Hid (workR ns (.mk 3 n s l) = .mk 3 0 ⟨#[]⟩ (workRs ns l) 0) := Lib.hid (by simp [workR])
  have HN := Lib.hid hns
  have HI := Lib.hid IH
  have H7 := Lib.hid h7
  have HLEN := len_szEs l
  obtain ⟨i0, hi, hz0, hz1, hz2⟩ := info_parts info34'
  have HIN := Lib.hid hi
  have hB0 := Lib.hid ((((Below.refl w.heap.size w).alloc (Nat.le_refl _) (.cells #[.int .u8 3, .int .i64 n, .string s, .slice A l.length cap] 26)).alloc (by simp) (.cells zeroV 34)).alloc (by simp; omega) (.cells #[.int .u8 3, .int .i64 0, .string ⟨#[]⟩, .slice Option.none 0 0, .int .i64 0] 34))
  have hR0 : Hid (BlkN (((w.alloc (.cells #[.int .u8 3, .int .i64 n, .string s, .slice A l.length cap] 26)).alloc (.cells zeroV 34)).alloc (.cells #[.int .u8 3, .int .i64 0, .string ⟨#[]⟩, .slice Option.none 0 0, .int .i64 0] 34)) w.heap.size 26 #[.int .u8 3, .int .i64 n, .string s, .slice A l.length cap]) := Lib.hid (((BlkN.at_ rfl _ _).alloc _).alloc _)
  have hR1 : Hid (BlkN (((w.alloc (.cells #[.int .u8 3, .int .i64 n, .string s, .slice A l.length cap] 26)).alloc (.cells zeroV 34)).alloc (.cells #[.int .u8 3, .int .i64 0, .string ⟨#[]⟩, .slice Option.none 0 0, .int .i64 0] 34)) (w.heap.size + 1) 34 zeroV) := Lib.hid ((BlkN.at_ (by simp) _ _).alloc _)
  have hR2 : Hid (BlkN (((w.alloc (.cells #[.int .u8 3, .int .i64 n, .string s, .slice A l.length cap] 26)).alloc (.cells zeroV 34)).alloc (.cells #[.int .u8 3, .int .i64 0, .string ⟨#[]⟩, .slice Option.none 0 0, .int .i64 0] 34)) (w.heap.size + 1 + 1) 34 #[.int .u8 3, .int .i64 0, .string ⟨#[]⟩, .slice Option.none 0 0, .int .i64 0]) := Lib.hid (BlkN.at_ (by simp) _ _)
  clear hns IH h7 hi
  go_enter Try.func66, Try.ntmps66
  go_wp2_with fail
  go_loopw [6] (fun i wr => ∃ k : Nat, k ≤ l.length ∧ i = .int .i64 k ∧ ∃ (vs : List Va) (xs : List Value) (sl : Value), vs = workRs ns (l.take k) ∧ BlkN wr w.heap.size 26 #[.int .u8 3, .int .i64 n, .string s, .slice A l.length cap] ∧ BlkN wr (w.heap.size + 1) 34 zeroV ∧ BlkN wr (w.heap.size + 1 + 1) 34 #[.int .u8 3, .int .i64 0, .string ⟨#[]⟩, sl, .int .i64 0] ∧ GRow RdV 34 5 wr B (w.heap.size + 1 + 1 + 1) sl vs xs ∧ Below w.heap.size w wr) (fun i _ => l.length - (intOf i).toNat)
  case atStart => exact ⟨0, by omega, rfl, [], [], _, rfl, hR0.out, hR1.out, hR2.out, GRow.nil _ _ _ _ _ _, hB0.out⟩
  case round =>
    obtain ⟨j, hj, rfl, vs, xs, sl, hvs, hr0, hr1, hr2, hv, hu⟩ := hrel
    have hvl : vs.length = j := by rw [hvs, workRs_len]; simp; omega
    obtain ⟨A0, cap0, hsl, hcap0⟩ : ∃ A0 cap0, sl = .slice A0 j cap0 ∧ j ≤ cap0 := by
      obtain ⟨A0, cap0, h1, h2, _⟩ := hv.list
      exact ⟨A0, cap0, by rw [h1, hvl], by omega⟩
    subst hsl
    have HVS := Lib.hid hvs
    have HR0 := Lib.hid hr0
    have HR1 := Lib.hid hr1
    have HR2 := Lib.hid hr2
    have HV := Lib.hid hv
    have HU := Lib.hid hu
    have HVL := Lib.hid hvl
    have hc2 := hr2.lt
    have y3 := hr0.cell 3 rfl
    clear hvs hr0 hr1 hr2 hv hu hvl
    by_cases hlt : j < l.length
    · obtain ⟨b, o, hbB, hA, hx⟩ := H7.out (by rintro rfl; simp at hlt)
      subst hA
      obtain ⟨k', n', s', A', len', cap', hat, hx1⟩ := hx.at2 j hlt
      have hat' := hat.keep hbB (fun b hb => HU.out.block b (by omega))
      obtain ⟨e0, e1, e2, e3⟩ := hat'.four
      have HX1 := Lib.hid hx1
      have hse := szE_mem (List.getElem_mem hlt)
      have hbd2 : szE l[j] ≤ 512 := by omega
      clear hat hat' hx hx1 hse
      have q3 := HR2.out.cell 3 rfl
      obtain ⟨o0, o1, o2, o3, o4⟩ := lts (show w.heap.size + 1 + 1 < wr.heap.size by omega)
      go_wp2_with fail
      refine RegT.region_seq (fun i => Nat.ble i 9) (fun W => W.cell? ⟨w.heap.size + 1 + 1, 3, Option.none⟩ = some (.slice A0 j cap0) ∧ W.cell? ⟨w.heap.size, 3, Option.none⟩ = some (.slice (some ⟨b, o, Option.none⟩) l.length cap) ∧ W.cell? ⟨b, o + j * 4, Option.none⟩ = some (.int .u8 k') ∧ W.cell? ⟨b, o + j * 4 + 1, Option.none⟩ = some (.int .i64 n') ∧ W.cell? ⟨b, o + j * 4 + 2, Option.none⟩ = some (.string s') ∧ W.cell? ⟨b, o + j * 4 + 3, Option.none⟩ = some (.slice A' len' cap')) [0, 1, 2, 3, 4, 5, 6, 7] [8, 9, 10, 11, 12] (by kernel_rfl) (by kernel_rfl) (by decide +kernel) (by decide) ⟨q3, y3, e0, e1, e2, e3⟩ ?_
      refine RegT.quiet_step rfl (fun _ _ _ h => h) (by rfl) (v := .pointer (some ⟨w.heap.size + 1 + 1, 3, Option.none⟩)) (fun w' hS => ?_) ?_
      · go_simp
      refine RegT.quiet_step rfl (fun _ _ _ h => h) (by rfl) (v := .slice A0 j cap0) (fun w' hS => ?_) ?_
      · obtain ⟨t0, t1, t2, t3, t4, t5⟩ := hS; go_simp
      refine RegT.quiet_step rfl (fun _ _ _ h => h) (by rfl) (v := .slice An ns.length ncap) (fun w' hS => ?_) ?_
      · go_simp
      refine RegT.quiet_step rfl (fun _ _ _ h => h) (by rfl) (v := .pointer (some ⟨w.heap.size, 3, Option.none⟩)) (fun w' hS => ?_) ?_
      · go_simp
      refine RegT.quiet_step rfl (fun _ _ _ h => h) (by rfl) (v := .slice (some ⟨b, o, Option.none⟩) l.length cap) (fun w' hS => ?_) ?_
      · obtain ⟨t0, t1, t2, t3, t4, t5⟩ := hS; go_simp
      refine RegT.quiet_step rfl (fun _ _ _ h => h) (by rfl) (v := .int .i64 j) (fun w' hS => ?_) ?_
      · go_simp
      refine RegT.quiet_step rfl (fun _ _ _ h => h) (by rfl) (v := .pointer (some ⟨b, o + j * 4, Option.none⟩)) (fun w' hS => ?_) ?_
      · go_simp
      refine RegT.quiet_step rfl (fun _ _ _ h => h) (by rfl) (v := .agg #[.int .u8 k', .int .i64 n', .string s', .slice A' len' cap']) (fun w' hS => ?_) ?_
      · obtain ⟨t0, t1, t2, t3, t4, t5⟩ := hS; go_simp
      refine RegT.seqT_held rfl ?_
      have hwd : Below wr.heap.size wr wr.drew := (Below.refl _ _).drew
      have HD := Lib.hid (HU.out.drew)
      go_wp2_with (go_at_call 66; go_must (refine (HI.out _ (List.getElem_mem hlt) wr.drew B _ _ (IsEx.keep (fun b hb => HD.out.block b (by omega)) HX1.out) (HN.out.keep (fun b hb => HD.out.block b (by omega))) (by have := HD.out.size; omega) hbd2).mono ?_); rintro e w1 ⟨v', rfl, hv', hb1⟩; obtain ⟨k2, n2, s2, A2, len2, cap2, r2, rfl⟩ := hv'.shape)
      have hb1' : Below wr.heap.size wr w1 := bnext hwd hb1
      have hU1 := Lib.hid (bnext HU.out hb1')
      have hr0' := Lib.hid (HR0.out.below hb1')
      have hr1' := Lib.hid (HR1.out.below hb1')
      have hr2' := Lib.hid (HR2.out.below hb1')
      have hVR := Lib.hid (HV.out.below hb1')
      have hVX : Hid (IsVaR w1 (RN B wr.heap.size w1) (.agg #[.int .u8 k2, .int .i64 n2, .string s2, .slice A2 len2 cap2, .int .i64 r2]) (workR ns l[j])) := Lib.hid hv'
      have hs1 : wr.heap.size ≤ w1.heap.size := hb1'.size
      have t0 := hr2'.out.cell 3 rfl
      have t1 := hr0'.out.cell 3 rfl
      have hkb : w1.heap[b]? = wr.heap[b]? := hb1'.block b (by have := HU.out.size; omega)
      have t2 := (World.cell?_of_block (a := ⟨b, o + j * 4, Option.none⟩) hkb).trans e0
      have t3 := (World.cell?_of_block (a := ⟨b, o + j * 4 + 1, Option.none⟩) hkb).trans e1
      have t4 := (World.cell?_of_block (a := ⟨b, o + j * 4 + 2, Option.none⟩) hkb).trans e2
      have t5 := (World.cell?_of_block (a := ⟨b, o + j * 4 + 3, Option.none⟩) hkb).trans e3
      have hbw1 : b < w1.heap.size := by have := HU.out.size; omega
      have hww1 : w.heap.size < w1.heap.size := by omega
      clear hb1 hv' hb1' hwd q3 y3 e0 e1 e2 e3 hkb
      refine ⟨⟨t0, t1, t2, t3, t4, t5⟩, RegT.seqT_held rfl ?_⟩
      obtain ⟨c0, c1, c2', c3, c4⟩ := lts (show w.heap.size + 1 + 1 < w1.heap.size by omega)
      go_wp2_with fail
      refine ⟨⟨by go_simp, by go_simp, by go_simp, by go_simp, by go_simp, by go_simp⟩, RegT.seqT_tail [10, 11, 12] [_, _, _] rfl rfl _ _ ?_⟩
      refine wpList_append_row _ rfl (.tmp 32) (.tmp 40) 31 rfl (w.heap.size + 1 + 1 + 1) 34 i0 (.agg zeroV) 5 64 Try.underlying31 HIN.out hz0 hz1 hz2 rfl (by decide) (.slice A0 j cap0) j xs rfl ?hy1 ⟨w1.heap.size, 0, Option.none⟩ 1 1 [.int .u8 k2, .int .i64 n2, .string s2, .slice A2 len2 cap2, .int .i64 r2] rfl rfl ?hy2 ?hy3 ?hy4 ?hy5 ?hy6 ?_
      case hy1 => have := (hVR.out.below ((Below.refl _ _).alloc (Nat.le_refl _) (.cells #[.int .u8 k2, .int .i64 n2, .string s2, .slice A2 len2 cap2, .int .i64 r2] 34))).1; rw [HVL.out] at this; exact this
      case hy2 => exact row_new _ _ _
      case hy3 => intro u hu; simp only [List.mem_cons, List.not_mem_nil, or_false] at hu; rcases hu with rfl | rfl | rfl | rfl | rfl <;> rfl
      case hy4 => unfold maxLen; omega
      case hy5 => omega
      case hy6 => simp; omega
      intro sl' w3 hown' hgrow hor
      have hAl : Below w1.heap.size w1 (w1.alloc (.cells #[.int .u8 k2, .int .i64 n2, .string s2, .slice A2 len2 cap2, .int .i64 r2] 34)) := (Below.refl _ _).alloc (Nat.le_refl _) _
      have hob : ∀ g, (Value.slice A0 j cap0).ownBlock = some g → w.heap.size + 1 + 1 + 1 ≤ g ∧ g < wr.heap.size := fun g hg => HV.out.blk hg
      have hV3 : GRow RdV 34 5 w3 B (w.heap.size + 1 + 1 + 1) sl' (vs ++ [workR ns l[j]]) (xs ++ [.int .u8 k2, .int .i64 n2, .string s2, .slice A2 len2 cap2, .int .i64 r2]) :=
        GRow.push (hVR.out.below hAl) rfl ⟨_, _, _, _, _, rfl, IsVaR.mono (fun b o hr => hr.below hAl) (IsVaR.keep (fun b o hr => hAl.block b hr.2) hVX.out)⟩ (by omega) (by omega) (fun g hg => (hob g hg).2) (by rw [HVL.out]; exact hown') hgrow hor
      have hk3 : ∀ b, b < w1.heap.size → b < w.heap.size + 1 + 1 + 1 → w3.heap[b]? = w1.heap[b]? := fun b hb hb2 =>
        (hgrow.block b (by simp; omega) (fun e => by have := (hob b e.symm).1; omega)).trans (hAl.block b hb)
      have hU3 : Below w.heap.size w w3 := (hU1.out.alloc hU1.out.size _).grown hgrow (by simp; omega) (fun g hg => by have := (hob g hg).1; omega)
      have h03 : BlkN w3 w.heap.size 26 #[.int .u8 3, .int .i64 n, .string s, .slice (some ⟨b, o, Option.none⟩) l.length cap] := (hk3 _ (by omega) (by omega)).trans hr0'.out
      have h13 : BlkN w3 (w.heap.size + 1) 34 zeroV := (hk3 _ (by omega) (by omega)).trans hr1'.out
      have h23 : BlkN w3 (w.heap.size + 1 + 1) 34 #[.int .u8 3, .int .i64 0, .string ⟨#[]⟩, .slice A0 j cap0, .int .i64 0] := (hk3 _ (by omega) (by omega)).trans hr2'.out
      obtain ⟨A1, cap1, hsl, hcap1, _⟩ := hV3.list
      subst hsl
      have hc33 := h23.cell 3 rfl
      have hf33 := h23.free 3
      have HV3 := Lib.hid (hV3.upd ((Upd.refl (w.heap.size + 1 + 1) w3).set 3 (.slice A1 (vs ++ [workR ns l[j]]).length cap1)) (by omega) (by omega))
      have HU3 := Lib.hid (hU3.setCell (p := ⟨w.heap.size + 1 + 1, 3, Option.none⟩) (by show w.heap.size ≤ w.heap.size + 1 + 1; omega) (.slice A1 (vs ++ [workR ns l[j]]).length cap1))
      have H03 := Lib.hid (h03.setOther (q := ⟨w.heap.size + 1 + 1, 3, Option.none⟩) (by simp; omega) (.slice A1 (vs ++ [workR ns l[j]]).length cap1))
      have H13 := Lib.hid (h13.setOther (q := ⟨w.heap.size + 1 + 1, 3, Option.none⟩) (by simp) (.slice A1 (vs ++ [workR ns l[j]]).length cap1))
      have H23 := Lib.hid (h23.set 3 (.slice A1 (vs ++ [workR ns l[j]]).length cap1))
      clear hown' hgrow hor hV3 hk3 hU3 h03 h13 h23 hAl hob c0 c1 c2' c3 c4 t0 t1 t2 t3 t4 t5
      obtain ⟨L, hL⟩ : ∃ L, L = (vs ++ [workR ns l[j]]).length := ⟨_, rfl⟩
      rw [← hL] at HV3 HU3 H03 H13 H23 ⊢
      clear hL
      go_wp2_with fail
      simp only [RegT.NP, Exit.inBlock]
      go_wp2_with fail
      go_roundw
      case rel => exact ⟨j + 1, by omega, by go_num, _, _, _, by rw [take_snoc_get l j hlt, workRs_snoc, ← HVS.out], H03.out, H13.out, H23.out, HV3.out, HU3.out⟩
      case measure => simp [intOf]; omega
    · obtain rfl : j = l.length := by omega
      have g0 := HR2.out.cell 0 rfl
      have g1 := HR2.out.cell 1 rfl
      have g2 := HR2.out.cell 2 rfl
      have g3 := HR2.out.cell 3 rfl
      have g4 := HR2.out.cell 4 rfl
      have d0 := HR1.out.cell 0 rfl
      have d1 := HR1.out.cell 1 rfl
      have d2 := HR1.out.cell 2 rfl
      have d3 := HR1.out.cell 3 rfl
      have d4 := HR1.out.cell 4 rfl
      have x0 := HR1.out.free 0
      have x1 := HR1.out.free 1
      have x2 := HR1.out.free 2
      have x3 := HR1.out.free 3
      have x4 := HR1.out.free 4
      obtain ⟨m0, m1, m2, m3, m4⟩ := lts (show w.heap.size + 1 < wr.heap.size by omega)
      obtain ⟨o0, o1, o2, o3, o4⟩ := lts (show w.heap.size + 1 + 1 < wr.heap.size by omega)
      have HVE : Hid (vs = workRs ns l) := Lib.hid (by rw [HVS.out, List.take_length])
      go_wp2_with fail
      obtain ⟨W5, hW5, z0, z1, z2, z3, z4, hk5, hbel5, hR5⟩ := res5 HR1.out (.int .u8 3) (.int .i64 0) (.string ⟨#[]⟩) (.slice A0 l.length cap0) (.int .i64 0)
      rw [hW5]
      have hvf : GRow RdV 34 5 W5 B (w.heap.size + 1 + 1 + 1) (.slice A0 l.length cap0) vs xs := HV.out.upd (p := w.heap.size + 1) ⟨by rw [← hW5]; rfl, by rw [← hW5]; rfl, by rw [← hW5]; rfl, by rw [← hW5]; simp [World.setCell], fun k _ hk => hk5 k hk⟩ (by omega) (by omega)
      refine bodyPost_ret (v := .agg #[.int .u8 3, .int .i64 0, .string ⟨#[]⟩, .slice A0 l.length cap0, .int .i64 0]) (by simp [results, Try.results66, go_sem, z0, z1, z2, z3, z4]) rfl ⟨_, rfl, ?_, hbel5 _ _ (by omega) HU.out⟩
      rw [E2.out, ← HVE.out]
      obtain ⟨A1, cap1, h1, h2, h3⟩ := hvf.list
      unfold IsVaR
      rw [HVL.out] at h1 h2
      refine ⟨by omega, by omega, by show 0 ≤ _; omega, by rw [HVL.out]; omega, A1, cap1, by rw [HVL.out]; exact h2, by rw [HVL.out, h1], fun hne => ?_⟩
      obtain ⟨b', h4, h5, h6⟩ := h3 hne
      exact ⟨b', 0, h4.low (by omega), h5, (RdV.list h6).mono (fun b o hr => hr.low (by omega))⟩
theorem work66_any (ns : List Na) (x : Ex) : WorkRC ns x := by
  induction x using Ex.ind with
  | h k n s l IH =>
  intro w B v vn h hns hB hsz
  obtain ⟨h1, h2, h3, h4, A, cap, h5, rfl, h7⟩ := h.form
  obtain ⟨hlen, An, ncap, hcap, rfl, hn7⟩ := hns
  have hns : IsNs w B (.slice An ns.length ncap) ns := ⟨hlen, An, ncap, hcap, rfl, hn7⟩
  unfold szE at hsz
  by_cases hk3 : k = 3
  · exact workR_three ns k n s l A An cap ncap w B h4 hB hns IH h7 (by omega) hk3
  · by_cases hk4 : k = 4
    · exact workR_four ns k n s l A An cap ncap w B hB hns hk4
    · exact workR_flat ns k n s l A An cap ncap w B h4 h3 hk3 hk4
end Go.Proofs.Ytnknefdpglnbnaa
