/- The document's work, walked: what an expression works out to, in lists of its own or of the names'. The document's Work and Same, walked. The document's copies of values (value), walked. -/
import Derived.Test.YtnknefdpglnbnaaLi
import Derived.Deep.Cut
namespace Go.Proofs.Ytnknefdpglnbnaa
open Go.RowKit

theorem workRs_len (ns : List Na) : ∀ l : List Ex, (workRs ns l).length = l.length
  | [] => rfl
  | x :: l => by unfold workRs; simp [workRs_len ns l]
theorem workRs_snoc (ns : List Na) (l : List Ex) (x : Ex) : workRs ns (l ++ [x]) = workRs ns l ++ [workR ns x] := by
  induction l with
  | nil => simp [workRs]
  | cons y l ih => simp only [List.cons_append, workRs, ih]
def WorkRC (ns : List Na) (x : Ex) : Prop := ∀ (w : World) (B : Nat) (v vn : Value), IsEx w B v x → IsNs w B vn ns → B ≤ w.heap.size → szE x ≤ 512 →
  Calls Try.prog 66 #[vn, v] w fun e w' => ∃ v', e = .returned v' ∧ IsVaR w' (RN B w.heap.size w') v' (workR ns x) ∧ Below w.heap.size w w'
set_option maxRecDepth 100000 in
set_option maxHeartbeats 1000000 in
theorem workR_flat (ns : List Na) (k n : Int) (s : ByteArray) (l : List Ex) (A An : Option Addr) (cap ncap : Nat) (w : World) (B : Nat) (_h4 : l.length ≤ 140737488351232) (hs : s.size ≤ 140737488351232) (hk3 : ¬ k = 3) (hk4 : ¬ k = 4) :
    Calls Try.prog 66 #[.slice An ns.length ncap, .agg #[.int .u8 k, .int .i64 n, .string s, .slice A l.length cap]] w fun e w' => ∃ v', e = .returned v' ∧ IsVaR w' (RN B w.heap.size w') v' (workR ns (.mk k n s l)) ∧ Below w.heap.size w w' := by
  have e3 : (k == 3) = false := by simpa using hk3
  have e4 : (k == 4) = false := by simpa using hk4
  by_cases hk1 : k = 1
  · subst hk1
    have E2 : Hid (workR ns (.mk 1 n s l) = .mk 1 n ⟨#[]⟩ [] 0) := Lib.hid (by simp [workR])
    clear hk3 hk4 e3 e4
    go_enter Try.func66, Try.ntmps66
    go_wp2_with fail
    refine bodyPost_ret (v := .agg #[.int .u8 1, .int .i64 n, .string ⟨#[]⟩, .slice Option.none 0 0, .int .i64 0]) (by simp [results, Try.results66, go_sem]) rfl ⟨_, rfl, ?_, ((Below.refl _ _).alloc (Nat.le_refl _) _).alloc (by simp) _⟩
    rw [E2.out]; unfold IsVaR; exact ⟨by omega, by omega, by first | assumption | (show 0 ≤ _; omega), by simp, Option.none, 0, by simp, rfl, fun h => absurd rfl h⟩
  · have e1 : (k == 1) = false := by simpa using hk1
    by_cases hk2 : k = 2
    · subst hk2
      have E2 : Hid (workR ns (.mk 2 n s l) = .mk 2 0 s [] 0) := Lib.hid (by simp [workR])
      clear hk1 hk3 hk4 e3 e4
      go_enter Try.func66, Try.ntmps66
      go_wp2_with fail
      refine bodyPost_ret (v := .agg #[.int .u8 2, .int .i64 0, .string s, .slice Option.none 0 0, .int .i64 0]) (by simp [results, Try.results66, go_sem]) rfl ⟨_, rfl, ?_, ((Below.refl _ _).alloc (Nat.le_refl _) _).alloc (by simp) _⟩
      rw [E2.out]; unfold IsVaR; exact ⟨by omega, by omega, by first | assumption | (show 0 ≤ _; omega), by simp, Option.none, 0, by simp, rfl, fun h => absurd rfl h⟩
    · have e2 : (k == 2) = false := by simpa using hk2
      have E2 : Hid (workR ns (.mk k n s l) = zeroVa) := Lib.hid (by simp [workR, hk1, hk2, hk3, hk4])
      clear hk1 hk2 hk3 hk4
      go_enter Try.func66, Try.ntmps66
      go_wp2_with fail
      refine bodyPost_ret (v := .agg #[.int .u8 0, .int .i64 0, .string ⟨#[]⟩, .slice Option.none 0 0, .int .i64 0]) (by simp [results, Try.results66, go_sem]) rfl ⟨_, rfl, ?_, ((Below.refl _ _).alloc (Nat.le_refl _) _).alloc (by simp) _⟩
      rw [E2.out]; exact IsVaR.zero _ _
set_option maxRecDepth 100000 in
set_option maxHeartbeats 1000000 in
theorem workR_four (ns : List Na) (k n : Int) (s : ByteArray) (l : List Ex) (A An : Option Addr) (cap ncap : Nat) (w : World) (B : Nat) (hB : B ≤ w.heap.size) (hns : IsNs w B (.slice An ns.length ncap) ns) (hk : k = 4) :
    Calls Try.prog 66 #[.slice An ns.length ncap, .agg #[.int .u8 k, .int .i64 n, .string s, .slice A l.length cap]] w fun e w' => ∃ v', e = .returned v' ∧ IsVaR w' (RN B w.heap.size w') v' (workR ns (.mk k n s l)) ∧ Below w.heap.size w w' := by
  subst hk
  have E2 : Hid (workR ns (.mk 4 n s l) = rawX ns s) := Lib.hid (by simp [workR])
  have hB0 := Lib.hid (((Below.refl w.heap.size w).alloc (Nat.le_refl _) (.cells #[.int .u8 4, .int .i64 n, .string s, .slice A l.length cap] 26)).alloc (by simp) (.cells zeroV 34))
  have hR0 : Hid (BlkN ((w.alloc (.cells #[.int .u8 4, .int .i64 n, .string s, .slice A l.length cap] 26)).alloc (.cells zeroV 34)) (w.heap.size + 1) 34 zeroV) := Lib.hid (BlkN.at_ (by simp) _ _)
  have HN := Lib.hid hns
  clear hns
  go_enter Try.func66, Try.ntmps66
  go_wp2_with fail
  refine (Get37_any (B := B) s _ (HN.out.keep (fun b hb => hB0.out.block b (by omega))) (by simp; omega)).mono ?_
  rintro e w1 ⟨v', rfl, hv', hb1⟩
  obtain ⟨k2, n2, s2, A2, len2, cap2, r2, rfl⟩ := hv'.shape
  have HB1 := Lib.hid (bnext hB0.out hb1)
  have HR1 := Lib.hid (hR0.out.below hb1)
  have HV := Lib.hid hv'
  have hsz1 := hb1.size
  simp only [World.size_alloc] at hsz1
  clear hb1 hv'
  have d0 := HR1.out.cell 0 rfl
  have d1 := HR1.out.cell 1 rfl
  have d2 := HR1.out.cell 2 rfl
  have d3 := HR1.out.cell 3 rfl
  have d4 := HR1.out.cell 4 rfl
  have x0 := HR1.out.free 0
  have x1 := HR1.out.free 1
  have x2 := HR1.out.free 2
  have x3 := HR1.out.free 3
  have x4 := HR1.out.free 4
  obtain ⟨m0, m1, m2, m3, m4⟩ := lts (show w.heap.size + 1 < w1.heap.size by omega)
  go_wp2_with fail
  obtain ⟨WF, hWF, _, _, _, _, _, hk, hbel, hR⟩ := res5 HR1.out (.int .u8 k2) (.int .i64 n2) (.string s2) (.slice A2 len2 cap2) (.int .i64 r2)
  rw [hWF]
  have hR' := hR.alloc (.cells #[.int .u8 k2, .int .i64 n2, .string s2, .slice A2 len2 cap2, .int .i64 r2] 34)
  have y0 := hR'.cell 0 rfl
  have y1 := hR'.cell 1 rfl
  have y2 := hR'.cell 2 rfl
  have y3 := hR'.cell 3 rfl
  have y4 := hR'.cell 4 rfl
  have hbw := hbel w.heap.size w (by omega) HB1.out
  have hbf := hbw.alloc hbw.size (.cells #[.int .u8 k2, .int .i64 n2, .string s2, .slice A2 len2 cap2, .int .i64 r2] 34)
  refine bodyPost_ret (v := .agg #[.int .u8 k2, .int .i64 n2, .string s2, .slice A2 len2 cap2, .int .i64 r2]) (by simp [results, Try.results66, go_sem, y0, y1, y2, y3, y4]) rfl ⟨_, rfl, ?_, hbf⟩
  rw [E2.out]
  exact (IsVa.keep (fun b hb => (hbf.block b (by omega)).trans (HB1.out.block b (by omega)).symm) HV.out).mono fun b o hb => ⟨.inl hb, Nat.lt_of_lt_of_le hb (Nat.le_trans hB hbf.size)⟩
set_option maxRecDepth 100000 in
set_option maxHeartbeats 1000000 in
theorem workR_three (ns : List Na) (k n : Int) (s : ByteArray) (l : List Ex) (A An : Option Addr) (cap ncap : Nat) (w : World) (B : Nat) (h4 : l.length ≤ 140737488351232) (hB : B ≤ w.heap.size) (hns : IsNs w B (.slice An ns.length ncap) ns) (IH : ∀ x ∈ l, WorkRC ns x) (h7 : l ≠ [] → ∃ b o, b < B ∧ A = some ⟨b, o, Option.none⟩ ∧ IsExs w B b o l) (hsz : szEs l ≤ 511) (hk : k = 3) :
    Calls Try.prog 66 #[.slice An ns.length ncap, .agg #[.int .u8 k, .int .i64 n, .string s, .slice A l.length cap]] w fun e w' => ∃ v', e = .returned v' ∧ IsVaR w' (RN B w.heap.size w') v' (workR ns (.mk k n s l)) ∧ Below w.heap.size w w' := by
  subst hk
  have E2 : Hid (workR ns (.mk 3 n s l) = .mk 3 0 ⟨#[]⟩ (workRs ns l) 0) := Lib.hid (by simp [workR])
  have HN := Lib.hid hns
  have HI := Lib.hid IH
  have H7 := Lib.hid h7
  have HLEN := len_szEs l
  obtain ⟨i0, hi, hz0, hz1, hz2⟩ := info_parts info34'
  have HIN := Lib.hid hi
  have hB0 := Lib.hid ((((Below.refl w.heap.size w).alloc (Nat.le_refl _) (.cells #[.int .u8 3, .int .i64 n, .string s, .slice A l.length cap] 26)).alloc (by simp) (.cells zeroV 34)).alloc (by simp; omega) (.cells #[.int .u8 3, .int .i64 0, .string ⟨#[]⟩, .slice Option.none 0 0, .int .i64 0] 34))
  have hR0 : Hid (BlkN (((w.alloc (.cells #[.int .u8 3, .int .i64 n, .string s, .slice A l.length cap] 26)).alloc (.cells zeroV 34)).alloc (.cells #[.int .u8 3, .int .i64 0, .string ⟨#[]⟩, .slice Option.none 0 0, .int .i64 0] 34)) w.heap.size 26 #[.int .u8 3, .int .i64 n, .string s, .slice A l.length cap]) := Lib.hid (((BlkN.at_ rfl _ _).alloc _).alloc _)
  have hR1 : Hid (BlkN (((w.alloc (.cells #[.int .u8 3, .int .i64 n, .string s, .slice A l.length cap] 26)).alloc (.cells zeroV 34)).alloc (.cells #[.int .u8 3, .int .i64 0, .string ⟨#[]⟩, .slice Option.none 0 0, .int .i64 0] 34)) (w.heap.size + 1) 34 zeroV) := Lib.hid ((BlkN.at_ (by simp) _ _).alloc _)
  have hR2 : Hid (BlkN (((w.alloc (.cells #[.int .u8 3, .int .i64 n, .string s, .slice A l.length cap] 26)).alloc (.cells zeroV 34)).alloc (.cells #[.int .u8 3, .int .i64 0, .string ⟨#[]⟩, .slice Option.none 0 0, .int .i64 0] 34)) (w.heap.size + 1 + 1) 34 #[.int .u8 3, .int .i64 0, .string ⟨#[]⟩, .slice Option.none 0 0, .int .i64 0]) := Lib.hid (BlkN.at_ (by simp) _ _)
  clear hns IH h7 hi
  go_enter Try.func66, Try.ntmps66
  go_wp2_with fail
  go_loopw [6] (fun i wr => ∃ k : Nat, k ≤ l.length ∧ i = .int .i64 k ∧ ∃ (vs : List Va) (xs : List Value) (sl : Value), vs = workRs ns (l.take k) ∧ BlkN wr w.heap.size 26 #[.int .u8 3, .int .i64 n, .string s, .slice A l.length cap] ∧ BlkN wr (w.heap.size + 1) 34 zeroV ∧ BlkN wr (w.heap.size + 1 + 1) 34 #[.int .u8 3, .int .i64 0, .string ⟨#[]⟩, sl, .int .i64 0] ∧ GRow RdV 34 5 wr B (w.heap.size + 1 + 1 + 1) sl vs xs ∧ Below w.heap.size w wr) (fun i _ => l.length - (intOf i).toNat)
  case atStart => exact ⟨0, by omega, rfl, [], [], _, rfl, hR0.out, hR1.out, hR2.out, GRow.nil _ _ _ _ _ _, hB0.out⟩
  case round =>
    obtain ⟨j, hj, rfl, vs, xs, sl, hvs, hr0, hr1, hr2, hv, hu⟩ := hrel
    have hvl : vs.length = j := by rw [hvs, workRs_len]; simp; omega
    obtain ⟨A0, cap0, hsl, hcap0⟩ : ∃ A0 cap0, sl = .slice A0 j cap0 ∧ j ≤ cap0 := by
      obtain ⟨A0, cap0, h1, h2, _⟩ := hv.list
      exact ⟨A0, cap0, by rw [h1, hvl], by omega⟩
    subst hsl
    have HVS := Lib.hid hvs
    have HR0 := Lib.hid hr0
    have HR1 := Lib.hid hr1
    have HR2 := Lib.hid hr2
    have HV := Lib.hid hv
    have HU := Lib.hid hu
    have HVL := Lib.hid hvl
    have hc2 := hr2.lt
    have y3 := hr0.cell 3 rfl
    clear hvs hr0 hr1 hr2 hv hu hvl
    by_cases hlt : j < l.length
    · obtain ⟨b, o, hbB, hA, hx⟩ := H7.out (by rintro rfl; simp at hlt)
      subst hA
      obtain ⟨k', n', s', A', len', cap', hat, hx1⟩ := hx.at2 j hlt
      have hat' := hat.keep hbB (fun b hb => HU.out.block b (by omega))
      obtain ⟨e0, e1, e2, e3⟩ := hat'.four
      have HX1 := Lib.hid hx1
      have hse := szE_mem (List.getElem_mem hlt)
      have hbd2 : szE l[j] ≤ 512 := by omega
      clear hat hat' hx hx1 hse
      have q3 := HR2.out.cell 3 rfl
      obtain ⟨o0, o1, o2, o3, o4⟩ := lts (show w.heap.size + 1 + 1 < wr.heap.size by omega)
      go_wp2_with fail
      refine RegT.region_seq (fun i => Nat.ble i 9) (fun W => W.cell? ⟨w.heap.size + 1 + 1, 3, Option.none⟩ = some (.slice A0 j cap0) ∧ W.cell? ⟨w.heap.size, 3, Option.none⟩ = some (.slice (some ⟨b, o, Option.none⟩) l.length cap) ∧ W.cell? ⟨b, o + j * 4, Option.none⟩ = some (.int .u8 k') ∧ W.cell? ⟨b, o + j * 4 + 1, Option.none⟩ = some (.int .i64 n') ∧ W.cell? ⟨b, o + j * 4 + 2, Option.none⟩ = some (.string s') ∧ W.cell? ⟨b, o + j * 4 + 3, Option.none⟩ = some (.slice A' len' cap')) [0, 1, 2, 3, 4, 5, 6, 7] [8, 9, 10, 11, 12] (by kernel_rfl) (by kernel_rfl) (by decide +kernel) (by decide) ⟨q3, y3, e0, e1, e2, e3⟩ ?_
      refine RegT.quiet_step rfl (fun _ _ _ h => h) (by rfl) (v := .pointer (some ⟨w.heap.size + 1 + 1, 3, Option.none⟩)) (fun w' hS => ?_) ?_
      · go_simp
      refine RegT.quiet_step rfl (fun _ _ _ h => h) (by rfl) (v := .slice A0 j cap0) (fun w' hS => ?_) ?_
      · obtain ⟨t0, t1, t2, t3, t4, t5⟩ := hS; go_simp
      refine RegT.quiet_step rfl (fun _ _ _ h => h) (by rfl) (v := .slice An ns.length ncap) (fun w' hS => ?_) ?_
      · go_simp
      refine RegT.quiet_step rfl (fun _ _ _ h => h) (by rfl) (v := .pointer (some ⟨w.heap.size, 3, Option.none⟩)) (fun w' hS => ?_) ?_
      · go_simp
      refine RegT.quiet_step rfl (fun _ _ _ h => h) (by rfl) (v := .slice (some ⟨b, o, Option.none⟩) l.length cap) (fun w' hS => ?_) ?_
      · obtain ⟨t0, t1, t2, t3, t4, t5⟩ := hS; go_simp
      refine RegT.quiet_step rfl (fun _ _ _ h => h) (by rfl) (v := .int .i64 j) (fun w' hS => ?_) ?_
      · go_simp
      refine RegT.quiet_step rfl (fun _ _ _ h => h) (by rfl) (v := .pointer (some ⟨b, o + j * 4, Option.none⟩)) (fun w' hS => ?_) ?_
      · go_simp
      refine RegT.quiet_step rfl (fun _ _ _ h => h) (by rfl) (v := .agg #[.int .u8 k', .int .i64 n', .string s', .slice A' len' cap']) (fun w' hS => ?_) ?_
      · obtain ⟨t0, t1, t2, t3, t4, t5⟩ := hS; go_simp
      refine RegT.seqT_held rfl ?_
      have hwd : Below wr.heap.size wr wr.drew := (Below.refl _ _).drew
      have HD := Lib.hid (HU.out.drew)
      go_wp2_with (go_at_call 66; go_must (refine (HI.out _ (List.getElem_mem hlt) wr.drew B _ _ (IsEx.keep (fun b hb => HD.out.block b (by omega)) HX1.out) (HN.out.keep (fun b hb => HD.out.block b (by omega))) (by have := HD.out.size; omega) hbd2).mono ?_); rintro e w1 ⟨v', rfl, hv', hb1⟩; obtain ⟨k2, n2, s2, A2, len2, cap2, r2, rfl⟩ := hv'.shape)
      have hb1' : Below wr.heap.size wr w1 := bnext hwd hb1
      have hU1 := Lib.hid (bnext HU.out hb1')
      have hr0' := Lib.hid (HR0.out.below hb1')
      have hr1' := Lib.hid (HR1.out.below hb1')
      have hr2' := Lib.hid (HR2.out.below hb1')
      have hVR := Lib.hid (HV.out.below hb1')
      have hVX : Hid (IsVaR w1 (RN B wr.heap.size w1) (.agg #[.int .u8 k2, .int .i64 n2, .string s2, .slice A2 len2 cap2, .int .i64 r2]) (workR ns l[j])) := Lib.hid hv'
      have hs1 : wr.heap.size ≤ w1.heap.size := hb1'.size
      have t0 := hr2'.out.cell 3 rfl
      have t1 := hr0'.out.cell 3 rfl
      have hkb : w1.heap[b]? = wr.heap[b]? := hb1'.block b (by have := HU.out.size; omega)
      have t2 := (World.cell?_of_block (a := ⟨b, o + j * 4, Option.none⟩) hkb).trans e0
      have t3 := (World.cell?_of_block (a := ⟨b, o + j * 4 + 1, Option.none⟩) hkb).trans e1
      have t4 := (World.cell?_of_block (a := ⟨b, o + j * 4 + 2, Option.none⟩) hkb).trans e2
      have t5 := (World.cell?_of_block (a := ⟨b, o + j * 4 + 3, Option.none⟩) hkb).trans e3
      have hbw1 : b < w1.heap.size := by have := HU.out.size; omega
      have hww1 : w.heap.size < w1.heap.size := by omega
      clear hb1 hv' hb1' hwd q3 y3 e0 e1 e2 e3 hkb
      refine ⟨⟨t0, t1, t2, t3, t4, t5⟩, RegT.seqT_held rfl ?_⟩
      obtain ⟨c0, c1, c2', c3, c4⟩ := lts (show w.heap.size + 1 + 1 < w1.heap.size by omega)
      go_wp2_with fail
      refine ⟨⟨by go_simp, by go_simp, by go_simp, by go_simp, by go_simp, by go_simp⟩, RegT.seqT_tail [10, 11, 12] [_, _, _] rfl rfl _ _ ?_⟩
      refine wpList_append_row _ rfl (.tmp 32) (.tmp 40) 31 rfl (w.heap.size + 1 + 1 + 1) 34 i0 (.agg zeroV) 5 64 Try.underlying31 HIN.out hz0 hz1 hz2 rfl (by decide) (.slice A0 j cap0) j xs rfl ?hy1 ⟨w1.heap.size, 0, Option.none⟩ 1 1 [.int .u8 k2, .int .i64 n2, .string s2, .slice A2 len2 cap2, .int .i64 r2] rfl rfl ?hy2 ?hy3 ?hy4 ?hy5 ?hy6 ?_
      case hy1 => have := (hVR.out.below ((Below.refl _ _).alloc (Nat.le_refl _) (.cells #[.int .u8 k2, .int .i64 n2, .string s2, .slice A2 len2 cap2, .int .i64 r2] 34))).1; rw [HVL.out] at this; exact this
      case hy2 => exact row_new _ _ _
      case hy3 => intro u hu; simp only [List.mem_cons, List.not_mem_nil, or_false] at hu; rcases hu with rfl | rfl | rfl | rfl | rfl <;> rfl
      case hy4 => unfold maxLen; omega
      case hy5 => omega
      case hy6 => simp; omega
      intro sl' w3 hown' hgrow hor
      have hAl : Below w1.heap.size w1 (w1.alloc (.cells #[.int .u8 k2, .int .i64 n2, .string s2, .slice A2 len2 cap2, .int .i64 r2] 34)) := (Below.refl _ _).alloc (Nat.le_refl _) _
      have hob : ∀ g, (Value.slice A0 j cap0).ownBlock = some g → w.heap.size + 1 + 1 + 1 ≤ g ∧ g < wr.heap.size := fun g hg => HV.out.blk hg
      have hV3 : GRow RdV 34 5 w3 B (w.heap.size + 1 + 1 + 1) sl' (vs ++ [workR ns l[j]]) (xs ++ [.int .u8 k2, .int .i64 n2, .string s2, .slice A2 len2 cap2, .int .i64 r2]) :=
        GRow.push (hVR.out.below hAl) rfl ⟨_, _, _, _, _, rfl, IsVaR.mono (fun b o hr => hr.below hAl) (IsVaR.keep (fun b o hr => hAl.block b hr.2) hVX.out)⟩ (by omega) (by omega) (fun g hg => (hob g hg).2) (by rw [HVL.out]; exact hown') hgrow hor
      have hk3 : ∀ b, b < w1.heap.size → b < w.heap.size + 1 + 1 + 1 → w3.heap[b]? = w1.heap[b]? := fun b hb hb2 =>
        (hgrow.block b (by simp; omega) (fun e => by have := (hob b e.symm).1; omega)).trans (hAl.block b hb)
      have hU3 : Below w.heap.size w w3 := (hU1.out.alloc hU1.out.size _).grown hgrow (by simp; omega) (fun g hg => by have := (hob g hg).1; omega)
      have h03 : BlkN w3 w.heap.size 26 #[.int .u8 3, .int .i64 n, .string s, .slice (some ⟨b, o, Option.none⟩) l.length cap] := (hk3 _ (by omega) (by omega)).trans hr0'.out
      have h13 : BlkN w3 (w.heap.size + 1) 34 zeroV := (hk3 _ (by omega) (by omega)).trans hr1'.out
      have h23 : BlkN w3 (w.heap.size + 1 + 1) 34 #[.int .u8 3, .int .i64 0, .string ⟨#[]⟩, .slice A0 j cap0, .int .i64 0] := (hk3 _ (by omega) (by omega)).trans hr2'.out
      obtain ⟨A1, cap1, hsl, hcap1, _⟩ := hV3.list
      subst hsl
      have hc33 := h23.cell 3 rfl
      have hf33 := h23.free 3
      have HV3 := Lib.hid (hV3.upd ((Upd.refl (w.heap.size + 1 + 1) w3).set 3 (.slice A1 (vs ++ [workR ns l[j]]).length cap1)) (by omega) (by omega))
      have HU3 := Lib.hid (hU3.setCell (p := ⟨w.heap.size + 1 + 1, 3, Option.none⟩) (by show w.heap.size ≤ w.heap.size + 1 + 1; omega) (.slice A1 (vs ++ [workR ns l[j]]).length cap1))
      have H03 := Lib.hid (h03.setOther (q := ⟨w.heap.size + 1 + 1, 3, Option.none⟩) (by simp; omega) (.slice A1 (vs ++ [workR ns l[j]]).length cap1))
      have H13 := Lib.hid (h13.setOther (q := ⟨w.heap.size + 1 + 1, 3, Option.none⟩) (by simp) (.slice A1 (vs ++ [workR ns l[j]]).length cap1))
      have H23 := Lib.hid (h23.set 3 (.slice A1 (vs ++ [workR ns l[j]]).length cap1))
      clear hown' hgrow hor hV3 hk3 hU3 h03 h13 h23 hAl hob c0 c1 c2' c3 c4 t0 t1 t2 t3 t4 t5
      obtain ⟨L, hL⟩ : ∃ L, L = (vs ++ [workR ns l[j]]).length := ⟨_, rfl⟩
      rw [← hL] at HV3 HU3 H03 H13 H23 ⊢
      clear hL
      go_wp2_with fail
      simp only [RegT.NP, Exit.inBlock]
      go_wp2_with fail
      go_roundw
      case rel => exact ⟨j + 1, by omega, by go_num, _, _, _, by rw [take_snoc_get l j hlt, workRs_snoc, ← HVS.out], H03.out, H13.out, H23.out, HV3.out, HU3.out⟩
      case measure => simp [intOf]; omega
    · obtain rfl : j = l.length := by omega
      have g0 := HR2.out.cell 0 rfl
      have g1 := HR2.out.cell 1 rfl
      have g2 := HR2.out.cell 2 rfl
      have g3 := HR2.out.cell 3 rfl
      have g4 := HR2.out.cell 4 rfl
      have d0 := HR1.out.cell 0 rfl
      have d1 := HR1.out.cell 1 rfl
      have d2 := HR1.out.cell 2 rfl
      have d3 := HR1.out.cell 3 rfl
      have d4 := HR1.out.cell 4 rfl
      have x0 := HR1.out.free 0
      have x1 := HR1.out.free 1
      have x2 := HR1.out.free 2
      have x3 := HR1.out.free 3
      have x4 := HR1.out.free 4
      obtain ⟨m0, m1, m2, m3, m4⟩ := lts (show w.heap.size + 1 < wr.heap.size by omega)
      obtain ⟨o0, o1, o2, o3, o4⟩ := lts (show w.heap.size + 1 + 1 < wr.heap.size by omega)
      have HVE : Hid (vs = workRs ns l) := Lib.hid (by rw [HVS.out, List.take_length])
      go_wp2_with fail
      obtain ⟨W5, hW5, z0, z1, z2, z3, z4, hk5, hbel5, hR5⟩ := res5 HR1.out (.int .u8 3) (.int .i64 0) (.string ⟨#[]⟩) (.slice A0 l.length cap0) (.int .i64 0)
      rw [hW5]
      have hvf : GRow RdV 34 5 W5 B (w.heap.size + 1 + 1 + 1) (.slice A0 l.length cap0) vs xs := HV.out.upd (p := w.heap.size + 1) ⟨by rw [← hW5]; rfl, by rw [← hW5]; rfl, by rw [← hW5]; rfl, by rw [← hW5]; simp [World.setCell], fun k _ hk => hk5 k hk⟩ (by omega) (by omega)
      refine bodyPost_ret (v := .agg #[.int .u8 3, .int .i64 0, .string ⟨#[]⟩, .slice A0 l.length cap0, .int .i64 0]) (by simp [results, Try.results66, go_sem, z0, z1, z2, z3, z4]) rfl ⟨_, rfl, ?_, hbel5 _ _ (by omega) HU.out⟩
      rw [E2.out, ← HVE.out]
      obtain ⟨A1, cap1, h1, h2, h3⟩ := hvf.list
      unfold IsVaR
      rw [HVL.out] at h1 h2
      refine ⟨by omega, by omega, by show 0 ≤ _; omega, by rw [HVL.out]; omega, A1, cap1, by rw [HVL.out]; exact h2, by rw [HVL.out, h1], fun hne => ?_⟩
      obtain ⟨b', h4, h5, h6⟩ := h3 hne
      exact ⟨b', 0, h4.low (by omega), h5, (RdV.list h6).mono (fun b o hr => hr.low (by omega))⟩
theorem work66_any (ns : List Na) (x : Ex) : WorkRC ns x := by
  induction x using Ex.ind with
  | h k n s l IH =>
  intro w B v vn h hns hB hsz
  obtain ⟨h1, h2, h3, h4, A, cap, h5, rfl, h7⟩ := h.form
  obtain ⟨hlen, An, ncap, hcap, rfl, hn7⟩ := hns
  have hns : IsNs w B (.slice An ns.length ncap) ns := ⟨hlen, An, ncap, hcap, rfl, hn7⟩
  unfold szE at hsz
  by_cases hk3 : k = 3
  · exact workR_three ns k n s l A An cap ncap w B h4 hB hns IH h7 (by omega) hk3
  · by_cases hk4 : k = 4
    · exact workR_four ns k n s l A An cap ncap w B hB hns hk4
    · exact workR_flat ns k n s l A An cap ncap w B h4 h3 hk3 hk4
end Go.Proofs.Ytnknefdpglnbnaa
namespace Go.Proofs.Ytnknefdpglnbnaa
open Go.RowKit

theorem IsVaR.lt {B lo : Nat} {w : World} {v : Value} {x : Va} (h : IsVaR w (RN B lo w) v x) : IsVa w w.heap.size v x := h.mono fun _ _ hr => hr.2
set_option maxRecDepth 100000 in
set_option maxHeartbeats 2000000 in
theorem Work20_any {B : Nat} {v vn : Value} {x : Ex} {ns : List Na} (w : World) (h : IsEx w B v x) (hns : IsNs w B vn ns) (hB : B ≤ w.heap.size) :
    Calls Try.prog 20 #[vn, v] w fun e w' => ∃ v', e = .returned (.tuple #[v', .int .i64 (workW ns x).2]) ∧ IsVaR w' (RN B w.heap.size w') v' (workW ns x).1 ∧ Below w.heap.size w w' := by
  have HH := Lib.hid h
  have HN := Lib.hid hns
  have hcn := fun w' (hb : Below w.heap.size w w') => MayNames24_any (B := B) w' (hns.keep fun b hl => hb.block b (by omega)) (Nat.le_trans hB hb.size)
  have hc0 := fun w' (hb : Below w.heap.size w w') => none65_any (B := B) w' (h.keep fun b hl => hb.block b (by omega))
  have hce := fun w' (hb : Below w.heap.size w w') => MayExpr22_any (B := B) w' (h.keep fun b hl => hb.block b (by omega)) (Nat.le_trans hB hb.size)
  have hcw := fun (hsz : szE x ≤ 512) w' (hb : Below w.heap.size w w') => work66_any ns x w' B v vn (h.keep fun b hl => hb.block b (by omega)) (hns.keep fun b hl => hb.block b (by omega)) (Nat.le_trans hB hb.size) hsz
  have hsz1 := mayE_sz x
  have hsz2 := noneX_sz x
  obtain ⟨mn, hmn⟩ : ∃ mn, mn = mayNs ns := ⟨_, rfl⟩
  obtain ⟨m0, hm0⟩ : ∃ m0, m0 = noneX x := ⟨_, rfl⟩
  obtain ⟨me, hme⟩ : ∃ me, me = mayE x := ⟨_, rfl⟩
  obtain ⟨vr, hvr⟩ : ∃ vr, vr = workR ns x := ⟨_, rfl⟩
  have hW : workW ns x = if mn && (m0 || me) then (if mayV vr then (vr, 0) else (zeroVa, 8)) else (zeroVa, 2) := by unfold workW orNoneE; rw [← hmn, ← hm0, ← hme, ← hvr]
  rw [← hmn] at hcn
  rw [← hm0] at hc0 hsz2
  rw [← hme] at hce hsz1
  rw [← hvr] at hcw
  have CN := Lib.hid hcn
  have C0 := Lib.hid hc0
  have CE := Lib.hid hce
  have CW := Lib.hid hcw
  have HW := Lib.hid hW
  have HZ1 := Lib.hid hsz1
  have HZ2 := Lib.hid hsz2
  obtain ⟨W, hWW⟩ : ∃ W, W = workW ns x := ⟨_, rfl⟩
  rw [← hWW] at HW ⊢
  obtain ⟨sz, hsz⟩ : ∃ sz, sz = szE x := ⟨_, rfl⟩
  rw [← hsz] at CW HZ1 HZ2
  obtain ⟨k, n, s, l⟩ := x
  obtain ⟨h1, h2, h3, h4, A, cap, h5, rfl, h7⟩ := h.form
  obtain ⟨_, An, ncap, _, rfl, _⟩ := hns
  have HB0 := Lib.hid (((Below.refl w.heap.size w).alloc (Nat.le_refl _) (.cells #[.int .u8 k, .int .i64 n, .string s, .slice A l.length cap] 26)).alloc (by simp) (.cells zeroV 34))
  have HR0 : Hid (BlkN ((w.alloc (.cells #[.int .u8 k, .int .i64 n, .string s, .slice A l.length cap] 26)).alloc (.cells zeroV 34)) (w.heap.size + 1) 34 zeroV) := Lib.hid (BlkN.at_ (by simp) _ _)
  have HE0 : Hid (BlkN ((w.alloc (.cells #[.int .u8 k, .int .i64 n, .string s, .slice A l.length cap] 26)).alloc (.cells zeroV 34)) w.heap.size 26 #[.int .u8 k, .int .i64 n, .string s, .slice A l.length cap]) := Lib.hid ((BlkN.at_ rfl _ _).alloc _)
  clear h h7 hcn hc0 hce hcw hW hsz1 hsz2 hmn hm0 hme hvr hWW hsz HH HN
  cases mn
  · have HF : Hid (W = (zeroVa, 2)) := Lib.hid (by rw [HW.out]; rfl)
    go_enter Try.func20, Try.ntmps20
    go_wp2_with (go_at_call 24; refine (CN.out _ HB0.out).mono ?_; rintro e w1 ⟨rfl, hb1⟩; have hB1 := bnext HB0.out hb1; have hR1 := HR0.out.below hb1; have d0 := hR1.cell 0 rfl; have d1 := hR1.cell 1 rfl; have d2 := hR1.cell 2 rfl; have d3 := hR1.cell 3 rfl; have d4 := hR1.cell 4 rfl; have x0 := hR1.free 0; have x1 := hR1.free 1; have x2 := hR1.free 2; have x3 := hR1.free 3; have x4 := hR1.free 4)
    obtain ⟨WF, hWF, y0, y1, y2, y3, y4, hk, hbel, _⟩ := res5 hR1 (.int .u8 0) (.int .i64 0) (.string ⟨#[]⟩) (.slice Option.none 0 0) (.int .i64 0)
    rw [hWF]
    refine bodyPost_ret (v := .tuple #[.agg #[.int .u8 0, .int .i64 0, .string ⟨#[]⟩, .slice Option.none 0 0, .int .i64 0], .int .i64 2]) (by simp [results, Try.results20, go_sem, y0, y1, y2, y3, y4]) rfl ⟨_, by rw [HF.out], by rw [HF.out]; exact IsVaR.zero _ _, hbel _ _ (by omega) hB1⟩
  · cases hor : (m0 || me)
    · have HF : Hid (W = (zeroVa, 2)) := Lib.hid (by rw [HW.out, hor]; rfl)
      obtain ⟨rfl, rfl⟩ : m0 = false ∧ me = false := by simpa using hor
      clear hor
      go_enter Try.func20, Try.ntmps20
      go_wp2_with (first | (go_at_call 24; refine (CN.out _ HB0.out).mono ?_; rintro e w1 ⟨rfl, hb1⟩; have hB1 := bnext HB0.out hb1; have hE1 := HE0.out.below hb1; have t0 := hE1.cell 0 rfl; have t1 := hE1.cell 1 rfl; have t2 := hE1.cell 2 rfl; have t3 := hE1.cell 3 rfl) | (go_at_call 65; refine (C0.out _ hB1).mono ?_; rintro e w2 ⟨rfl, hb2⟩; have hB2 := bnext hB1 hb2; have hE2 := hE1.below hb2; have u0 := hE2.cell 0 rfl; have u1 := hE2.cell 1 rfl; have u2 := hE2.cell 2 rfl; have u3 := hE2.cell 3 rfl) | (go_at_call 22; refine (CE.out _ hB2).mono ?_; rintro e w3 ⟨rfl, hb3⟩; have hB3 := bnext hB2 hb3; have hR1 := ((HR0.out.below hb1).below hb2).below hb3; have d0 := hR1.cell 0 rfl; have d1 := hR1.cell 1 rfl; have d2 := hR1.cell 2 rfl; have d3 := hR1.cell 3 rfl; have d4 := hR1.cell 4 rfl; have x0 := hR1.free 0; have x1 := hR1.free 1; have x2 := hR1.free 2; have x3 := hR1.free 3; have x4 := hR1.free 4))
      obtain ⟨WF, hWF, y0, y1, y2, y3, y4, hk, hbel, _⟩ := res5 hR1 (.int .u8 0) (.int .i64 0) (.string ⟨#[]⟩) (.slice Option.none 0 0) (.int .i64 0)
      rw [hWF]
      refine bodyPost_ret (v := .tuple #[.agg #[.int .u8 0, .int .i64 0, .string ⟨#[]⟩, .slice Option.none 0 0, .int .i64 0], .int .i64 2]) (by simp [results, Try.results20, go_sem, y0, y1, y2, y3, y4]) rfl ⟨_, by rw [HF.out], by rw [HF.out]; exact IsVaR.zero _ _, hbel _ _ (by omega) hB3⟩
    · have hszl : sz ≤ 512 := by
        rcases (by simpa using hor : m0 = true ∨ me = true) with e | e
        · have := HZ2.out e; omega
        · exact HZ1.out e
      have CW2 := Lib.hid (CW.out hszl)
      have HF : Hid (W = if mayV vr then (vr, 0) else (zeroVa, 8)) := Lib.hid (by rw [HW.out, hor]; rfl)
      have HWK := HW
      clear CW HZ1 HZ2 HW
      clear HF
      have HF : Hid (W = if mayV vr then (vr, 0) else (zeroVa, 8)) := Lib.hid (by rw [HWK.out, hor]; rfl)
      go_enter Try.func20, Try.ntmps20
      cases m0
      focus
        obtain rfl : me = true := by simpa using hor
        clear hor
        go_upto_region 3 with (first | (go_at_call 24; refine (CN.out _ HB0.out).mono ?_; rintro e w1 ⟨rfl, hb1⟩; have hB1 := bnext HB0.out hb1; have hE1 := HE0.out.below hb1; have t0 := hE1.cell 0 rfl; have t1 := hE1.cell 1 rfl; have t2 := hE1.cell 2 rfl; have t3 := hE1.cell 3 rfl) | (go_at_call 65; refine (C0.out _ hB1).mono ?_; rintro e w2 ⟨rfl, hb2⟩; have hB2 := bnext hB1 hb2; have hE2 := hE1.below hb2; have u0 := hE2.cell 0 rfl; have u1 := hE2.cell 1 rfl; have u2 := hE2.cell 2 rfl; have u3 := hE2.cell 3 rfl) | (go_at_call 22; refine (CE.out _ hB2).mono ?_; rintro e w3 ⟨rfl, hb3⟩; have hB3 := bnext hB2 hb3; have hR3 := ((HR0.out.below hb1).below hb2).below hb3; have hE3 := hE2.below hb3))
        clear hb1 hb2 hb3 hB1 hB2 hE1 hE2 t0 t1 t2 t3 u0 u1 u2 u3
      rotate_left
      focus
        clear hor
        go_upto_region 3 with (first | (go_at_call 24; refine (CN.out _ HB0.out).mono ?_; rintro e w1 ⟨rfl, hb1⟩; have hB1 := bnext HB0.out hb1; have hE1 := HE0.out.below hb1; have t0 := hE1.cell 0 rfl; have t1 := hE1.cell 1 rfl; have t2 := hE1.cell 2 rfl; have t3 := hE1.cell 3 rfl) | (go_at_call 65; refine (C0.out _ hB1).mono ?_; rintro e w3 ⟨rfl, hb3⟩; have hB3 := bnext hB1 hb3; have hR3 := (HR0.out.below hb1).below hb3; have hE3 := hE1.below hb3))
        clear hb1 hb3 hB1 hE1 t0 t1 t2 t3
      all_goals
        have HB3 := Lib.hid hB3
        have HR3 := Lib.hid hR3
        have p0 := hE3.cell 0 rfl
        have p1 := hE3.cell 1 rfl
        have p2 := hE3.cell 2 rfl
        have p3 := hE3.cell 3 rfl
        clear hB3 hR3 hE3
        go_wp2_with (go_at_call 66; refine (CW2.out _ HB3.out).mono ?_; rintro e w4 ⟨v', rfl, hv', hb4⟩; obtain ⟨k2, n2, s2, A2, len2, cap2, r2, rfl⟩ := hv'.shape)
        have hB4 := HB3.out.trans (hb4.mono HB3.out.size)
        have hBX : Below w4.heap.size w4 (w4.alloc (.cells #[.int .u8 k2, .int .i64 n2, .string s2, .slice A2 len2 cap2, .int .i64 r2] 34)) := (Below.refl _ _).alloc (Nat.le_refl _) _
        have hBY : BlkN (w4.alloc (.cells #[.int .u8 k2, .int .i64 n2, .string s2, .slice A2 len2 cap2, .int .i64 r2] 34)) w4.heap.size 34 #[.int .u8 k2, .int .i64 n2, .string s2, .slice A2 len2 cap2, .int .i64 r2] := BlkN.at_ rfl _ _
        have hVV := Lib.hid (IsVa.keep (w' := w4.alloc (.cells #[.int .u8 k2, .int .i64 n2, .string s2, .slice A2 len2 cap2, .int .i64 r2] 34)) (fun b hb => hBX.block b hb) hv'.lt)
        refine (May67_any _ hVV.out (by simp)).mono ?_
        rintro e w5 ⟨rfl, hb5⟩
        have hB45 := hBX.trans (hb5.mono hBX.size)
        have hB5 := Lib.hid (hB4.trans (hB45.mono hB4.size))
        have hR5 := Lib.hid ((HR3.out.below hb4).below hB45)
        have hT5 := hBY.below hb5
        have f0 := hT5.cell 0 rfl
        have f1 := hT5.cell 1 rfl
        have f2 := hT5.cell 2 rfl
        have f3 := hT5.cell 3 rfl
        have f4 := hT5.cell 4 rfl
        have d0 := hR5.out.cell 0 rfl
        have d1 := hR5.out.cell 1 rfl
        have d2 := hR5.out.cell 2 rfl
        have d3 := hR5.out.cell 3 rfl
        have d4 := hR5.out.cell 4 rfl
        have x0 := hR5.out.free 0
        have x1 := hR5.out.free 1
        have x2 := hR5.out.free 2
        have x3 := hR5.out.free 3
        have x4 := hR5.out.free 4
        have hlt3 := HR3.out.lt
        have hV5 : Hid (IsVaR w5 (RN B (w.heap.size + 1 + 1) w5) (.agg #[.int .u8 k2, .int .i64 n2, .string s2, .slice A2 len2 cap2, .int .i64 r2]) vr) := Lib.hid (IsVaR.mono (fun b o hr => (hr.below hB45).low (by omega)) (IsVaR.keep (fun b o hr => hB45.block b hr.2) hv'))
        clear hb4 hb5 hv' hB4 hBX hBY hB45 hT5 hVV
        cases hmv : mayV vr
        · have HFF : Hid (W = (zeroVa, 8)) := Lib.hid (by rw [HF.out, hmv]; rfl)
          go_wp2_with fail
          obtain ⟨WF, hWF, y0, y1, y2, y3, y4, hk, hbel, _⟩ := res5 hR5.out (.int .u8 0) (.int .i64 0) (.string ⟨#[]⟩) (.slice Option.none 0 0) (.int .i64 0)
          rw [hWF]
          refine bodyPost_ret (v := .tuple #[.agg #[.int .u8 0, .int .i64 0, .string ⟨#[]⟩, .slice Option.none 0 0, .int .i64 0], .int .i64 8]) (by simp [results, Try.results20, go_sem, y0, y1, y2, y3, y4]) rfl ⟨_, by rw [HFF.out], by rw [HFF.out]; exact IsVaR.zero _ _, hbel _ _ (by omega) hB5.out⟩
        · have HFF : Hid (W = (vr, 0)) := Lib.hid (by rw [HF.out, hmv]; rfl)
          go_wp2_with fail
          obtain ⟨WF, hWF, y0, y1, y2, y3, y4, hk, hbel, _⟩ := res5 hR5.out (.int .u8 k2) (.int .i64 n2) (.string s2) (.slice A2 len2 cap2) (.int .i64 r2)
          rw [hWF]
          refine bodyPost_ret (v := .tuple #[.agg #[.int .u8 k2, .int .i64 n2, .string s2, .slice A2 len2 cap2, .int .i64 r2], .int .i64 0]) (by simp [results, Try.results20, go_sem, y0, y1, y2, y3, y4]) rfl ⟨_, by rw [HFF.out], ?_, hbel _ _ (by omega) hB5.out⟩
          rw [HFF.out]
          have hsz5 : WF.heap.size = w5.heap.size := by rw [← hWF]; simp [World.setCell]
          exact (hV5.out.keep (fun b o hr => hk b (by rcases hr.1 with h | h <;> omega))).mono (fun b o hr => ⟨hr.1.imp id (fun h => by omega), by rw [hsz5]; exact hr.2⟩)
mutual
def sameV : Va → Va → Bool
  | .mk k n s l r, .mk k' n' s' l' r' => k == k' && (n == n' && (s.toList == s'.toList && (r == r' && sameVs l l')))
def sameVs : List Va → List Va → Bool
  | [], [] => true
  | x :: l, y :: m => sameV x y && sameVs l m
  | _, _ => false
end
theorem sameVs_len : ∀ (l m : List Va), sameVs l m = true → l.length = m.length
  | [], [], _ => rfl
  | x :: l, y :: m, h => by simp only [sameVs, Bool.and_eq_true] at h; simp [sameVs_len l m h.2]
  | [], _ :: _, h => by simp [sameVs] at h
  | _ :: _, [], h => by simp [sameVs] at h
mutual
theorem sameV_eq : ∀ (x y : Va), sameV x y = true → x = y
  | .mk k n s l r, .mk k' n' s' l' r', h => by
    simp only [sameV, Bool.and_eq_true, beq_iff_eq] at h
    obtain ⟨h1, h2, h3, h4, h5⟩ := h
    have := sameVs_eq l l' h5
    have hs : s = s' := by rw [ByteArray.toList_eq, ByteArray.toList_eq] at h3; obtain ⟨⟨a⟩⟩ := s; obtain ⟨⟨b⟩⟩ := s'; simp at h3; rw [h3]
    rw [h1, h2, hs, h4, this]
theorem sameVs_eq : ∀ (l m : List Va), sameVs l m = true → l = m
  | [], [], _ => rfl
  | x :: l, y :: m, h => by simp only [sameVs, Bool.and_eq_true] at h; rw [sameV_eq x y h.1, sameVs_eq l m h.2]
  | [], _ :: _, h => by simp [sameVs] at h
  | _ :: _, [], h => by simp [sameVs] at h
end
mutual
theorem sameV_refl : ∀ (x : Va), sameV x x = true
  | .mk k n s l r => by simp [sameV, sameVs_refl l]
theorem sameVs_refl : ∀ (l : List Va), sameVs l l = true
  | [] => rfl
  | x :: l => by simp [sameVs, sameV_refl x, sameVs_refl l]
end
theorem sameVs_cons (x y : Va) (l m : List Va) : sameVs (x :: l) (y :: m) = (sameV x y && sameVs l m) := by simp [sameVs]
def SameC (x : Va) : Prop := ∀ (y : Va) (w : World) (B C : Nat) (v u : Value), IsVa w B v x → IsVa w C u y → B ≤ w.heap.size → C ≤ w.heap.size →
  Calls Try.prog 23 #[v, u] w fun e w' => e = .returned (.bool (sameV x y)) ∧ Below w.heap.size w w'
set_option maxRecDepth 100000 in
set_option maxHeartbeats 1000000 in
theorem Same23_any (x : Va) : SameC x := by
  induction x using Va.ind with
  | h k n s l r IH =>
  intro y w B C v u h hy hB hC
  obtain ⟨k', n', s', l', r'⟩ := y
  obtain ⟨h1, h2, h3, h4, A, cap, h5, rfl, h7⟩ := h.form
  obtain ⟨h1', h2', h3', h4', A', cap', h5', rfl, h7'⟩ := hy.form
  have H7 := Lib.hid h7
  have H7' := Lib.hid h7'
  have HI := Lib.hid IH
  have HB0 := Lib.hid (((Below.refl w.heap.size w).alloc (Nat.le_refl _) (.cells #[.int .u8 k, .int .i64 n, .string s, .slice A l.length cap, .int .i64 r] 34)).alloc (by simp) (.cells #[.int .u8 k', .int .i64 n', .string s', .slice A' l'.length cap', .int .i64 r'] 34))
  have HQ : Hid (BlkN ((w.alloc (.cells #[.int .u8 k, .int .i64 n, .string s, .slice A l.length cap, .int .i64 r] 34)).alloc (.cells #[.int .u8 k', .int .i64 n', .string s', .slice A' l'.length cap', .int .i64 r'] 34)) w.heap.size 34 #[.int .u8 k, .int .i64 n, .string s, .slice A l.length cap, .int .i64 r]) := Lib.hid ((BlkN.at_ rfl _ _).alloc _)
  have HQ' : Hid (BlkN ((w.alloc (.cells #[.int .u8 k, .int .i64 n, .string s, .slice A l.length cap, .int .i64 r] 34)).alloc (.cells #[.int .u8 k', .int .i64 n', .string s', .slice A' l'.length cap', .int .i64 r'] 34)) (w.heap.size + 1) 34 #[.int .u8 k', .int .i64 n', .string s', .slice A' l'.length cap', .int .i64 r']) := Lib.hid (BlkN.at_ (by simp) _ _)
  clear h h7 hy h7' IH
  obtain ⟨T, hT⟩ : ∃ T, T = sameV (.mk k n s l r) (.mk k' n' s' l' r') := ⟨_, rfl⟩
  rw [← hT]
  have HTT : Hid (T = (k == k' && (n == n' && (s.toList == s'.toList && (r == r' && sameVs l l'))))) := Lib.hid (by rw [hT]; simp only [sameV])
  clear hT
  cases gk : ((k : Int) == k')
  · have gk' : ((k : Int) != k') = true := by rw [bne, gk]; rfl
    have HF : Hid (T = false) := Lib.hid (by rw [HTT.out, gk]; simp)
    clear H7 H7' HI HQ HQ' HTT
    go_enter Try.func23, Try.ntmps23
    go_wp2_with fail
    go_ret
    rw [HF.out]
    exact ⟨rfl, HB0.out⟩
  · have gk' : ((k : Int) != k') = false := by rw [bne, gk]; rfl
    cases gn : ((n : Int) == n')
    · have gn' : ((n : Int) != n') = true := by rw [bne, gn]; rfl
      have HF : Hid (T = false) := Lib.hid (by rw [HTT.out, gk, gn]; simp)
      clear H7 H7' HI HQ HQ' HTT
      go_enter Try.func23, Try.ntmps23
      go_wp2_with fail
      go_ret
      rw [HF.out]
      exact ⟨rfl, HB0.out⟩
    · have gn' : ((n : Int) != n') = false := by rw [bne, gn]; rfl
      cases gs : (s.toList == s'.toList)
      · have gs' : (s.toList != s'.toList) = true := by rw [bne, gs]; rfl
        have HF : Hid (T = false) := Lib.hid (by rw [HTT.out, gk, gn, gs]; simp)
        clear H7 H7' HI HQ HQ' HTT
        go_enter Try.func23, Try.ntmps23
        go_wp2_with fail
        go_ret
        rw [HF.out]
        exact ⟨rfl, HB0.out⟩
      · have gs' : (s.toList != s'.toList) = false := by rw [bne, gs]; rfl
        cases gr : ((r : Int) == r')
        · have gr' : ((r : Int) != r') = true := by rw [bne, gr]; rfl
          have HF : Hid (T = false) := Lib.hid (by rw [HTT.out, gk, gn, gs, gr]; simp)
          clear H7 H7' HI HQ HQ' HTT
          go_enter Try.func23, Try.ntmps23
          go_wp2_with fail
          go_ret
          rw [HF.out]
          exact ⟨rfl, HB0.out⟩
        · have gr' : ((r : Int) != r') = false := by rw [bne, gr]; rfl
          by_cases gl : l.length = l'.length
          · have HLL := Lib.hid gl
            have gl' : ((l.length : Int) != l'.length) = false := by rw [gl]; simp
            have HT2 : Hid (T = sameVs l l') := Lib.hid (by rw [HTT.out, gk, gn, gs, gr]; simp)
            clear gl HTT
            go_enter Try.func23, Try.ntmps23
            go_wp2_with fail
            clear gk gk' gn gn' gs gs' gr gr' gl'
            go_loopw [5] (fun i wr => ∃ j : Nat, j ≤ l.length ∧ i = .int .i64 j ∧ sameVs (l.drop j) (l'.drop j) = T ∧ Below w.heap.size w wr ∧ BlkN wr w.heap.size 34 #[.int .u8 k, .int .i64 n, .string s, .slice A l.length cap, .int .i64 r] ∧ BlkN wr (w.heap.size + 1) 34 #[.int .u8 k', .int .i64 n', .string s', .slice A' l'.length cap', .int .i64 r']) (fun i _ => l.length - (intOf i).toNat)
            case atStart => exact ⟨0, by omega, rfl, HT2.out.symm, HB0.out, HQ.out, HQ'.out⟩
            case round =>
              obtain ⟨j, hj, rfl, ht, hu, hb0, hb1⟩ := hrel
              have HT := Lib.hid ht
              have HU := Lib.hid hu
              have HC := Lib.hid hb0
              have HC' := Lib.hid hb1
              have hsz := hb1.lt
              have y3 := hb0.cell 3 rfl
              have y3' := hb1.cell 3 rfl
              clear ht hu hb0 hb1
              by_cases hlt : j < l.length
              · have hlt' : j < l'.length := by have := HLL.out; omega
                obtain ⟨b, o, hbB, hA, hx⟩ := H7.out (by rintro rfl; simp at hlt)
                obtain ⟨b', o', hbB', hA', hx'⟩ := H7'.out (by rintro rfl; simp at hlt')
                subst hA hA'
                obtain ⟨k1, n1, s1, A1, len1, cap1, r1, hat, hx1⟩ := hx.at2 j hlt
                obtain ⟨k2, n2, s2, A2, len2, cap2, r2, hat2, hx2⟩ := hx'.at2 j hlt'
                have hat' := hat.keep hbB (fun b hb => HU.out.block b (by omega))
                have hat2' := hat2.keep hbB' (fun b hb => HU.out.block b (by omega))
                obtain ⟨e0, e1, e2, e3, e4⟩ := hat'.five
                obtain ⟨f0, f1, f2, f3, f4⟩ := hat2'.five
                have HD1 := Lib.hid (List.drop_eq_getElem_cons hlt)
                have HD2 := Lib.hid (List.drop_eq_getElem_cons hlt')
                have hcall := fun w' (hb : Below w.heap.size w w') => HI.out l[j] (List.getElem_mem hlt) l'[j] w' B C _ _ (IsVa.keep (fun b hb' => hb.block b (by omega)) hx1) (IsVa.keep (fun b hb' => hb.block b (by omega)) hx2) (Nat.le_trans hB hb.size) (Nat.le_trans hC hb.size)
                obtain ⟨pp, hpp⟩ : ∃ pp, pp = sameV l[j] l'[j] := ⟨_, rfl⟩
                rw [← hpp] at hcall
                have HPP := Lib.hid hpp
                have HCALL := Lib.hid hcall
                clear hat hat' hat2 hat2' hx hx1 hx' hx2 hcall hpp
                go_wp2_with fail
                refine RegT.region_seq (fun i => Nat.ble i 9) (fun W => W.cell? ⟨w.heap.size, 3, Option.none⟩ = some (.slice (some ⟨b, o, Option.none⟩) l.length cap) ∧ W.cell? ⟨w.heap.size + 1, 3, Option.none⟩ = some (.slice (some ⟨b', o', Option.none⟩) l'.length cap') ∧ (W.cell? ⟨b, o + j * 5, Option.none⟩ = some (.int .u8 k1) ∧ W.cell? ⟨b, o + j * 5 + 1, Option.none⟩ = some (.int .i64 n1) ∧ W.cell? ⟨b, o + j * 5 + 2, Option.none⟩ = some (.string s1) ∧ W.cell? ⟨b, o + j * 5 + 3, Option.none⟩ = some (.slice A1 len1 cap1) ∧ W.cell? ⟨b, o + j * 5 + 4, Option.none⟩ = some (.int .i64 r1)) ∧ (W.cell? ⟨b', o' + j * 5, Option.none⟩ = some (.int .u8 k2) ∧ W.cell? ⟨b', o' + j * 5 + 1, Option.none⟩ = some (.int .i64 n2) ∧ W.cell? ⟨b', o' + j * 5 + 2, Option.none⟩ = some (.string s2) ∧ W.cell? ⟨b', o' + j * 5 + 3, Option.none⟩ = some (.slice A2 len2 cap2) ∧ W.cell? ⟨b', o' + j * 5 + 4, Option.none⟩ = some (.int .i64 r2))) [0, 1, 2, 3, 4, 5, 6, 7, 8, 9] [10, 11] (by kernel_rfl) (by kernel_rfl) (by decide +kernel) (by decide) ⟨y3, y3', ⟨e0, e1, e2, e3, e4⟩, ⟨f0, f1, f2, f3, f4⟩⟩ ?_
                refine RegT.quiet_step rfl (fun _ _ _ h => h) (by rfl) (v := .pointer (some ⟨w.heap.size, 3, Option.none⟩)) (fun w' hS => ?_) ?_
                · go_simp
                refine RegT.quiet_step rfl (fun _ _ _ h => h) (by rfl) (v := .slice (some ⟨b, o, Option.none⟩) l.length cap) (fun w' hS => ?_) ?_
                · obtain ⟨t0, t1, ⟨t2, t3, t4, t5, t6⟩, ⟨u2, u3, u4, u5, u6⟩⟩ := hS; go_simp
                refine RegT.quiet_step rfl (fun _ _ _ h => h) (by rfl) (v := .int .i64 j) (fun w' hS => ?_) ?_
                · go_simp
                refine RegT.quiet_step rfl (fun _ _ _ h => h) (by rfl) (v := .pointer (some ⟨b, o + j * 5, Option.none⟩)) (fun w' hS => ?_) ?_
                · go_simp
                refine RegT.quiet_step rfl (fun _ _ _ h => h) (by rfl) (v := .agg #[.int .u8 k1, .int .i64 n1, .string s1, .slice A1 len1 cap1, .int .i64 r1]) (fun w' hS => ?_) ?_
                · obtain ⟨t0, t1, ⟨t2, t3, t4, t5, t6⟩, ⟨u2, u3, u4, u5, u6⟩⟩ := hS; go_simp
                refine RegT.quiet_step rfl (fun _ _ _ h => h) (by rfl) (v := .pointer (some ⟨w.heap.size + 1, 3, Option.none⟩)) (fun w' hS => ?_) ?_
                · go_simp
                refine RegT.quiet_step rfl (fun _ _ _ h => h) (by rfl) (v := .slice (some ⟨b', o', Option.none⟩) l'.length cap') (fun w' hS => ?_) ?_
                · obtain ⟨t0, t1, ⟨t2, t3, t4, t5, t6⟩, ⟨u2, u3, u4, u5, u6⟩⟩ := hS; go_simp
                refine RegT.quiet_step rfl (fun _ _ _ h => h) (by rfl) (v := .int .i64 j) (fun w' hS => ?_) ?_
                · go_simp
                refine RegT.quiet_step rfl (fun _ _ _ h => h) (by rfl) (v := (.pointer (some ⟨b', o' + j * 5, Option.none⟩))) (fun w' hS => ?_) ?_
                · go_simp
                refine RegT.quiet_step rfl (fun _ _ _ h => h) (by rfl) (v := .agg #[.int .u8 k2, .int .i64 n2, .string s2, .slice A2 len2 cap2, .int .i64 r2]) (fun w' hS => ?_) ?_
                · obtain ⟨t0, t1, ⟨t2, t3, t4, t5, t6⟩, ⟨u2, u3, u4, u5, u6⟩⟩ := hS; go_simp
                refine RegT.seqT_tail [10, 11] [_, _] rfl rfl _ _ ?_
                have HD := Lib.hid (HU.out.drew)
                clear y3 y3' e0 e1 e2 e3 e4 f0 f1 f2 f3 f4
                cases pp
                · have HF : Hid (T = false) := Lib.hid (by rw [← HT.out, HD1.out, HD2.out, sameVs_cons, ← HPP.out]; rfl)
                  go_wp2_with (go_at_call 23; refine (HCALL.out _ HD.out).mono ?_; rintro e w1 ⟨rfl, hb1⟩)
                  simp only [RegT.NP]
                  go_wp2_with fail
                  go_ret
                  rw [HF.out]
                  exact ⟨rfl, bnext HD.out hb1⟩
                · go_wp2_with (go_at_call 23; refine (HCALL.out _ HD.out).mono ?_; rintro e w1 ⟨rfl, hb1⟩)
                  simp only [RegT.NP]
                  go_wp2_with fail
                  go_roundw
                  case rel => exact ⟨j + 1, by omega, by go_num, by rw [← HT.out, HD1.out, HD2.out, sameVs_cons, ← HPP.out]; rfl, bnext HD.out hb1, HC.out.below (bnext ((Below.refl wr.heap.size wr).drew) hb1), HC'.out.below (bnext ((Below.refl wr.heap.size wr).drew) hb1)⟩
                  case measure => simp [intOf]; omega
              · obtain rfl : j = l.length := by omega
                have HF : Hid (T = true) := Lib.hid (by rw [← HT.out, List.drop_length, HLL.out, List.drop_length]; rfl)
                go_wp2_with fail
                go_ret
                rw [HF.out]
                exact ⟨rfl, HU.out⟩
          · have gl' : ((l.length : Int) != l'.length) = true := by simp; omega
            have HF : Hid (T = false) := Lib.hid (by
              rw [HTT.out, gk, gn, gs, gr]
              cases hs : sameVs l l'
              · rfl
              · exact absurd (sameVs_len l l' hs) gl)
            clear H7 H7' HI HQ HQ' HTT gl
            go_enter Try.func23, Try.ntmps23
            go_wp2_with fail
            go_ret
            rw [HF.out]
            exact ⟨rfl, HB0.out⟩
end Go.Proofs.Ytnknefdpglnbnaa
namespace Go.Proofs.Ytnknefdpglnbnaa
open Go.RowKit

def CopyC (x : Va) : Prop := ∀ (w : World) (B : Nat) (v : Value), IsVa w B v x → B ≤ w.heap.size →
  Calls Try.prog 104 #[v] w fun e w' => ∃ v', e = .returned v' ∧ IsVaR w' (RN 0 w.heap.size w') v' x ∧ Below w.heap.size w w'
set_option maxRecDepth 100000 in
set_option maxHeartbeats 1000000 in
theorem value104_any (x : Va) : CopyC x := by
  induction x using Va.ind with
  | h k n s l r IH =>
  intro w B v h hB
  have hlen := h.len
  obtain ⟨h1, h2, h3, h4, A, cap, h5, rfl, h7⟩ := h.form
  have H7 := Lib.hid h7
  have HI := Lib.hid IH
  obtain ⟨i0, hi, hz0, hz1, hz2⟩ := info_parts info34'
  have HIN := Lib.hid hi
  have HB0 := Lib.hid (((Below.refl w.heap.size w).alloc (Nat.le_refl _) (.cells #[.int .u8 k, .int .i64 n, .string s, .slice A l.length cap, .int .i64 r] 34)).alloc (by simp) (.cells zeroV 34))
  have HQ : Hid (BlkN ((w.alloc (.cells #[.int .u8 k, .int .i64 n, .string s, .slice A l.length cap, .int .i64 r] 34)).alloc (.cells zeroV 34)) w.heap.size 34 #[.int .u8 k, .int .i64 n, .string s, .slice A l.length cap, .int .i64 r]) := Lib.hid ((BlkN.at_ rfl _ _).alloc _)
  have HR : Hid (BlkN ((w.alloc (.cells #[.int .u8 k, .int .i64 n, .string s, .slice A l.length cap, .int .i64 r] 34)).alloc (.cells zeroV 34)) (w.heap.size + 1) 34 zeroV) := Lib.hid (BlkN.at_ (by simp) _ _)
  clear h h7 IH hi
  go_enter Try.func104, Try.ntmps104
  go_wp2_with fail
  go_loopw [3, 4] (fun sl i wr => ∃ j : Nat, j ≤ l.length ∧ i = .int .i64 j ∧ ∃ (xs : List Value), GRow RdV 34 5 wr 0 (w.heap.size + 1 + 1) sl (l.take j) xs ∧ Below w.heap.size w wr ∧ BlkN wr w.heap.size 34 #[.int .u8 k, .int .i64 n, .string s, .slice A l.length cap, .int .i64 r] ∧ BlkN wr (w.heap.size + 1) 34 zeroV) (fun _ i _ => l.length - (intOf i).toNat)
  case atStart => exact ⟨0, by omega, rfl, [], GRow.nil _ _ _ _ _ _, HB0.out, HQ.out, HR.out⟩
  case round =>
    obtain ⟨j, hj, rfl, xs, hv, hu, hb0, hb1⟩ := hrel
    have hvl : (l.take j).length = j := by simp; omega
    obtain ⟨A0, cap0, hsl, hcap0⟩ : ∃ A0 cap0, u3 = .slice A0 j cap0 ∧ j ≤ cap0 := by
      obtain ⟨A0, cap0, h1, h2, _⟩ := hv.list
      exact ⟨A0, cap0, by rw [h1, hvl], by omega⟩
    subst hsl
    have HV := Lib.hid hv
    have HU := Lib.hid hu
    have HC := Lib.hid hb0
    have HR1 := Lib.hid hb1
    have HVL := Lib.hid hvl
    have hsz := hb1.lt
    have y3 := hb0.cell 3 rfl
    clear hv hu hb0 hb1 hvl
    by_cases hlt : j < l.length
    · obtain ⟨b, o, hbB, hA, hx⟩ := H7.out (by rintro rfl; simp at hlt)
      subst hA
      obtain ⟨k', n', s', A', len', cap', r', hat, hx1⟩ := hx.at2 j hlt
      have hat' := hat.keep hbB (fun b hb => HU.out.block b (by omega))
      obtain ⟨e0, e1, e2, e3, e4⟩ := hat'.five
      have hcall := HI.out l[j] (List.getElem_mem hlt) wr B _ (IsVa.keep (fun b hb => HU.out.block b (by omega)) hx1) (Nat.le_trans hB HU.out.size)
      have HCALL := Lib.hid hcall
      clear hat hat' hx hx1 hcall
      go_wp2_with (first | (go_at_call 104; refine HCALL.out.mono ?_; rintro e w1 ⟨v', rfl, hv', hb1⟩; obtain ⟨k2, n2, s2, A2, len2, cap2, r2, rfl⟩ := hv'.shape; have hVR := HV.out.below hb1; have hAl : Below w1.heap.size w1 (w1.alloc (.cells #[.int .u8 k2, .int .i64 n2, .string s2, .slice A2 len2 cap2, .int .i64 r2] 34)) := (Below.refl _ _).alloc (Nat.le_refl _) _) | (refine wpList_append_row _ rfl (.tmp 12) (.tmp 19) 31 rfl (w.heap.size + 1 + 1) 34 i0 (.agg zeroV) 5 64 Try.underlying31 HIN.out hz0 hz1 hz2 rfl (by decide) (.slice A0 j cap0) j xs rfl ?hy1 ⟨w1.heap.size, 0, Option.none⟩ 1 1 [.int .u8 k2, .int .i64 n2, .string s2, .slice A2 len2 cap2, .int .i64 r2] rfl rfl ?hy2 ?hy3 ?hy4 ?hy5 ?hy6 ?_))
      case hy1 => have := (hVR.below hAl).1; rw [HVL.out] at this; exact this
      case hy2 => exact row_new _ _ _
      case hy3 => intro u hu; simp only [List.mem_cons, List.not_mem_nil, or_false] at hu; rcases hu with rfl | rfl | rfl | rfl | rfl <;> rfl
      case hy4 => unfold maxLen; omega
      case hy5 => omega
      case hy6 => have := hb1.size; simp; omega
      intro sl' w3 hown' hgrow hor
      have hob : ∀ g, (Value.slice A0 j cap0).ownBlock = some g → w.heap.size + 1 + 1 ≤ g ∧ g < wr.heap.size := fun g hg => HV.out.blk hg
      have hs1 := hb1.size
      have hU1 := bnext HU.out hb1
      have HV3 : Hid (GRow RdV 34 5 w3 0 (w.heap.size + 1 + 1) sl' (l.take j ++ [l[j]]) (xs ++ [.int .u8 k2, .int .i64 n2, .string s2, .slice A2 len2 cap2, .int .i64 r2])) := Lib.hid (
        GRow.push (hVR.below hAl) rfl ⟨_, _, _, _, _, rfl, IsVaR.mono (fun b o hr => hr.below hAl) (IsVaR.keep (fun b o hr => hAl.block b hr.2) hv')⟩ (by omega) (by omega) (fun g hg => (hob g hg).2) (by rw [HVL.out]; exact hown') hgrow (by simpa using hor))
      have hk3 : ∀ b, b < w1.heap.size → b < w.heap.size + 1 + 1 → w3.heap[b]? = w1.heap[b]? := fun b hb hb2 =>
        (hgrow.block b (by simp; omega) (fun e => by have := (hob b e.symm).1; omega)).trans (hAl.block b hb)
      have HU3 : Hid (Below w.heap.size w w3) := Lib.hid ((hU1.alloc hU1.size _).grown hgrow (by have := hU1.size; simp; omega) (fun g hg => by have := (hob g hg).1; omega))
      have H03 : Hid (BlkN w3 w.heap.size 34 #[.int .u8 k, .int .i64 n, .string s, .slice (some ⟨b, o, Option.none⟩) l.length cap, .int .i64 r]) := Lib.hid ((hk3 _ (by omega) (by omega)).trans (HC.out.below hb1))
      have H13 : Hid (BlkN w3 (w.heap.size + 1) 34 zeroV) := Lib.hid ((hk3 _ (by omega) (by omega)).trans (HR1.out.below hb1))
      clear hown' hgrow hor hk3 hob hU1 hVR hAl hv' hb1 e0 e1 e2 e3 e4
      go_wp2_with fail
      go_roundw
      case rel => exact ⟨j + 1, by omega, by go_num, _, by rw [take_snoc_get l j hlt]; exact HV3.out, HU3.out, H03.out, H13.out⟩
      case measure => simp [intOf]; omega
    · obtain rfl : j = l.length := by omega
      have d0 := HR1.out.cell 0 rfl
      have d1 := HR1.out.cell 1 rfl
      have d2 := HR1.out.cell 2 rfl
      have d3 := HR1.out.cell 3 rfl
      have d4 := HR1.out.cell 4 rfl
      have x0 := HR1.out.free 0
      have x1 := HR1.out.free 1
      have x2 := HR1.out.free 2
      have x3 := HR1.out.free 3
      have x4 := HR1.out.free 4
      have y0 := HC.out.cell 0 rfl
      have y1 := HC.out.cell 1 rfl
      have y2 := HC.out.cell 2 rfl
      have y4 := HC.out.cell 4 rfl
      have z3 := HC.out.free 3
      obtain ⟨m0, m1, m2, m3, m4⟩ := lts (show w.heap.size < wr.heap.size by omega)
      go_wp2_with fail
      obtain ⟨W5, hW5, g0, g1, g2, g3, g4, hk5, hbel5, hR5⟩ := res5 (HR1.out.setOther (q := ⟨w.heap.size, 3, Option.none⟩) (by simp) (.slice A0 l.length cap0)) (.int .u8 k) (.int .i64 n) (.string s) (.slice A0 l.length cap0) (.int .i64 r)
      rw [hW5]
      have hvf := ((HV.out.upd (p := w.heap.size) ((Upd.refl _ _).set 3 (.slice A0 l.length cap0)) (by omega) (by omega)).upd (p := w.heap.size + 1) (w' := W5) ⟨by rw [← hW5]; rfl, by rw [← hW5]; rfl, by rw [← hW5]; rfl, by rw [← hW5]; simp [World.setCell], fun k _ hk => hk5 k hk⟩ (by omega) (by omega))
      refine bodyPost_ret (v := .agg #[.int .u8 k, .int .i64 n, .string s, .slice A0 l.length cap0, .int .i64 r]) (by simp [results, Try.results104, go_sem, g0, g1, g2, g3, g4]) rfl ⟨_, rfl, ?_, hbel5 _ _ (by omega) (HU.out.setCell (p := ⟨w.heap.size, 3, Option.none⟩) (Nat.le_refl _) _)⟩
      rw [List.take_length] at hvf
      obtain ⟨A1, cap1, h1', h2', h3'⟩ := hvf.list
      unfold IsVaR
      refine ⟨h1, h2, h3, hlen, A1, cap1, h2', by rw [h1'], fun hne => ?_⟩
      obtain ⟨b', h4, h5, h6⟩ := h3' hne
      exact ⟨b', 0, h4.low (by omega), h5, (RdV.list h6).mono (fun b o hr => hr.low (by omega))⟩
end Go.Proofs.Ytnknefdpglnbnaa
