/- The program's copy of an expression, walked. -/
import Derived.Test.YtnknefdpglnbnaaDb
import Derived.Test.YtnknefdpglnbnaaCp
namespace Go.Proofs.Ytnknefdpglnbnaa
open Go.RowKit

/-- Elements of a row that are made the call's own, one behind the other. -/
def OwnTo {α : Type} (D : Rd α) (w : World) (lo B : Nat) (v : Value) (l : List α) (j i : Nat) (cs : List Value) : Prop :=
  ∃ hi : i < l.length, if i < j then D.P w (fun b o => OwnU lo w b o ∧ v.ownBlock ≠ some b) cs l[i] else D.P w (fun b _ => b < B) cs l[i]
theorem OwnTo.below {α : Type} {D : Rd α} {w w' : World} {lo B : Nat} {v : Value} {l : List α} {j i : Nat} {cs : List Value} (h : OwnTo D w lo B v l j i cs) (hB : B ≤ w.heap.size) (hb : Below w.heap.size w w') : OwnTo D w' lo B v l j i cs := by
  obtain ⟨hi, hp⟩ := h
  refine ⟨hi, ?_⟩
  by_cases hc : i < j
  · rw [if_pos hc] at hp ⊢
    exact D.mono (fun b o hr => ⟨hr.1.below hb, hr.2⟩) (D.keep (fun b o hr => hb.block b hr.1.lt) hp)
  · rw [if_neg hc] at hp ⊢
    exact D.keep (fun b o hr => hb.block b (Nat.lt_of_lt_of_le hr hB)) hp
/-- .. block g of the row alone being written. -/
theorem OwnTo.but {α : Type} {D : Rd α} {w w' : World} {lo B g : Nat} {v : Value} {l : List α} {j i : Nat} {cs : List Value} (h : OwnTo D w lo B v l j i cs) (hg : v.ownBlock = some g) (hB : B ≤ g) (hb : But g w w') : OwnTo D w' lo B v l j i cs := by
  obtain ⟨hi, hp⟩ := h
  refine ⟨hi, ?_⟩
  have hne : ∀ b, v.ownBlock ≠ some b → b ≠ g := fun b hv e => hv (by rw [hg, e])
  by_cases hc : i < j
  · rw [if_pos hc] at hp ⊢
    exact D.mono (fun b o hr => ⟨hr.1.of (hb.other b (hne b hr.2)), hr.2⟩) (D.keep (fun b o hr => hb.other b (hne b hr.2)) hp)
  · rw [if_neg hc] at hp ⊢
    exact D.keep (fun b o hr => hb.other b (by omega)) hp
theorem OwnTo.next {α : Type} {D : Rd α} {w : World} {lo B : Nat} {v : Value} {l : List α} {j i : Nat} {cs : List Value} (h : OwnTo D w lo B v l j i cs) (hij : i ≠ j) : OwnTo D w lo B v l (j + 1) i cs := by
  obtain ⟨hi, hp⟩ := h
  refine ⟨hi, ?_⟩
  by_cases hc : i < j
  · rw [if_pos hc] at hp
    rw [if_pos (by omega)]
    exact hp
  · rw [if_neg hc] at hp
    rw [if_neg (by omega)]
    exact hp
def ExprOwnC (x : Ex) : Prop := ∀ (w : World) (B : Nat) (v : Value), IsEx w B v x → B ≤ w.heap.size →
  Calls Try.prog 125 #[v] w fun e w' => ∃ v', e = .returned v' ∧ IsExR w' (OwnU w.heap.size w') v' x ∧ Below w.heap.size w w'
attribute [local irreducible] RegT.seqT RegT.seqM wpList
set_option maxRecDepth 100000 in
set_option maxHeartbeats 2000000 in
theorem ownExpr125_any (x : Ex) : ExprOwnC x := by
  induction x using Ex.ind with
  | h k n s l IH =>
  intro w B v h hB
  have hlen := h.len
  obtain ⟨h1, h2, h3, h4, A, cap, h5, rfl, h7⟩ := h.form
  have HI := Lib.hid IH
  obtain ⟨i0, hi, hz0, hz1, hz2⟩ := info_parts info26
  have HIN := Lib.hid hi
  have HB0 := Lib.hid (((Below.refl w.heap.size w).alloc (Nat.le_refl _) (.cells #[.int .u8 k, .int .i64 n, .string s, .slice A l.length cap] 26)).alloc (by simp) (.cells #[.int .u8 0, .int .i64 0, .string ⟨#[]⟩, .slice Option.none 0 0] 26))
  have HQ : Hid (BlkN ((w.alloc (.cells #[.int .u8 k, .int .i64 n, .string s, .slice A l.length cap] 26)).alloc (.cells #[.int .u8 0, .int .i64 0, .string ⟨#[]⟩, .slice Option.none 0 0] 26)) w.heap.size 26 #[.int .u8 k, .int .i64 n, .string s, .slice A l.length cap]) := Lib.hid ((BlkN.at_ rfl _ _).alloc _)
  have HR : Hid (BlkN ((w.alloc (.cells #[.int .u8 k, .int .i64 n, .string s, .slice A l.length cap] 26)).alloc (.cells #[.int .u8 0, .int .i64 0, .string ⟨#[]⟩, .slice Option.none 0 0] 26)) (w.heap.size + 1) 26 #[.int .u8 0, .int .i64 0, .string ⟨#[]⟩, .slice Option.none 0 0]) := Lib.hid (BlkN.at_ (by simp) _ _)
  have C149 := Lib.hid (fun w' (hb : Below w.heap.size w w') => Clone149_any l A cap w' B (Nat.le_trans hB hb.size) hlen h5 (fun hne => by obtain ⟨b, o, g1, g2, g3⟩ := h7 hne; exact ⟨b, o, g1, g2, IsExs.keep (fun b hb' => hb.block b (Nat.lt_of_lt_of_le hb' hB)) g1 g3⟩))
  clear h IH hi h7
  go_enter Try.func125, Try.ntmps125
  go_upto_region 2 with (go_at_call 149; refine (C149.out _ HB0.out).mono ?_; rintro e w1 ⟨v1, rfl, hv1, hb1⟩; obtain ⟨A1, cap1, rfl, hcap1⟩ := hv1.val; have hq1 := HQ.out.below hb1; have hr1 := HR.out.below hb1; have f3 := hq1.free 3; have d3 := hq1.cell 3 rfl; have hl1 := hr1.lt)
  obtain ⟨W2, hW2⟩ : ∃ W2, W2 = w1.setCell ⟨w.heap.size, 3, Option.none⟩ (.slice A1 l.length cap1) := ⟨_, rfl⟩
  rw [← hW2]
  have hq2 : BlkN W2 w.heap.size 26 #[.int .u8 k, .int .i64 n, .string s, .slice A1 l.length cap1] := by rw [hW2]; exact hq1.set 3 _
  have hr2 : BlkN W2 (w.heap.size + 1) 26 #[.int .u8 0, .int .i64 0, .string ⟨#[]⟩, .slice Option.none 0 0] := by rw [hW2]; exact hr1.setOther (by simp) _
  have hB2 : Below w.heap.size w W2 := by rw [hW2]; exact (bnext HB0.out hb1).setCell (Nat.le_refl _) _
  have hsz1 : w.heap.size + 1 + 1 ≤ ((w.alloc (.cells #[.int .u8 k, .int .i64 n, .string s, .slice A l.length cap] 26)).alloc (.cells #[.int .u8 0, .int .i64 0, .string ⟨#[]⟩, .slice Option.none 0 0] 26)).heap.size := by simp
  have hv2 : NRg 26 4 W2 (w.heap.size + 1 + 1) (.slice A1 l.length cap1) l.length (OwnTo RdE W2 (w.heap.size + 1 + 1) B (.slice A1 l.length cap1) l 0) := by
    have he : ((w.alloc (.cells #[.int .u8 k, .int .i64 n, .string s, .slice A l.length cap] 26)).alloc (.cells #[.int .u8 0, .int .i64 0, .string ⟨#[]⟩, .slice Option.none 0 0] 26)).heap.size = w.heap.size + 1 + 1 := by simp
    rw [he] at hv1
    have hu : Upd w.heap.size w1 W2 := by rw [hW2]; exact (Upd.refl _ _).set 3 _
    exact (hv1.upd hu (by omega)).imp fun i cs hi ⟨hi', hp⟩ => ⟨hi', by rw [if_neg (by omega)]; exact RdE.keep (fun b o hr => hu.block b (by omega) (by omega)) hp⟩
  have HQ2 := Lib.hid hq2
  have HR2 := Lib.hid hr2
  have HB2 := Lib.hid hB2
  have HV2 := Lib.hid hv2
  have q3 := hq2.cell 3 rfl
  have hl2 := hr2.lt
  clear hW2 hq1 hr1 f3 d3 hl1 hv1 hb1 hq2 hr2 hB2 hv2 HB0 HQ HR C149 hsz1
  go_wp2_with fail
  go_loopw [12] (fun i wr => ∃ j : Nat, j ≤ l.length ∧ i = .int .i64 j ∧ NRg 26 4 wr (w.heap.size + 1 + 1) (.slice A1 l.length cap1) l.length (OwnTo RdE wr (w.heap.size + 1 + 1) B (.slice A1 l.length cap1) l j) ∧ Below w.heap.size w wr ∧ BlkN wr w.heap.size 26 #[.int .u8 k, .int .i64 n, .string s, .slice A1 l.length cap1] ∧ BlkN wr (w.heap.size + 1) 26 #[.int .u8 0, .int .i64 0, .string ⟨#[]⟩, .slice Option.none 0 0]) (fun i _ => l.length - (intOf i).toNat)
  case atStart => exact ⟨0, by omega, rfl, HV2.out, HB2.out, HQ2.out, HR2.out⟩
  case round =>
    obtain ⟨j, hj, rfl, hv, hu, hb0, hb1⟩ := hrel
    have HV := Lib.hid hv
    have HU := Lib.hid hu
    have hus := hu.size
    by_cases hlt : j < l.length
    · obtain ⟨g, cap', cur, he, hlo, hcur, hcapc, hcs, hel⟩ := hv.open (by omega)
      simp only [Value.slice.injEq] at he
      obtain ⟨rfl, _, rfl⟩ := he
      obtain ⟨cs, hcl, hat, hi', hp⟩ := hel j hlt
      rw [if_neg (by omega)] at hp
      obtain ⟨c0, c1, c2, c3, rfl, hx⟩ := hp
      obtain ⟨k', n', s', A', len', cap'', rfl, rfl, rfl, rfl⟩ := hx.cells
      have hat0 : At wr g (0 + j * 4) [.int .u8 k', .int .i64 n', .string s', .slice A' len' cap''] := by rw [Nat.zero_add]; exact hat
      obtain ⟨e0, e1, e2, e3⟩ := hat.four
      have hcu : l.length * 4 ≤ cur.size := by rw [hcs]; exact Nat.mul_le_mul_right 4 hcapc
      have hgl := hcur.lt
      have hB2 : B ≤ wr.heap.size := Nat.le_trans hB hus
      have C125 := Lib.hid (fun w' (hb : Below wr.heap.size wr w') => HI.out l[j] (List.getElem_mem hlt) w' B _ (IsEx.keep (B := B) (fun b hb' => hb.block b (Nat.lt_of_lt_of_le hb' hB2)) hx) (Nat.le_trans hB2 hb.size))
      have HC := Lib.hid hb0
      have HR1 := Lib.hid hb1
      have HCU := Lib.hid hcur
      have hpl := hb1.lt
      clear hv hu hel hat hat0 hx hcur hb0 hb1
      go_upto_region 5 with (fail)
      obtain ⟨w1, hw1⟩ : ∃ w1, w1 = wr.alloc (.cells #[.int .u8 k', .int .i64 n', .string s', .slice A' len' cap''] 26) := ⟨_, rfl⟩
      rw [← hw1]
      have hb1 : Below wr.heap.size wr w1 := by rw [hw1]; exact (Below.refl _ _).alloc (Nat.le_refl _) _
      have hbp : BlkN w1 wr.heap.size 26 #[.int .u8 k', .int .i64 n', .string s', .slice A' len' cap''] := by rw [hw1]; exact BlkN.at_ rfl _ _
      have HB1 := Lib.hid hb1
      have HBP := Lib.hid hbp
      have hC1 : BlkN w1 w.heap.size 26 #[.int .u8 k, .int .i64 n, .string s, .slice (some ⟨g, 0, Option.none⟩) l.length cap1] := HC.out.below hb1
      have HC1 := Lib.hid hC1
      have hs1 := hb1.size
      clear hw1 hb1 hbp hC1 e0 e1 e2 e3
      refine RegT.region_mix (fun i => Nat.ble i 4) (fun W => BlkN W w.heap.size 26 #[.int .u8 k, .int .i64 n, .string s, .slice (some ⟨g, 0, Option.none⟩) l.length cap1] ∧ BlkN W wr.heap.size 26 #[.int .u8 k', .int .i64 n', .string s', .slice A' len' cap'']) [(true, 0), (true, 1), (true, 2), (true, 3), (false, 4), (false, 5), (false, 6)] rfl (by kernel_rfl) (by kernel_rfl) (by decide) ?_
      have hS0 : BlkN w1.drew w.heap.size 26 #[.int .u8 k, .int .i64 n, .string s, .slice (some ⟨g, 0, Option.none⟩) l.length cap1] ∧ BlkN w1.drew wr.heap.size 26 #[.int .u8 k', .int .i64 n', .string s', .slice A' len' cap''] := ⟨HC1.out, HBP.out⟩
      refine RegT.seqM_quiet hS0 rfl (fun _ _ _ h => h) (by kernel_rfl) (v := .pointer (some ⟨w.heap.size, 3, Option.none⟩)) (fun w' hS => ?_) ?_
      · go_simp
      refine RegT.seqM_quiet hS0 rfl (fun _ _ _ h => h) (by kernel_rfl) (v := .slice (some ⟨g, 0, Option.none⟩) l.length cap1) (fun w' hS => ?_) ?_
      · have hS : BlkN w' w.heap.size 26 #[.int .u8 k, .int .i64 n, .string s, .slice (some ⟨g, 0, Option.none⟩) l.length cap1] := hS.1; have t3 := hS.cell 3 rfl; go_simp
      refine RegT.seqM_quiet hS0 rfl (fun _ _ _ h => h) (by kernel_rfl) (v := .int .i64 j) (fun w' hS => ?_) ?_
      · go_simp
      refine RegT.seqM_quiet hS0 rfl (fun _ _ _ h => h) (by kernel_rfl) (v := .agg #[.int .u8 k', .int .i64 n', .string s', .slice A' len' cap'']) (fun w' hS => ?_) ?_
      · have hS : BlkN w' wr.heap.size 26 #[.int .u8 k', .int .i64 n', .string s', .slice A' len' cap''] := hS.2; have t0 := hS.cell 0 rfl; have t1 := hS.cell 1 rfl; have t2 := hS.cell 2 rfl; have t3 := hS.cell 3 rfl; go_simp
      refine RegT.seqM_held rfl ?_
      have HD : Hid (Below wr.heap.size wr w1.drew) := Lib.hid HB1.out.drew
      go_wp2_with (go_at_call 125; refine (C125.out _ HD.out).mono ?_; rintro e w3 ⟨v3, rfl, hx3, hb3⟩; obtain ⟨k2, n2, s2, A2, len2, cap2, rfl⟩ := hx3.shape)
      have hb13 : Below wr.heap.size wr w3 := bnext HD.out hb3
      have hs3 := hb13.size
      have hgc : BlkN w3 g 26 cur := HCU.out.below hb13
      have hg3 := hgc.lt
      have hX3 : IsExR w3 (OwnU wr.heap.size w3) (.agg #[.int .u8 k2, .int .i64 n2, .string s2, .slice A2 len2 cap2]) l[j] := exU.low hx3 hs1
      have HX3 := Lib.hid hX3
      have HB13 := Lib.hid hb13
      have HGC := Lib.hid hgc
      refine ⟨⟨HC.out.below hb13, (HBP.out.below (Below.refl _ _).drew).below hb3⟩, RegT.seqM_free rfl rfl ?_⟩
      clear hx3 hb3 hX3 hb13 hgc hS0 HCU HC1 HBP HB1 HD
      go_wp2_with fail
      refine RegT.seqM_free rfl rfl ?_
      refine wpList_store_part rfl 26 (.tmp 22) (.tmp 21) rfl i0 HIN.out g (j * 4) (.agg #[.int .u8 k2, .int .i64 n2, .string s2, .slice A2 len2 cap2]) [.int .u8 k2, .int .i64 n2, .string s2, .slice A2 len2 cap2] rfl rfl rfl 26 cur (cur.toList.take (j * 4) ++ ([.int .u8 k2, .int .i64 n2, .string s2, .slice A2 len2 cap2] : List Value) ++ cur.toList.drop (j * 4 + 4)).toArray HGC.out (by rw [hz1]; rfl) (show j * 4 + 4 ≤ cur.size by omega) (by intro u hu; simp only [List.mem_cons, List.not_mem_nil, or_false] at hu; rcases hu with rfl | rfl | rfl | rfl <;> rfl) rfl ?_
      intro w4 hB4 hbut
      have hgB : B ≤ g := by omega
      have hV4 : NRg 26 4 w4 (w.heap.size + 1 + 1) (.slice (some ⟨g, 0, Option.none⟩) l.length cap1) l.length (OwnTo RdE w4 (w.heap.size + 1 + 1) B (.slice (some ⟨g, 0, Option.none⟩) l.length cap1) l (j + 1)) := by
        refine NRg.store ((HV.out.below HB13.out).imp fun i cs hi hp => hp.below hB2 HB13.out) j hlt rfl HGC.out hB4 rfl (fun i ds hij hi hp => (hp.but rfl hgB hbut).next hij) ⟨hlt, ?_⟩
        rw [if_pos (by omega)]
        refine ⟨_, _, _, _, rfl, ?_⟩
        exact IsExR.mono (fun b o hr => ⟨(hr.of (hbut.other b (by have := hr.1; omega))).low (by omega), fun e => by have := hr.1; simp [Value.ownBlock] at e; omega⟩) (IsExR.keep (fun b o hr => hbut.other b (by have := hr.1; omega)) HX3.out)
      have HV4 := Lib.hid hV4
      have HU4 := Lib.hid (hbut.below (show w.heap.size ≤ g by omega) (bnext HU.out HB13.out))
      have HC4 : Hid (BlkN w4 w.heap.size 26 #[.int .u8 k, .int .i64 n, .string s, .slice (some ⟨g, 0, Option.none⟩) l.length cap1]) := Lib.hid ((hbut.other _ (by omega)).trans (HC.out.below HB13.out))
      have HR4 : Hid (BlkN w4 (w.heap.size + 1) 26 #[.int .u8 0, .int .i64 0, .string ⟨#[]⟩, .slice Option.none 0 0]) := Lib.hid ((hbut.other _ (by omega)).trans (HR1.out.below HB13.out))
      refine RegT.wpList_end (RegT.seqM_end ?_)
      simp only [RegT.NP]
      clear hV4 hbut hB4 HX3 HB13 HGC hg3 hs3 hs1 C125
      go_wp2_with fail
      go_roundw
      case rel => exact ⟨j + 1, by omega, by go_num, HV4.out, HU4.out, HC4.out, HR4.out⟩
      case measure => simp [intOf]; omega
    · obtain rfl : j = l.length := by omega
      go_upto_region 7 with (fail)
      refine wp_region_lit ?_
      refine wpList_load_blk rfl 26 (.tmp 1) rfl ⟨w.heap.size, 0, Option.none⟩ rfl (.agg #[.int .u8 k, .int .i64 n, .string s, .slice A1 l.length cap1]) (run_loadVar_blk Try.underlying26 HIN.out hb0 (by rw [hz1]; rfl)) ?_
      refine wpList_store_blk rfl 26 (.tmp 2) (.tmp 24) rfl i0 HIN.out (w.heap.size + 1) #[.int .u8 k, .int .i64 n, .string s, .slice A1 l.length cap1] rfl rfl 26 _ hb1 (by rw [hz1]; rfl) rfl (by intro u hu; simp only [List.mem_cons, List.not_mem_nil, or_false] at hu; rcases hu with rfl | rfl | rfl | rfl <;> rfl) ?_
      intro W6 hB6 hbut
      go_wp2_with fail
      refine bodyPost_ret (results_cell1 (s := 2) (b := w.heap.size + 1) rfl Try.underlying26 HIN.out rfl hB6 (by rw [hz1]; rfl)) rfl ⟨_, rfl, ?_, hbut.below (by omega) HU.out⟩
      unfold IsExR
      refine ⟨h1, h2, h3, hlen, A1, cap1, hcap1, rfl, fun hne => ?_⟩
      have hpos : 0 < l.length := List.length_pos_iff.2 hne
      obtain ⟨g, cap', cur, he, hlo, hcur, hcapc, hcs, hel⟩ := hv.open hpos
      simp only [Value.slice.injEq] at he
      obtain ⟨rfl, _, rfl⟩ := he
      have hup := hbut.toUpd
      have hk : ∀ b o, OwnU (w.heap.size + 1 + 1) wr b o → W6.heap[b]? = wr.heap[b]? := fun b o hr => hup.block b hr.lt (by have := hr.1; omega)
      refine ⟨g, 0, (show OwnU (w.heap.size + 1 + 1) W6 g 0 from ⟨hlo, cur, 26, (hup.block g hcur.lt (by omega)).trans hcur⟩).low (by omega), rfl, RdE.list fun i hi => ?_⟩
      obtain ⟨cs, hcl, hat, hi', hp⟩ := hel i hi
      rw [if_pos hi] at hp
      refine ⟨cs, hcl, by rw [Nat.zero_add]; exact fun q u hu => (World.cell?_of_block (w := wr) (hup.block g hcur.lt (by omega))).trans (hat q u hu), ?_⟩
      exact RdE.mono (fun b o hr => (hr.1.of (hk b o hr.1)).low (by omega)) (RdE.keep (fun b o hr => hk b o hr.1) hp)
end Go.Proofs.Ytnknefdpglnbnaa
