/- Texts cloned; the program's copy of a code, given that of its statements. -/
import Derived.Test.YtnknefdpglnbnaaDc
namespace Go.Proofs.Ytnknefdpglnbnaa
open Go.RowKit

set_option maxRecDepth 100000 in
set_option maxHeartbeats 1000000 in
theorem Clone126_any (l : List ByteArray) (A : Option Addr) (len cap : Nat) (w : World) (B : Nat) (_hB : B ≤ w.heap.size) (h : IsSs w B (.slice A len cap) l) :
    Calls Try.prog 126 #[.slice A len cap] w fun e w' => ∃ A' cap', e = .returned (.slice A' l.length cap') ∧ IsSsR w' (OwnU w.heap.size w') (.slice A' l.length cap') l ∧ Below w.heap.size w w' := by
  obtain ⟨i0, hi, hz0, hz1, hz2⟩ := info_parts info9
  have HIN := Lib.hid hi
  obtain ⟨hl16, hsz, A', cap', hcap, he, hA⟩ := h
  simp only [Value.slice.injEq] at he
  obtain ⟨rfl, rfl, rfl⟩ := he
  clear hi
  cases A with
  | none =>
    have hl0 : l = [] := by
      cases l with
      | nil => rfl
      | cons x l => obtain ⟨_, _, _, hA, _⟩ := hA (by simp); cases hA
    subst hl0
    have heq := fun w => Lib.run_eql_slice_nil (P := Try.prog) w 56 9 Option.none 0 cap 0 0 Try.underlying56
    go_enter Try.func126, Try.ntmps126
    go_wp2_with fail
    go_ret
    exact ⟨Option.none, 0, rfl, ⟨by simp, by simp, Option.none, 0, Nat.le_refl _, rfl, fun h => absurd rfl h⟩, Below.refl _ _⟩
  | some ad =>
    have heq := fun w => Lib.run_eql_slice_nil (P := Try.prog) w 56 9 (some ad) l.length cap 0 0 Try.underlying56
    have e2 : ∀ q u, (l.map Value.string)[q]? = some u → w.cell? (ad.add q) = some u := by
      intro q u hu
      have hj' : q < l.length := by have := (List.getElem?_eq_some_iff.1 hu).1; simpa using this
      obtain ⟨b, o, hb, hAe, hp⟩ := hA (by rintro rfl; simp at hj')
      cases hAe
      rw [show (⟨b, o, Option.none⟩ : Addr).add q = ⟨b, o + q, Option.none⟩ from by unfold Addr.add; split <;> simp_all]
      rw [hp q hj']
      simp [List.getElem?_eq_getElem hj'] at hu
      rw [hu]
    have e3 : ∀ u ∈ l.map Value.string, u.oneCell' = true := by
      intro u hu
      obtain ⟨t, _, rfl⟩ := List.mem_map.1 hu
      rfl
    have E2 := Lib.hid e2
    have E3 := Lib.hid e3
    have HS := Lib.hid hsz
    have hba : Below w.heap.size w (w.alloc (.cells #[] 9)) := (Below.refl _ _).alloc (Nat.le_refl _) _
    have HBA := Lib.hid hba
    have hown : (w.alloc (.cells #[] 9)).ownsRow w.heap.size 9 1 (.slice (some ⟨w.heap.size, 0, Option.none⟩) 0 0) 0 [] := ⟨rfl, .inr ⟨w.heap.size, 0, #[], rfl, Nat.le_refl _, (BlkN.at_ (w := w) rfl 9 #[]), Nat.le_refl _, by unfold maxLen; omega, rfl, rfl⟩⟩
    have HOWN := Lib.hid hown
    clear e2 e3 hba hown hA hsz
    go_enter Try.func126, Try.ntmps126
    go_wp2_with (refine wpList_append_row _ rfl (.tmp 5) (.tmp 6) 56 rfl w.heap.size 9 i0 _ 1 16 Try.underlying56 HIN.out hz0 hz1 hz2 rfl (by decide) (.slice (some ⟨w.heap.size, 0, Option.none⟩) 0 0) 0 [] rfl HOWN.out ad l.length cap (l.map Value.string) rfl (by simp) ?hy2 E3.out ?hy4 ?hy5 ?hy6 ?_)
    case hy2 =>
      intro j u hu
      have h1 := E2.out j u hu
      exact (HBA.out.cell (p := ad.add j) (block_lt_of_cell h1)).trans h1
    case hy4 => unfold maxLen; omega
    case hy5 => omega
    case hy6 => simp
    intro v' w3 hown' hgrow hor
    have hb3 : Below w.heap.size w w3 := HBA.out.grown hgrow (by simp) (fun g hg => by simp [Value.ownBlock] at hg; omega)
    have hss : IsSsR w3 (OwnU w.heap.size w3) v' l := IsSsR_of_own (by simpa using hown') (by omega) HS.out
    have hss' := hss
    obtain ⟨_, _, A2, cap2, _, rfl, _⟩ := hss'
    have HB3 := Lib.hid hb3
    have HO := Lib.hid hss
    clear hown' hgrow hor hb3 hss
    go_wp2_with fail
    go_ret
    exact ⟨A2, cap2, rfl, HO.out, HB3.out⟩
def StmtOwnC (x : St) : Prop := ∀ (w : World) (B : Nat) (s : SV), IsSt w B s x → B ≤ w.heap.size →
  Calls Try.prog 93 #[.agg s.arr] w fun e w' => ∃ s' : SV, e = .returned (.agg s'.arr) ∧ IsStR w' (OwnU w.heap.size w') s' x ∧ Below w.heap.size w w'
def CodeOwnC (l : List St) : Prop := ∀ (w : World) (B : Nat) (A : Option Addr) (len cap : Nat), LR (fun b _ => b < B) 256 A len cap l (fun b o => IsSts w B b o l) → B ≤ w.heap.size →
  Calls Try.prog 95 #[.slice A len cap] w fun e w' => ∃ A' cap', e = .returned (.slice A' l.length cap') ∧ LR (OwnU w.heap.size w') 256 A' l.length cap' l (fun b o => IsStsR w' (OwnU w.heap.size w') b o l) ∧ Below w.heap.size w w'
attribute [local go_sem] SV.g0 SV.g1 SV.g2 SV.g3 SV.g4 SV.g5 SV.g6 SV.g7 SV.g8 SV.g9 SV.g10 SV.g11 SV.g12 SV.g13 SV.g14 SV.g15 SV.g16
attribute [local irreducible] wpList
set_option maxRecDepth 100000 in
set_option maxHeartbeats 2000000 in
theorem own95_step (l : List St) (IH : ∀ x ∈ l, StmtOwnC x) : CodeOwnC l := by
  intro w B A len cap hl hB
  obtain ⟨rfl, hcap, hlen, h7⟩ := hl
  have HI := Lib.hid IH
  obtain ⟨i0, hi, hz0, hz1, hz2⟩ := info_parts info58
  have HIN := Lib.hid hi
  have C127 := Lib.hid (Clone127_any l A cap w B hB hlen hcap h7)
  have hll : l.length ≤ 140737488351232 := by omega
  clear IH hi h7
  go_enter Try.func95, Try.ntmps95
  go_wp2_with (go_at_call 127; refine C127.out.mono ?_; rintro e w1 ⟨v1, rfl, hv1, hb1⟩; obtain ⟨A1, cap1, rfl, hcap1⟩ := hv1.val)
  have HV0 : Hid (NRg 58 17 w1 w.heap.size (.slice A1 l.length cap1) l.length (OwnTo RdS w1 w.heap.size B (.slice A1 l.length cap1) l 0)) := Lib.hid (hv1.imp fun i cs hi ⟨hi', hp⟩ => ⟨hi', by rw [if_neg (by omega)]; exact hp⟩)
  have HB0 := Lib.hid hb1
  clear hv1 hb1 C127
  go_loopw [9] (fun i wr => ∃ j : Nat, j ≤ l.length ∧ i = .int .i64 j ∧ NRg 58 17 wr w.heap.size (.slice A1 l.length cap1) l.length (OwnTo RdS wr w.heap.size B (.slice A1 l.length cap1) l j) ∧ Below w.heap.size w wr) (fun i _ => l.length - (intOf i).toNat)
  case atStart => exact ⟨0, by omega, rfl, HV0.out, HB0.out⟩
  case round =>
    obtain ⟨j, hj, rfl, hv, hu⟩ := hrel
    have HV := Lib.hid hv
    have HU := Lib.hid hu
    have hus := hu.size
    by_cases hlt : j < l.length
    · obtain ⟨g, cap', cur, he, hlo, hcur, hcapc, hcs, hel⟩ := hv.open (by omega)
      simp only [Value.slice.injEq] at he
      obtain ⟨rfl, _, rfl⟩ := he
      obtain ⟨cs, hcl, hat, hi', hp⟩ := hel j hlt
      rw [if_neg (by omega)] at hp
      obtain ⟨s, rfl, hx⟩ := hp
      have HAT := Lib.hid hat
      have hcu : l.length * 17 ≤ cur.size := by rw [hcs]; exact Nat.mul_le_mul_right 17 hcapc
      have hgl := hcur.lt
      have hB2 : B ≤ wr.heap.size := Nat.le_trans hB hus
      have C93 := Lib.hid (fun w' (hb : Below wr.heap.size wr w') => HI.out l[j] (List.getElem_mem hlt) w' B s (IsSt.keep (B := B) (fun b hb' => hb.block b (Nat.lt_of_lt_of_le hb' hB2)) hx) (Nat.le_trans hB2 hb.size))
      have HCU := Lib.hid hcur
      clear hv hu hel hat hx hcur
      go_upto_region 5 with (first | (refine wpList_load_blk rfl 58 (.tmp 12) rfl ⟨g, j * 17, Option.none⟩ rfl (.agg s.arr) (run_loadVar_at Try.underlying58 HIN.out HAT.out (by rw [hz1]; rfl)) ?_) | (refine wpList_store_blk rfl 58 (.tmp 4) (.tmp 13) rfl i0 HIN.out wr.heap.size s.arr rfl rfl 58 SV.zero.arr (BlkN.at_ rfl 58 SV.zero.arr) (by rw [hz1]; rfl) rfl (SV.one _) ?_; intro w2 hB1 hbut))
      have hb1 : Below wr.heap.size wr w2 := hbut.below (Nat.le_refl _) ((Below.refl _ _).alloc (Nat.le_refl _) _)
      have HB1 := Lib.hid hb1
      have HBP := Lib.hid hB1
      clear hB1 hbut hb1 HAT
      refine wp_region_lit ?_
      iterate 2 (refine wpList_move rfl _ rfl ?_)
      refine wpList_load_blk rfl 58 (.tmp 4) rfl ⟨wr.heap.size, 0, Option.none⟩ rfl (.agg s.arr) (run_loadVar_blk Try.underlying58 HIN.out HBP.out (by rw [hz1]; rfl)) ?_
      go_wp2_with (first | (go_at_call 93; refine (C93.out _ HB1.out).mono ?_; rintro e w3 ⟨s3, rfl, hx3, hb3⟩; have hb13 : Below wr.heap.size wr w3 := bnext HB1.out hb3; have hgc : BlkN w3 g 58 cur := HCU.out.below hb13; have hg3 := hgc.lt; have hs13 := HB1.out.size) | (refine wpList_store_part rfl 58 (.tmp 18) (.tmp 17) rfl i0 HIN.out g (j * 17) (.agg s3.arr) s3.arr.toList rfl rfl rfl 58 cur (cur.toList.take (j * 17) ++ s3.arr.toList ++ cur.toList.drop (j * 17 + s3.arr.toList.length)).toArray hgc (by rw [hz1]; rfl) (show j * 17 + 17 ≤ cur.size by omega) (SV.one _) rfl ?_; intro w4 hB4 hbut))
      have hgB : B ≤ g := by omega
      have hV4 : NRg 58 17 w4 w.heap.size (.slice (some ⟨g, 0, Option.none⟩) l.length cap1) l.length (OwnTo RdS w4 w.heap.size B (.slice (some ⟨g, 0, Option.none⟩) l.length cap1) l (j + 1)) := by
        refine NRg.store ((HV.out.below hb13).imp fun i cs hi hp => hp.below hB2 hb13) j hlt rfl hgc hB4 rfl (fun i ds hij hi hp => (hp.but rfl hgB hbut).next hij) ⟨hlt, ?_⟩
        rw [if_pos (by omega)]
        exact ⟨s3, rfl, IsStR.mono (fun b o hr => ⟨(hr.of (hbut.other b (by have := hr.1; omega))).low (by omega), fun e => by have := hr.1; simp [Value.ownBlock] at e; omega⟩) (IsStR.keep (fun b o hr => hbut.other b (by have := hr.1; omega)) hx3)⟩
      exact ⟨⟨j + 1, by omega, by go_num, hV4, hbut.below hlo (bnext HU.out hb13)⟩, by simp [intOf]; omega⟩
    · obtain rfl : j = l.length := by omega
      go_wp2_with fail
      go_ret
      refine ⟨A1, cap1, rfl, ⟨rfl, hcap1, hlen, fun hne => ?_⟩, HU.out⟩
      have hpos : 0 < l.length := List.length_pos_iff.2 hne
      obtain ⟨g, cap', cur, he, hlo, hcur, hcapc, hcs, hel⟩ := HV.out.open hpos
      simp only [Value.slice.injEq] at he
      obtain ⟨rfl, _, rfl⟩ := he
      refine ⟨g, 0, ⟨hlo, cur, 58, hcur⟩, rfl, RdS.list fun i hi => ?_⟩
      obtain ⟨cs, hcl, hat, hi', hp⟩ := hel i hi
      rw [if_pos hi] at hp
      exact ⟨cs, hcl, by rw [Nat.zero_add]; exact hat, RdS.mono (fun b o hr => hr.1) hp⟩
end Go.Proofs.Ytnknefdpglnbnaa
