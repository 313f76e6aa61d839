/- The walk of a code whose lists lie at places of R. -/
import Derived.Test.YtnknefdpglnbnaaZf
namespace Go.Proofs.Ytnknefdpglnbnaa
open Go.RowKit

theorem at_keep1 {w w' : World} {b o : Nat} {cs : List Value} (h : At w b o cs) (hk : w'.heap[b]? = w.heap[b]?) : At w' b o cs := fun j u hu => (World.cell?_of_block (a := ⟨b, o + j, Option.none⟩) hk).trans (h j u hu)
/-- A function that is told statements: it keeps I while it answers true; where it answers false, S holds. -/
structure TellerS (k : Nat) (caps : Array Value) (O : Nat → Prop) (I S : List (Int × St) → World → Prop) (R : Nat → Nat → Prop) (p : Nat) (w0 : World) : Prop where
  cf : ∀ args w, (callFunc k args).run Try.prog w = .ok (.enter k args) w
  own : ∀ b, O b → b < w0.heap.size
  ownp : ¬ O p
  size : ∀ told w, I told w → w0.heap.size ≤ w.heap.size
  keep : ∀ told w, I told w → ∀ b o, R b o → w.heap[b]? = w0.heap[b]?
  mono : ∀ told w w', I told w → Upd p w w' → I told w'
  call : ∀ told d x s w, I told w → IsStR w R s x → told.length ≤ 512 → 0 ≤ d → d ≤ 513 → Calls Try.prog k (#[.int .i64 (told.length : Nat), .int .i64 d, .agg s.arr] ++ caps) w fun e w' =>
    ∃ ok : Bool, e = .returned (.bool ok) ∧ (ok = true → I (told ++ [(d, x)]) w' ∧ w'.heap[p]? = w.heap[p]? ∧ Kp O p w w') ∧ (ok = false → S (told ++ [(d, x)]) w')
def WalkSC (k : Nat) (caps : Array Value) (O : Nat → Prop) (I S : List (Int × St) → World → Prop) (R : Nat → Nat → Prop) (p : Nat) (l : List St) : Prop :=
  ∀ (w : World) (A : Option Addr) (len cap : Nat) (d : Int) (told : List (Int × St)), LR R 256 A len cap l (fun b o => IsStsR w R b o l) → I told w → Blk w p 3 (.int .i64 (told.length : Nat)) → 0 ≤ d → d ≤ told.length → told.length ≤ 513 →
    Calls Try.prog 74 #[.slice A len cap, .int .i64 d, .pointer (some ⟨p, 0, Option.none⟩), .func (.func k) #[] caps] w fun e w' => WPost O I S p w told (flats l d) e w'
attribute [local go_sem] SV.g0 SV.g1 SV.g2 SV.g3 SV.g4 SV.g5 SV.g6 SV.g7 SV.g8 SV.g9 SV.g10 SV.g11 SV.g12 SV.g13 SV.g14 SV.g15 SV.g16
attribute [local irreducible] wpList
/-- The blocks of a statement are walked as they must be. -/
def DnS (k : Nat) (caps : Array Value) (O : Nat → Prop) (I S : List (Int × St) → World → Prop) (R : Nat → Nat → Prop) (p : Nat) : St → Prop
  | .mk _ _ _ _ _ _ _ t e c _ => WalkSC k caps O I S R p t ∧ WalkSC k caps O I S R p e ∧ WalkSC k caps O I S R p c
set_option maxRecDepth 100000 in
set_option maxHeartbeats 4000000 in
theorem walkS_list (k : Nat) (caps : Array Value) (O : Nat → Prop) (I S : List (Int × St) → World → Prop) (R : Nat → Nat → Prop) (p : Nat) (w0 : World) (hT : TellerS k caps O I S R p w0) (l : List St) (hD : ∀ x ∈ l, DnS k caps O I S R p x) : WalkSC k caps O I S R p l := by
  intro w A len cap d told hl hI hn hd0 hd1 hlen
  obtain ⟨rfl, hcap, hbytes, hA⟩ := hl
  have hcf := hT.cf
  have HT := Lib.hid hT
  have HA := Lib.hid hA
  have HD := Lib.hid hD
  have HI := Lib.hid hI
  have HN := Lib.hid hn
  have hll : l.length ≤ 140737488351232 := by omega
  obtain ⟨i0, hi, hz0, hz1, hz2⟩ := info_parts info58
  clear hT hA hD hI hn hbytes
  go_enter Try.func74, Try.ntmps74
  go_wp2_with fail
  go_loopw [16] (fun i wr => ∃ j : Nat, j ≤ l.length ∧ i = .int .i64 j ∧ I (told ++ flats (l.take j) d) wr ∧ Blk wr p 3 (.int .i64 ((told ++ flats (l.take j) d).length : Nat)) ∧ (told ++ flats (l.take j) d).length ≤ 513 ∧ Kp O p w wr) (fun i _ => l.length - (intOf i).toNat)
  case atStart => exact ⟨0, Nat.zero_le _, rfl, by simpa [flats] using HI.out, by simpa [flats] using HN.out, by simpa [flats] using hlen, Kp.refl⟩
  case round =>
    obtain ⟨j, hj, rfl, hIr, hNr, hlr, hkp⟩ := hrel
    have HKP := Lib.hid hkp
    clear hkp
    by_cases hlt : j < l.length
    · obtain ⟨b, o, hbB, hAe, hx⟩ := HA.out (by rintro rfl; simp at hlt)
      obtain ⟨s, hat, hs⟩ := hx.at j hlt
      have hkr : ∀ b o, R b o → wr.heap[b]? = w.heap[b]? := fun b o hb => (HT.out.keep _ _ hIr b o hb).trans (HT.out.keep _ _ HI.out b o hb).symm
      have HAT := Lib.hid (at_keep1 hat (hkr _ _ hbB))
      have HS := Lib.hid (IsStR.keep hkr hs)
      obtain ⟨x, hxe⟩ : ∃ x, x = l[j] := ⟨_, rfl⟩
      have HX := Lib.hid hxe
      rw [← hxe] at HS
      have HF := Lib.hid (flats_split l d j hlt)
      have HFT := Lib.hid (flats_take l d j hlt)
      rw [← hxe] at HF HFT
      obtain ⟨T0, hT0⟩ : ∃ T0, T0 = flats (l.take j) d := ⟨_, rfl⟩
      rw [← hT0] at hIr hNr hlr HF HFT
      obtain ⟨n, hn⟩ : ∃ n, n = (told ++ T0).length := ⟨_, rfl⟩
      rw [← hn] at hNr hlr
      have HNE := Lib.hid hn
      have HIR := Lib.hid hIr
      have HNR := Lib.hid hNr
      have hdn : d ≤ (n : Int) := by rw [hn]; simp; omega
      have hplt := hNr.lt
      subst hAe
      clear hxe hT0 hn hIr hNr hat hs hx hkr
      go_upto_region 4 with (first | (refine wpList_load_blk rfl 58 (.tmp 18) rfl ⟨b, o + j * 17, Option.none⟩ rfl (.agg s.arr) (run_loadVar_at Try.underlying58 hi HAT.out (by rw [hz1]; rfl)) ?_) | (refine wpList_store_blk rfl 58 (.tmp 10) (.tmp 19) rfl i0 hi wr.heap.size s.arr rfl rfl 58 SV.zero.arr (BlkN.at_ rfl 58 SV.zero.arr) (by rw [hz1]; rfl) rfl (SV.one _) ?_; intro w1 hB1 hbut))
      have hU1 : Upd p wr w1 := hbut.upd (Nat.le_refl _) ((Upd.refl p wr).alloc _)
      have HI1 := Lib.hid (HT.out.mono _ _ _ HIR.out hU1)
      have hN1 : Blk w1 p 3 (.int .i64 (n : Nat)) := (hbut.other _ (Nat.ne_of_lt hplt)).trans (HNR.out.alloc _)
      have HS1 := Lib.hid (IsStR.keep (fun b o hb => (HT.out.keep _ _ HI1.out b o hb).trans (HT.out.keep _ _ HIR.out b o hb).symm) HS.out)
      have HB1 := Lib.hid hB1
      have HN1 := Lib.hid hN1
      have hpc := hN1.cell
      have hpf := hN1.free
      have hplt1 := hN1.lt
      have hblt1 := hB1.lt
      have HU1 := Lib.hid hU1
      clear hB1 hbut hU1 hN1
      by_cases hn5 : n ≤ 512
      · have hcf := HT.out.cf
        have hdec : decide ((512 : Int) < (n : Int)) = false := by simp; omega
        have hTl : (told ++ T0).length = n := HNE.out.symm
        have HB1' := Lib.hid (HB1.out.setOther (q := ⟨p, 0, Option.none⟩) (by simp; omega) (.int .i64 ((n : Int) + 1)))
        have HN1' := Lib.hid (HN1.out.set (.int .i64 ((n : Int) + 1)))
        have HU1' := Lib.hid ((Upd.refl p w1).set 0 (.int .i64 ((n : Int) + 1)))
        have HI1' := Lib.hid (HT.out.mono _ _ _ HI1.out HU1'.out)
        have HS1' := Lib.hid (IsStR.keep (fun b o hb => (HT.out.keep _ _ HI1'.out b o hb).trans (HT.out.keep _ _ HI1.out b o hb).symm) HS1.out)
        have HC := Lib.hid (HT.out.call _ d x s _ HI1'.out HS1'.out (by omega) hd0 (by omega))
        rw [hTl] at HC
        clear hTl
        go_upto_region 8 with (first | (refine wpList_load_g rfl 58 (.tmp 10) rfl ⟨wr.heap.size, 0, Option.none⟩ rfl (.agg s.arr) (run_loadVar_blk Try.underlying58 hi HB1'.out (by rw [hz1]; rfl)) ?_) | (refine (HC.out).mono ?_; rintro e w2 ⟨ok, rfl, hok1, hok2⟩))
        · have hok : ok = false := by first | assumption | simp_all
          go_ret
          exact ⟨false, rfl, (fun h => nomatch h), fun _ => stop_at HF.out (hok2 hok)⟩
        have hok : ok = true := by first | assumption | simp_all
        obtain ⟨hi2, hp2, hk2⟩ := hok1 hok
        have HI2 := Lib.hid hi2
        clear hi2
        subst hok
        rw [Bool.not_true]
        have HN2 : Hid (Blk w2 p 3 (.int .i64 ((n : Int) + 1))) := Lib.hid (hp2.trans HN1'.out)
        have hfr : ¬ O wr.heap.size := fun ho => absurd (HT.out.own _ ho) (Nat.not_lt.2 (HT.out.size _ _ HIR.out))
        have hB2 : BlkN w2 wr.heap.size 58 s.arr := (hk2.block _ HB1'.out.lt hfr (Nat.ne_of_gt hplt)).trans HB1'.out
        have HS2 := Lib.hid (IsStR.keep (fun b o hb => (HT.out.keep _ _ HI2.out b o hb).trans (HT.out.keep _ _ HI1'.out b o hb).symm) HS1'.out)
        have HKP2 : Hid (Kp O p w w2) := Lib.hid ((HKP.out.trans (Kp.refl.upd (HU1.out.trans HU1'.out))).trans hk2)
        have q13 := hB2.cell 13 s.at13
        have q14 := hB2.cell 14 s.at14
        have q15 := hB2.cell 15 s.at15
        have hblt2 := hB2.lt
        have hplt2 := HN2.out.lt
        clear hok1 hok2 hp2 hk2 hB2 hpc hpf hblt1 hplt1 hdec hcf hfr
        have hD3 : DnS k caps O I S R p x := by rw [HX.out]; exact HD.out _ (List.getElem_mem hlt)
        obtain ⟨op, nm, sec, ab, wh, xa, xb, t, e, c, ws⟩ := x
        obtain ⟨hDt, hDe, hDc⟩ := hD3
        have HDt := Lib.hid hDt
        have HDe := Lib.hid hDe
        have HDc := Lib.hid hDc
        obtain ⟨T1, hT1⟩ : ∃ T1, T1 = (told ++ T0) ++ [(d, St.mk op nm sec ab wh xa xb t e c ws)] := ⟨_, rfl⟩
        have hT1l : T1.length = n + 1 := by rw [hT1, List.length_append, ← HNE.out]; rfl
        rw [← hT1] at HI2
        have HT1 := Lib.hid hT1
        have HT1l := Lib.hid hT1l
        have HFq : Hid (flats (l.take (j + 1)) d = T0 ++ ((d, St.mk op nm sec ab wh xa xb t e c ws) :: bl3 t e c (d + 1) 3)) := Lib.hid (by rw [HFT.out]; rfl)
        clear hDt hDe hDc hT1 hT1l
        go_wp2_with fail
        have hU3 : Upd p w2 (w2.alloc (.cells #[.slice s.tA s.tl s.tc, .slice s.eA s.el s.ec, .slice s.cA s.cl s.cc] 42)) := (Upd.refl p w2).alloc _
        obtain ⟨w3, hw3⟩ : ∃ w3, w3 = w2.alloc (.cells #[.slice s.tA s.tl s.tc, .slice s.eA s.el s.ec, .slice s.cA s.cl s.cc] 42) := ⟨_, rfl⟩
        have hB3 : BlkN w3 w2.heap.size 42 #[.slice s.tA s.tl s.tc, .slice s.eA s.el s.ec, .slice s.cA s.cl s.cc] := by rw [hw3]; exact BlkN.at_ rfl _ _
        rw [← hw3] at hU3 ⊢
        have HB3 := Lib.hid hB3
        have HI3 := Lib.hid (HT.out.mono _ _ _ HI2.out hU3)
        have HS3 := Lib.hid (IsStR.keep (fun b o hb => (HT.out.keep _ _ HI3.out b o hb).trans (HT.out.keep _ _ HI2.out b o hb).symm) HS2.out)
        have HN3 : Hid (Blk w3 p 3 (.int .i64 (T1.length : Nat))) := Lib.hid (by rw [HT1l.out, hw3]; exact HN2.out.alloc _)
        have HKP3 := Lib.hid (HKP2.out.upd hU3)
        have HOF : Hid (¬ O w2.heap.size) := Lib.hid fun ho => absurd (HT.out.own _ ho) (Nat.not_lt.2 (HT.out.size _ _ HI2.out))
        have HPF : Hid (w2.heap.size ≠ p) := Lib.hid (Nat.ne_of_gt hplt2)
        clear hU3 hw3 hB3 q13 q14 q15 hblt2 hplt2
        go_loopw [46] (fun i wq => ∃ q : Nat, q ≤ 3 ∧ i = .int .i64 q ∧ I (T1 ++ bl3 t e c (d + 1) q) wq ∧ Blk wq p 3 (.int .i64 ((T1 ++ bl3 t e c (d + 1) q).length : Nat)) ∧ (T1 ++ bl3 t e c (d + 1) q).length ≤ 513 ∧ Kp O p w3 wq) (fun i _ => 3 - (intOf i).toNat)
        case atStart => exact ⟨0, by omega, rfl, by simpa [bl3] using HI3.out, by simpa [bl3] using HN3.out, by simp [bl3, HT1l.out]; omega, Kp.refl⟩
        case round =>
          obtain ⟨q, hq, rfl, hIq, hNq, hlq, hkq⟩ := hrel
          have HIQ := Lib.hid hIq
          have HNQ := Lib.hid hNq
          have HLQ := Lib.hid hlq
          have HKQ := Lib.hid hkq
          have hBq : BlkN wr w2.heap.size 42 #[.slice s.tA s.tl s.tc, .slice s.eA s.el s.ec, .slice s.cA s.cl s.cc] := (hkq.block _ HB3.out.lt HOF.out HPF.out).trans HB3.out
          have HSQ := Lib.hid (IsStR.keep (fun b o hb => (HT.out.keep _ _ HIQ.out b o hb).trans (HT.out.keep _ _ HI3.out b o hb).symm) HS3.out)
          obtain ⟨_, _, _, _, gt, ge, gc, _⟩ := HSQ.out.form
          have HGT := Lib.hid gt
          have HGE := Lib.hid ge
          have HGC := Lib.hid gc
          have HDL : Hid (d + 1 ≤ ((T1 ++ bl3 t e c (d + 1) q).length : Nat)) := Lib.hid (by rw [List.length_append, HT1l.out]; omega)
          have r0 := hBq.cell 0 rfl
          have r1 := hBq.cell 1 rfl
          have r2 := hBq.cell 2 rfl
          clear hIq hNq hlq hkq hBq gt ge gc
          obtain rfl | rfl | rfl | rfl : q = 0 ∨ q = 1 ∨ q = 2 ∨ q = 3 := by omega
          · rw [show ((0 : Nat) : Int) = 0 from rfl]
            go_wp2_with (go_at_call 74; refine (HDt.out _ _ _ _ _ _ HGT.out HIQ.out HNQ.out (by omega) HDL.out HLQ.out).mono ?_; rintro e' w4 ⟨ok4, rfl, h41, h42⟩)
            · have hok : ok4 = false := by first | assumption | simp_all
              go_ret
              exact ⟨false, rfl, (fun h => nomatch h), fun _ => stop_blk (rest := flats (l.drop (j + 1)) d) (r := flats e (d + 1) ++ flats c (d + 1)) HT1.out (by rw [HF.out]; simp [flat, bl3]) (h42 hok)⟩
            · have hok : ok4 = true := by first | assumption | simp_all
              obtain ⟨k1, k2, k3, k4⟩ := h41 hok
              subst hok
              have eq : T1 ++ bl3 t e c (d + 1) 0 ++ flats t (d + 1) = T1 ++ bl3 t e c (d + 1) 1 := by simp [bl3]
              rw [eq] at k1 k2 k3
              go_roundw
              case rel => exact ⟨1, by omega, rfl, k1, k2, k3, HKQ.out.trans k4⟩
              case measure => simp [intOf]
          · rw [show ((1 : Nat) : Int) = 1 from rfl]
            go_wp2_with (go_at_call 74; refine (HDe.out _ _ _ _ _ _ HGE.out HIQ.out HNQ.out (by omega) HDL.out HLQ.out).mono ?_; rintro e' w4 ⟨ok4, rfl, h41, h42⟩)
            · have hok : ok4 = false := by first | assumption | simp_all
              go_ret
              exact ⟨false, rfl, (fun h => nomatch h), fun _ => stop_blk (rest := flats (l.drop (j + 1)) d) (r := flats c (d + 1)) HT1.out (by rw [HF.out]; simp [flat, bl3]) (h42 hok)⟩
            · have hok : ok4 = true := by first | assumption | simp_all
              obtain ⟨k1, k2, k3, k4⟩ := h41 hok
              subst hok
              have eq : T1 ++ bl3 t e c (d + 1) 1 ++ flats e (d + 1) = T1 ++ bl3 t e c (d + 1) 2 := by simp [bl3]
              rw [eq] at k1 k2 k3
              go_roundw
              case rel => exact ⟨2, by omega, rfl, k1, k2, k3, HKQ.out.trans k4⟩
              case measure => simp [intOf]
          · rw [show ((2 : Nat) : Int) = 2 from rfl]
            go_wp2_with (go_at_call 74; refine (HDc.out _ _ _ _ _ _ HGC.out HIQ.out HNQ.out (by omega) HDL.out HLQ.out).mono ?_; rintro e' w4 ⟨ok4, rfl, h41, h42⟩)
            · have hok : ok4 = false := by first | assumption | simp_all
              go_ret
              exact ⟨false, rfl, (fun h => nomatch h), fun _ => stop_blk (rest := flats (l.drop (j + 1)) d) (r := []) HT1.out (by rw [HF.out]; simp [flat, bl3]) (h42 hok)⟩
            · have hok : ok4 = true := by first | assumption | simp_all
              obtain ⟨k1, k2, k3, k4⟩ := h41 hok
              subst hok
              have eq : T1 ++ bl3 t e c (d + 1) 2 ++ flats c (d + 1) = T1 ++ bl3 t e c (d + 1) 3 := by simp [bl3]
              rw [eq] at k1 k2 k3
              go_roundw
              case rel => exact ⟨3, by omega, rfl, k1, k2, k3, HKQ.out.trans k4⟩
              case measure => simp [intOf]
          · rw [show ((3 : Nat) : Int) = 3 from rfl]
            go_wp2_with fail
            have e3 : told ++ flats (l.take (j + 1)) d = T1 ++ bl3 t e c (d + 1) 3 := by rw [HFq.out, HT1.out]; simp
            go_roundw
            case rel => exact ⟨j + 1, by omega, by go_num, by rw [e3]; exact HIQ.out, by rw [e3]; exact HNQ.out, by rw [e3]; exact HLQ.out, HKP3.out.trans HKQ.out⟩
            case measure => simp [intOf]; omega
      · obtain rfl : n = 513 := by omega
        go_wp2_with fail
        go_ret
        exact ⟨false, rfl, (fun h => nomatch h), fun _ => stop_max HF.out HNE.out.symm (HT.out.mono _ _ _ HI1.out ((Upd.refl p w1).set 0 _))⟩
    · obtain rfl : j = l.length := by omega
      have HIr := Lib.hid hIr
      have HNr := Lib.hid hNr
      have HLr := Lib.hid hlr
      clear hIr hNr hlr
      go_wp2_with fail
      go_ret
      have h1 := HIr.out
      have h2 := HNr.out
      have h3 := HLr.out
      rw [List.take_length] at h1 h2 h3
      exact ⟨true, rfl, fun _ => ⟨h1, h2, h3, HKP.out⟩, (fun h => nomatch h)⟩
theorem walkS_any (k : Nat) (caps : Array Value) (O : Nat → Prop) (I S : List (Int × St) → World → Prop) (R : Nat → Nat → Prop) (p : Nat) (w0 : World) (hT : TellerS k caps O I S R p w0) (l : List St) : WalkSC k caps O I S R p l :=
  walkS_list k caps O I S R p w0 hT l fun x hx => by
    clear hx
    induction x using St.ind with
    | h op nm sec ab wh a b t e c ws h1 h2 h3 => exact ⟨walkS_list k caps O I S R p w0 hT t h1, walkS_list k caps O I S R p w0 hT e h2, walkS_list k caps O I S R p w0 hT c h3⟩
end Go.Proofs.Ytnknefdpglnbnaa
