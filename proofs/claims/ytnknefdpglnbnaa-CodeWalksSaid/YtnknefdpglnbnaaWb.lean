/- The walk of a code whose lists lie at places of R. A range over a function whose rounds are told data in memory: what is handed to a round is known there, and the round may write it over. -/
import Derived.Test.YtnknefdpglnbnaaZf
import Derived.RangeFuncWrites
import Derived.RangeFuncCalls
import Derived.WalkKit
namespace Go.Proofs.Ytnknefdpglnbnaa
open Go.RowKit

theorem at_keep1 {w w' : World} {b o : Nat} {cs : List Value} (h : At w b o cs) (hk : w'.heap[b]? = w.heap[b]?) : At w' b o cs := fun j u hu => (World.cell?_of_block (a := ⟨b, o + j, Option.none⟩) hk).trans (h j u hu)
/-- A function that is told statements: it keeps I while it answers true; where it answers false, S holds. -/
structure TellerS (k : Nat) (caps : Array Value) (O : Nat → Prop) (I S : List (Int × St) → World → Prop) (R : Nat → Nat → Prop) (p : Nat) (w0 : World) : Prop where
  cf : ∀ args w, (callFunc k args).run Try.prog w = .ok (.enter k args) w
  own : ∀ b, O b → b < w0.heap.size
  ownp : ¬ O p
  size : ∀ told w, I told w → w0.heap.size ≤ w.heap.size
  keep : ∀ told w, I told w → ∀ b o, R b o → w.heap[b]? = w0.heap[b]?
  mono : ∀ told w w', I told w → Upd p w w' → I told w'
  call : ∀ told d x s w, I told w → IsStR w R s x → told.length ≤ 512 → 0 ≤ d → d ≤ 513 → Calls Try.prog k (#[.int .i64 (told.length : Nat), .int .i64 d, .agg s.arr] ++ caps) w fun e w' =>
    ∃ ok : Bool, e = .returned (.bool ok) ∧ (ok = true → I (told ++ [(d, x)]) w' ∧ w'.heap[p]? = w.heap[p]? ∧ Kp O p w w') ∧ (ok = false → S (told ++ [(d, x)]) w')
def WalkSC (k : Nat) (caps : Array Value) (O : Nat → Prop) (I S : List (Int × St) → World → Prop) (R : Nat → Nat → Prop) (p : Nat) (l : List St) : Prop :=
  ∀ (w : World) (A : Option Addr) (len cap : Nat) (d : Int) (told : List (Int × St)), LR R 256 A len cap l (fun b o => IsStsR w R b o l) → I told w → Blk w p 3 (.int .i64 (told.length : Nat)) → 0 ≤ d → d ≤ told.length → told.length ≤ 513 →
    Calls Try.prog 74 #[.slice A len cap, .int .i64 d, .pointer (some ⟨p, 0, Option.none⟩), .func (.func k) #[] caps] w fun e w' => WPost O I S p w told (flats l d) e w'
attribute [local go_sem] SV.g0 SV.g1 SV.g2 SV.g3 SV.g4 SV.g5 SV.g6 SV.g7 SV.g8 SV.g9 SV.g10 SV.g11 SV.g12 SV.g13 SV.g14 SV.g15 SV.g16
attribute [local irreducible] wpList
/-- The blocks of a statement are walked as they must be. -/
def DnS (k : Nat) (caps : Array Value) (O : Nat → Prop) (I S : List (Int × St) → World → Prop) (R : Nat → Nat → Prop) (p : Nat) : St → Prop
  | .mk _ _ _ _ _ _ _ t e c _ => WalkSC k caps O I S R p t ∧ WalkSC k caps O I S R p e ∧ WalkSC k caps O I S R p c
set_option maxRecDepth 100000 in
set_option maxHeartbeats 4000000 in
theorem walkS_list (k : Nat) (caps : Array Value) (O : Nat → Prop) (I S : List (Int × St) → World → Prop) (R : Nat → Nat → Prop) (p : Nat) (w0 : World) (hT : TellerS k caps O I S R p w0) (l : List St) (hD : ∀ x ∈ l, DnS k caps O I S R p x) : WalkSC k caps O I S R p l := by
  intro w A len cap d told hl hI hn hd0 hd1 hlen
  obtain ⟨rfl, hcap, hbytes, hA⟩ := hl
  have hcf := hT.cf
  have HT := Lib.hid hT
  have HA := Lib.hid hA
  have HD := Lib.hid hD
  have HI := Lib.hid hI
  have HN := Lib.hid hn
  have hll : l.length ≤ 140737488351232 := by omega
  obtain ⟨i0, hi, hz0, hz1, hz2⟩ := info_parts info58
  clear hT hA hD hI hn hbytes
  go_enter Try.func74, Try.ntmps74
  go_wp2_with fail
  go_loopw [16] (fun i wr => ∃ j : Nat, j ≤ l.length ∧ i = .int .i64 j ∧ I (told ++ flats (l.take j) d) wr ∧ Blk wr p 3 (.int .i64 ((told ++ flats (l.take j) d).length : Nat)) ∧ (told ++ flats (l.take j) d).length ≤ 513 ∧ Kp O p w wr) (fun i _ => l.length - (intOf i).toNat)
  case atStart => exact ⟨0, Nat.zero_le _, rfl, by simpa [flats] using HI.out, by simpa [flats] using HN.out, by simpa [flats] using hlen, Kp.refl⟩
  case round =>
    obtain ⟨j, hj, rfl, hIr, hNr, hlr, hkp⟩ := hrel
    have HKP := Lib.hid hkp
    clear hkp
    by_cases hlt : j < l.length
    · obtain ⟨b, o, hbB, hAe, hx⟩ := HA.out (by rintro rfl; simp at hlt)
      obtain ⟨s, hat, hs⟩ := hx.at j hlt
      have hkr : ∀ b o, R b o → wr.heap[b]? = w.heap[b]? := fun b o hb => (HT.out.keep _ _ hIr b o hb).trans (HT.out.keep _ _ HI.out b o hb).symm
      have HAT := Lib.hid (at_keep1 hat (hkr _ _ hbB))
      have HS := Lib.hid (IsStR.keep hkr hs)
      obtain ⟨x, hxe⟩ : ∃ x, x = l[j] := ⟨_, rfl⟩
      have HX := Lib.hid hxe
      rw [← hxe] at HS
      have HF := Lib.hid (flats_split l d j hlt)
      have HFT := Lib.hid (flats_take l d j hlt)
      rw [← hxe] at HF HFT
      obtain ⟨T0, hT0⟩ : ∃ T0, T0 = flats (l.take j) d := ⟨_, rfl⟩
      rw [← hT0] at hIr hNr hlr HF HFT
      obtain ⟨n, hn⟩ : ∃ n, n = (told ++ T0).length := ⟨_, rfl⟩
      rw [← hn] at hNr hlr
      have HNE := Lib.hid hn
      have HIR := Lib.hid hIr
      have HNR := Lib.hid hNr
      have hdn : d ≤ (n : Int) := by rw [hn]; simp; omega
      have hplt := hNr.lt
      subst hAe
      clear hxe hT0 hn hIr hNr hat hs hx hkr
      go_upto_region 4 with (first | (refine wpList_load_blk rfl 58 (.tmp 18) rfl ⟨b, o + j * 17, Option.none⟩ rfl (.agg s.arr) (run_loadVar_at Try.underlying58 hi HAT.out (by rw [hz1]; rfl)) ?_) | (refine wpList_store_blk rfl 58 (.tmp 10) (.tmp 19) rfl i0 hi wr.heap.size s.arr rfl rfl 58 SV.zero.arr (BlkN.at_ rfl 58 SV.zero.arr) (by rw [hz1]; rfl) rfl (SV.one _) ?_; intro w1 hB1 hbut))
      have hU1 : Upd p wr w1 := hbut.upd (Nat.le_refl _) ((Upd.refl p wr).alloc _)
      have HI1 := Lib.hid (HT.out.mono _ _ _ HIR.out hU1)
      have hN1 : Blk w1 p 3 (.int .i64 (n : Nat)) := (hbut.other _ (Nat.ne_of_lt hplt)).trans (HNR.out.alloc _)
      have HS1 := Lib.hid (IsStR.keep (fun b o hb => (HT.out.keep _ _ HI1.out b o hb).trans (HT.out.keep _ _ HIR.out b o hb).symm) HS.out)
      have HB1 := Lib.hid hB1
      have HN1 := Lib.hid hN1
      have hpc := hN1.cell
      have hpf := hN1.free
      have hplt1 := hN1.lt
      have hblt1 := hB1.lt
      have HU1 := Lib.hid hU1
      clear hB1 hbut hU1 hN1
      by_cases hn5 : n ≤ 512
      · have hcf := HT.out.cf
        have hdec : decide ((512 : Int) < (n : Int)) = false := by simp; omega
        have hTl : (told ++ T0).length = n := HNE.out.symm
        have HB1' := Lib.hid (HB1.out.setOther (q := ⟨p, 0, Option.none⟩) (by simp; omega) (.int .i64 ((n : Int) + 1)))
        have HN1' := Lib.hid (HN1.out.set (.int .i64 ((n : Int) + 1)))
        have HU1' := Lib.hid ((Upd.refl p w1).set 0 (.int .i64 ((n : Int) + 1)))
        have HI1' := Lib.hid (HT.out.mono _ _ _ HI1.out HU1'.out)
        have HS1' := Lib.hid (IsStR.keep (fun b o hb => (HT.out.keep _ _ HI1'.out b o hb).trans (HT.out.keep _ _ HI1.out b o hb).symm) HS1.out)
        have HC := Lib.hid (HT.out.call _ d x s _ HI1'.out HS1'.out (by omega) hd0 (by omega))
        rw [hTl] at HC
        clear hTl
        go_upto_region 8 with (first | (refine wpList_load_g rfl 58 (.tmp 10) rfl ⟨wr.heap.size, 0, Option.none⟩ rfl (.agg s.arr) (run_loadVar_blk Try.underlying58 hi HB1'.out (by rw [hz1]; rfl)) ?_) | (refine (HC.out).mono ?_; rintro e w2 ⟨ok, rfl, hok1, hok2⟩))
        · have hok : ok = false := by first | assumption | simp_all
          go_ret
          exact ⟨false, rfl, (fun h => nomatch h), fun _ => stop_at HF.out (hok2 hok)⟩
        have hok : ok = true := by first | assumption | simp_all
        obtain ⟨hi2, hp2, hk2⟩ := hok1 hok
        have HI2 := Lib.hid hi2
        clear hi2
        subst hok
        rw [Bool.not_true]
        have HN2 : Hid (Blk w2 p 3 (.int .i64 ((n : Int) + 1))) := Lib.hid (hp2.trans HN1'.out)
        have hfr : ¬ O wr.heap.size := fun ho => absurd (HT.out.own _ ho) (Nat.not_lt.2 (HT.out.size _ _ HIR.out))
        have hB2 : BlkN w2 wr.heap.size 58 s.arr := (hk2.block _ HB1'.out.lt hfr (Nat.ne_of_gt hplt)).trans HB1'.out
        have HS2 := Lib.hid (IsStR.keep (fun b o hb => (HT.out.keep _ _ HI2.out b o hb).trans (HT.out.keep _ _ HI1'.out b o hb).symm) HS1'.out)
        have HKP2 : Hid (Kp O p w w2) := Lib.hid ((HKP.out.trans (Kp.refl.upd (HU1.out.trans HU1'.out))).trans hk2)
        have q13 := hB2.cell 13 s.at13
        have q14 := hB2.cell 14 s.at14
        have q15 := hB2.cell 15 s.at15
        have hblt2 := hB2.lt
        have hplt2 := HN2.out.lt
        clear hok1 hok2 hp2 hk2 hB2 hpc hpf hblt1 hplt1 hdec hcf hfr
        have hD3 : DnS k caps O I S R p x := by rw [HX.out]; exact HD.out _ (List.getElem_mem hlt)
        obtain ⟨op, nm, sec, ab, wh, xa, xb, t, e, c, ws⟩ := x
        obtain ⟨hDt, hDe, hDc⟩ := hD3
        have HDt := Lib.hid hDt
        have HDe := Lib.hid hDe
        have HDc := Lib.hid hDc
        obtain ⟨T1, hT1⟩ : ∃ T1, T1 = (told ++ T0) ++ [(d, St.mk op nm sec ab wh xa xb t e c ws)] := ⟨_, rfl⟩
        have hT1l : T1.length = n + 1 := by rw [hT1, List.length_append, ← HNE.out]; rfl
        rw [← hT1] at HI2
        have HT1 := Lib.hid hT1
        have HT1l := Lib.hid hT1l
        have HFq : Hid (flats (l.take (j + 1)) d = T0 ++ ((d, St.mk op nm sec ab wh xa xb t e c ws) :: bl3 t e c (d + 1) 3)) := Lib.hid (by rw [HFT.out]; rfl)
        clear hDt hDe hDc hT1 hT1l
        go_wp2_with fail
        have hU3 : Upd p w2 (w2.alloc (.cells #[.slice s.tA s.tl s.tc, .slice s.eA s.el s.ec, .slice s.cA s.cl s.cc] 42)) := (Upd.refl p w2).alloc _
        obtain ⟨w3, hw3⟩ : ∃ w3, w3 = w2.alloc (.cells #[.slice s.tA s.tl s.tc, .slice s.eA s.el s.ec, .slice s.cA s.cl s.cc] 42) := ⟨_, rfl⟩
        have hB3 : BlkN w3 w2.heap.size 42 #[.slice s.tA s.tl s.tc, .slice s.eA s.el s.ec, .slice s.cA s.cl s.cc] := by rw [hw3]; exact BlkN.at_ rfl _ _
        rw [← hw3] at hU3 ⊢
        have HB3 := Lib.hid hB3
        have HI3 := Lib.hid (HT.out.mono _ _ _ HI2.out hU3)
        have HS3 := Lib.hid (IsStR.keep (fun b o hb => (HT.out.keep _ _ HI3.out b o hb).trans (HT.out.keep _ _ HI2.out b o hb).symm) HS2.out)
        have HN3 : Hid (Blk w3 p 3 (.int .i64 (T1.length : Nat))) := Lib.hid (by rw [HT1l.out, hw3]; exact HN2.out.alloc _)
        have HKP3 := Lib.hid (HKP2.out.upd hU3)
        have HOF : Hid (¬ O w2.heap.size) := Lib.hid fun ho => absurd (HT.out.own _ ho) (Nat.not_lt.2 (HT.out.size _ _ HI2.out))
        have HPF : Hid (w2.heap.size ≠ p) := Lib.hid (Nat.ne_of_gt hplt2)
        clear hU3 hw3 hB3 q13 q14 q15 hblt2 hplt2
        go_loopw [46] (fun i wq => ∃ q : Nat, q ≤ 3 ∧ i = .int .i64 q ∧ I (T1 ++ bl3 t e c (d + 1) q) wq ∧ Blk wq p 3 (.int .i64 ((T1 ++ bl3 t e c (d + 1) q).length : Nat)) ∧ (T1 ++ bl3 t e c (d + 1) q).length ≤ 513 ∧ Kp O p w3 wq) (fun i _ => 3 - (intOf i).toNat)
        case atStart => exact ⟨0, by omega, rfl, by simpa [bl3] using HI3.out, by simpa [bl3] using HN3.out, by simp [bl3, HT1l.out]; omega, Kp.refl⟩
        case round =>
          obtain ⟨q, hq, rfl, hIq, hNq, hlq, hkq⟩ := hrel
          have HIQ := Lib.hid hIq
          have HNQ := Lib.hid hNq
          have HLQ := Lib.hid hlq
          have HKQ := Lib.hid hkq
          have hBq : BlkN wr w2.heap.size 42 #[.slice s.tA s.tl s.tc, .slice s.eA s.el s.ec, .slice s.cA s.cl s.cc] := (hkq.block _ HB3.out.lt HOF.out HPF.out).trans HB3.out
          have HSQ := Lib.hid (IsStR.keep (fun b o hb => (HT.out.keep _ _ HIQ.out b o hb).trans (HT.out.keep _ _ HI3.out b o hb).symm) HS3.out)
          obtain ⟨_, _, _, _, gt, ge, gc, _⟩ := HSQ.out.form
          have HGT := Lib.hid gt
          have HGE := Lib.hid ge
          have HGC := Lib.hid gc
          have HDL : Hid (d + 1 ≤ ((T1 ++ bl3 t e c (d + 1) q).length : Nat)) := Lib.hid (by rw [List.length_append, HT1l.out]; omega)
          have r0 := hBq.cell 0 rfl
          have r1 := hBq.cell 1 rfl
          have r2 := hBq.cell 2 rfl
          clear hIq hNq hlq hkq hBq gt ge gc
          obtain rfl | rfl | rfl | rfl : q = 0 ∨ q = 1 ∨ q = 2 ∨ q = 3 := by omega
          · rw [show ((0 : Nat) : Int) = 0 from rfl]
            go_wp2_with (go_at_call 74; refine (HDt.out _ _ _ _ _ _ HGT.out HIQ.out HNQ.out (by omega) HDL.out HLQ.out).mono ?_; rintro e' w4 ⟨ok4, rfl, h41, h42⟩)
            · have hok : ok4 = false := by first | assumption | simp_all
              go_ret
              exact ⟨false, rfl, (fun h => nomatch h), fun _ => stop_blk (rest := flats (l.drop (j + 1)) d) (r := flats e (d + 1) ++ flats c (d + 1)) HT1.out (by rw [HF.out]; simp [flat, bl3]) (h42 hok)⟩
            · have hok : ok4 = true := by first | assumption | simp_all
              obtain ⟨k1, k2, k3, k4⟩ := h41 hok
              subst hok
              have eq : T1 ++ bl3 t e c (d + 1) 0 ++ flats t (d + 1) = T1 ++ bl3 t e c (d + 1) 1 := by simp [bl3]
              rw [eq] at k1 k2 k3
              go_roundw
              case rel => exact ⟨1, by omega, rfl, k1, k2, k3, HKQ.out.trans k4⟩
              case measure => simp [intOf]
          · rw [show ((1 : Nat) : Int) = 1 from rfl]
            go_wp2_with (go_at_call 74; refine (HDe.out _ _ _ _ _ _ HGE.out HIQ.out HNQ.out (by omega) HDL.out HLQ.out).mono ?_; rintro e' w4 ⟨ok4, rfl, h41, h42⟩)
            · have hok : ok4 = false := by first | assumption | simp_all
              go_ret
              exact ⟨false, rfl, (fun h => nomatch h), fun _ => stop_blk (rest := flats (l.drop (j + 1)) d) (r := flats c (d + 1)) HT1.out (by rw [HF.out]; simp [flat, bl3]) (h42 hok)⟩
            · have hok : ok4 = true := by first | assumption | simp_all
              obtain ⟨k1, k2, k3, k4⟩ := h41 hok
              subst hok
              have eq : T1 ++ bl3 t e c (d + 1) 1 ++ flats e (d + 1) = T1 ++ bl3 t e c (d + 1) 2 := by simp [bl3]
              rw [eq] at k1 k2 k3
              go_roundw
              case rel => exact ⟨2, by omega, rfl, k1, k2, k3, HKQ.out.trans k4⟩
              case measure => simp [intOf]
          · rw [show ((2 : Nat) : Int) = 2 from rfl]
            go_wp2_with (go_at_call 74; refine (HDc.out _ _ _ _ _ _ HGC.out HIQ.out HNQ.out (by omega) HDL.out HLQ.out).mono ?_; rintro e' w4 ⟨ok4, rfl, h41, h42⟩)
            · have hok : ok4 = false := by first | assumption | simp_all
              go_ret
              exact ⟨false, rfl, (fun h => nomatch h), fun _ => stop_blk (rest := flats (l.drop (j + 1)) d) (r := []) HT1.out (by rw [HF.out]; simp [flat, bl3]) (h42 hok)⟩
            · have hok : ok4 = true := by first | assumption | simp_all
              obtain ⟨k1, k2, k3, k4⟩ := h41 hok
              subst hok
              have eq : T1 ++ bl3 t e c (d + 1) 2 ++ flats c (d + 1) = T1 ++ bl3 t e c (d + 1) 3 := by simp [bl3]
              rw [eq] at k1 k2 k3
              go_roundw
              case rel => exact ⟨3, by omega, rfl, k1, k2, k3, HKQ.out.trans k4⟩
              case measure => simp [intOf]
          · rw [show ((3 : Nat) : Int) = 3 from rfl]
            go_wp2_with fail
            have e3 : told ++ flats (l.take (j + 1)) d = T1 ++ bl3 t e c (d + 1) 3 := by rw [HFq.out, HT1.out]; simp
            go_roundw
            case rel => exact ⟨j + 1, by omega, by go_num, by rw [e3]; exact HIQ.out, by rw [e3]; exact HNQ.out, by rw [e3]; exact HLQ.out, HKP3.out.trans HKQ.out⟩
            case measure => simp [intOf]; omega
      · obtain rfl : n = 513 := by omega
        go_wp2_with fail
        go_ret
        exact ⟨false, rfl, (fun h => nomatch h), fun _ => stop_max HF.out HNE.out.symm (HT.out.mono _ _ _ HI1.out ((Upd.refl p w1).set 0 _))⟩
    · obtain rfl : j = l.length := by omega
      have HIr := Lib.hid hIr
      have HNr := Lib.hid hNr
      have HLr := Lib.hid hlr
      clear hIr hNr hlr
      go_wp2_with fail
      go_ret
      have h1 := HIr.out
      have h2 := HNr.out
      have h3 := HLr.out
      rw [List.take_length] at h1 h2 h3
      exact ⟨true, rfl, fun _ => ⟨h1, h2, h3, HKP.out⟩, (fun h => nomatch h)⟩
theorem walkS_any (k : Nat) (caps : Array Value) (O : Nat → Prop) (I S : List (Int × St) → World → Prop) (R : Nat → Nat → Prop) (p : Nat) (w0 : World) (hT : TellerS k caps O I S R p w0) (l : List St) : WalkSC k caps O I S R p l :=
  walkS_list k caps O I S R p w0 hT l fun x hx => by
    clear hx
    induction x using St.ind with
    | h op nm sec ab wh a b t e c ws h1 h2 h3 => exact ⟨walkS_list k caps O I S R p w0 hT t h1, walkS_list k caps O I S R p w0 hT e h2, walkS_list k caps O I S R p w0 hT c h3⟩
end Go.Proofs.Ytnknefdpglnbnaa
namespace Go.Told
open Go Go.RowKit

/-- What a round leaves: the blocks from n on, up to lo, are as they were. -/
structure KpX (n lo : Nat) (A B : World) : Prop where
  os : B.os = A.os
  tape : B.tape = A.tape
  output : B.output = A.output
  size : A.heap.size ≤ B.heap.size
  block : ∀ b, n ≤ b → b < lo → B.heap[b]? = A.heap[b]?
theorem KpX.trans {n lo : Nat} {A B C : World} (h : KpX n lo A B) (k : KpX n lo B C) : KpX n lo A C := ⟨k.os.trans h.os, k.tape.trans h.tape, k.output.trans h.output, Nat.le_trans h.size k.size, fun b h1 h2 => (k.block b h1 h2).trans (h.block b h1 h2)⟩
theorem KpX.mono {n m lo : Nat} {A B : World} (h : KpX n lo A B) (hm : n ≤ m) : KpX m lo A B := ⟨h.os, h.tape, h.output, h.size, fun b h1 h2 => h.block b (by omega) h2⟩
theorem KpX.put {n lo l : Nat} {W : World} {o : Obj} (o' : Obj) (hl : W.heap[l]? = some o) (hn : l < n) : KpX n lo W (W.putObj l o') := by
  have g := grownBy_putObj' W l o'
  have hlt := (Array.getElem?_eq_some_iff.1 hl).1
  refine ⟨g.os, g.tape, g.output, g.size, fun b h1 h2 => ?_⟩
  exact World.putObj_heap_other (by omega)
theorem below_put {n l : Nat} {W : World} {o : Obj} (o' : Obj) (hl : W.heap[l]? = some o) (hn : n ≤ l) : Below n W (W.putObj l o') :=
  (Below.refl n W).grown (grownBy_putObj' W l o') (by have := (Array.getElem?_eq_some_iff.1 hl).1; omega) (fun k e => by cases e; omega)

variable {α : Type} {P : Program}
/-- The iterator's contract. -/
def SeqTold (m : Nat) (P : Program) (g : Nat) (lb : Array Value) (encs : α → Array Value) (lo : α → Nat) (Dt : List α → α → World → Prop) (S Sp : List α → Prop) (w : World) : Prop :=
  ∀ (l : Nat) (J Jx : List α → World → Prop) (W : World), Below w.heap.size w W → (∀ s A B, J s A → Below W.heap.size A B → J s B) → (∀ s A B, Jx s A → Below W.heap.size A B → Jx s B) →
    (∀ pre x W1, J pre W1 → W.heap.size ≤ lo x → lo x ≤ W1.heap.size → Dt pre x W1 → YieldAt Fence.wide (m - 1) P l (encs x) W1 fun e W' =>
      (e = .returned (.bool true) ∧ J (pre ++ [x]) W' ∧ KpX W.heap.size (lo x) W1 W') ∨ (e = .returned (.bool false) ∧ Jx (pre ++ [x]) W')) →
    J [] W →
    CallsIn Fence.wide m P g (#[.func (.yield l) #[] #[]] ++ lb) W fun e W' => (∃ v, e = .returned v) ∧ ((∃ xs, S xs ∧ J xs W') ∨ (∃ pre, Sp pre ∧ Jx pre W'))
/-- How a round may be left. -/
def post (n : Nat) (lo : Nat) (I : List α → World → Prop) (Ix : Code → List α → World → Prop) (xs : List α) (W : World) : Exit → Act → World → Prop
  | .normal, _, W' => KpX n lo W W' ∧ I xs W'
  | .ret, _, W' => KpX n lo W W' ∧ Ix .ret xs W'
  | .exit id, _, W' => KpX n lo W W' ∧ Ix (.exit id) xs W'
  | .goto t, _, W' => KpX n lo W W' ∧ Ix (.goto t) xs W'
  | .panic _, _, _ => False
  | .outgrown, _, _ => False
theorem rangeFunc_told {m : Nat} {g : Operand} {ps : Array Tmp} {assign body : Code} {Q : Exit → Act → World → Prop} {a : Act} {w : World}
    (h1 : 1 ≤ m) {gf : Nat} {lb : Array Value} (hg : a.eval g = .func (.func gf) #[] lb) (eg : ∀ args w, (callFunc gf args).run P w = .ok (.enter gf args) w)
    {encs : α → Array Value} {lo : α → Nat} {Dt : List α → α → World → Prop} {S Sp : List α → Prop} {w0 : World} (hseq : SeqTold (m - 1) P gf lb encs lo Dt S Sp w0) (hb0 : Below w0.heap.size w0 w) (hps : ∀ x, (encs x).size = ps.size)
    (hDt : ∀ pre x A B, Dt pre x A → A.heap.size ≤ B.heap.size → (∀ b, lo x ≤ b → b < A.heap.size → B.heap[b]? = A.heap[b]?) → Dt pre x B)
    (I : List α → World → Prop) (Ix : Code → List α → World → Prop) (hI : ∀ s A B, I s A → Below w.heap.size A B → I s B) (hIx : ∀ c s A B, Ix c s A → Below w.heap.size A B → Ix c s B) (h0 : I [] w)
    (Ax : α → Act → World → World → Prop) (hAx : ∀ x a W A B, Ax x a W A → A.heap.size ≤ B.heap.size → (∀ b, W.heap.size ≤ b → b < A.heap.size → B.heap[b]? = A.heap[b]?) → Ax x a W B)
    (hassign : ∀ (l : Nat) (x : α) (W : World) (K : Act → World → Prop), (∀ a' W', Ax x a' W W' → Below W.heap.size W W' → K a' W') →
      assign.wpIn (Fence.wide.inRound l) (m - 1 - 1) P (Exit.then K (fun _ _ _ => False)) { tmps := (ps.zip (encs x)).foldl (fun t (p, v) => t.setIfInBounds p v) a.tmps, defers := [] } W)
    (hbody : ∀ (l : Nat) (pre : List α) (x : α) (a' : Act) (W0 W : World), I pre W → w.heap.size + 2 ≤ lo x → lo x ≤ W0.heap.size → W0.heap.size ≤ W.heap.size → Dt pre x W → Ax x a' W0 W → body.wpIn (Fence.wide.inRound l) (m - 1 - 1) P (post w.heap.size (lo x) I Ix (pre ++ [x]) W) a' W)
    (hdone : ∀ (D : Nat) (xs : List α) (W : World), w.heap.size ≤ D → S xs → I xs W → W.heap[D]? = some (.deferred (some [])) → Q .normal { a with defers := { target := .collected D, args := #[] } :: a.defers } W)
    (hstop : ∀ (D : Nat) (c : Code) (pre : List α) (W : World), w.heap.size ≤ D → Sp pre → Ix c pre W → W.heap[D]? = some (.deferred (some [])) → c.wpIn Fence.wide m P Q { a with defers := { target := .collected D, args := #[] } :: a.defers } W) :
    (Code.rangeFunc g ps assign body).wpIn Fence.wide m P Q a w := by
  refine wpIn_rangeFunc fun fn hfn => ?_
  obtain ⟨rcd, hrec⟩ : ∃ rcd : LoopState → Option Code → Loop, rcd = fun st pe => { state := st, pending := pe, fn, tmps := a.tmps, params := ps, assign, body, defers := w.heap.size } := ⟨_, rfl⟩
  obtain ⟨V, hV⟩ : ∃ V, V = (w.alloc (.deferred (some []))).alloc (.loop (rcd .ready none)) := ⟨_, rfl⟩
  have hVs : V.heap.size = w.heap.size + 2 := by rw [hV]; simp
  have hVL : V.heap[w.heap.size + 1]? = some (.loop (rcd .ready none)) := by
    have := World.alloc_heap_new (w.alloc (.deferred (some []))) (.loop (rcd .ready none))
    rw [World.size_alloc] at this
    rw [hV]; exact this
  have hVD : V.heap[w.heap.size]? = some (.deferred (some [])) := by
    rw [hV]; exact (Below.heap_alloc _ _ _ (by simp)).trans (World.alloc_heap_new w _)
  have hVb : Below w.heap.size w V := by rw [hV]; exact ((Below.refl _ w).alloc (Nat.le_refl _) _).alloc (by simp) _
  refine ⟨w.heap.size + 1, [{ target := .collected w.heap.size, args := #[] }], V, { target := .fn (.func gf) lb, args := #[.func (.yield (w.heap.size + 1)) #[] #[]] }, V, gf,
    #[.func (.yield (w.heap.size + 1)) #[] #[]] ++ lb, V, ?_, ?_, ?_, ?_, fun _ => h1, ?_⟩
  · rw [hV, hrec]; exact run_enterLoop_outer _ _ _ _ _
  · simp only [resolve, hg]
    simp [go_sem]
  · intro _ _; trivial
  · simp [invoke, go_sem, eg]
  · -- a block of the loop's own lies as it lay
    have low : ∀ {A B : World} {b : Nat} {o : Obj}, A.heap[b]? = some o → b < V.heap.size → Below V.heap.size A B → B.heap[b]? = some o := fun h hb hB => (hB.block _ hb).trans h
    refine (hseq (w.heap.size + 1)
      (fun pre W => I pre W ∧ W.heap[w.heap.size + 1]? = some (.loop (rcd .ready none)) ∧ W.heap[w.heap.size]? = some (.deferred (some [])))
      (fun pre W => ∃ c, Ix c pre W ∧ W.heap[w.heap.size + 1]? = some (.loop (rcd .done (some c))) ∧ W.heap[w.heap.size]? = some (.deferred (some [])))
      V (hb0.trans (hVb.mono hb0.size))
      (fun s A B hs hB => ⟨hI s A B hs.1 (hB.mono (by omega)), low hs.2.1 (by omega) hB, low hs.2.2 (by omega) hB⟩)
      (fun s A B hs hB => by
        obtain ⟨c, hc, hl, hk⟩ := hs
        exact ⟨c, hIx c s A B hc (hB.mono (by omega)), low hl (by omega) hB, low hk (by omega) hB⟩)
      ?_ ⟨hI _ _ _ h0 hVb, hVL, hVD⟩).mono ?_
    · rintro pre x W ⟨hi, hl, hk⟩ hlo hlo2 hd
      have hy := run_yield (P := P) (args := encs x) hl (by rw [hrec]; exact hps x)
      rw [hrec] at hy
      refine ⟨fn, _, assign, body, hy, roundIn_of_wpIn hfn (hassign _ x W _ fun a' W' hax hbW => ?_)⟩
      have hl1 : W'.heap[w.heap.size + 1]? = some (.loop (rcd .ready none)) := (hbW.block _ (Array.getElem?_eq_some_iff.1 hl).1).trans hl
      have hk1 : W'.heap[w.heap.size]? = some (.deferred (some [])) := (hbW.block _ (Array.getElem?_eq_some_iff.1 hk).1).trans hk
      refine ⟨_, run_beginRound hl1 (by rw [hrec]), ?_⟩
      obtain ⟨U, hU⟩ : ∃ U, U = W'.putObj (w.heap.size + 1) (.loop { rcd .ready none with state := .busy }) := ⟨_, rfl⟩
      rw [← hU]
      have hlt := (Array.getElem?_eq_some_iff.1 hl1).1
      have hWl := (Array.getElem?_eq_some_iff.1 hl).1
      have hUb : ∀ b, b ≠ w.heap.size + 1 → U.heap[b]? = W'.heap[b]? := fun b hb => by rw [hU]; exact World.putObj_heap_other hb
      have hUB : Below w.heap.size W' U := by rw [hU]; exact below_put _ hl1 (by omega)
      have hUs := hUB.size
      have hWs := hbW.size
      have hlU : U.heap[w.heap.size + 1]? = some (.loop { rcd .ready none with state := .busy }) := by rw [hU]; exact World.putObj_heap_same hlt
      have hkU : U.heap[w.heap.size]? = some (.deferred (some [])) := (hUb _ (by omega)).trans hk1
      have hKU : KpX V.heap.size (lo x) W U := (⟨hbW.os, hbW.tape, hbW.output, hbW.size, fun b _ h2 => hbW.block b (by omega)⟩ : KpX V.heap.size (lo x) W W').trans (by rw [hU]; exact KpX.put _ hl1 (by omega))
      refine wpIn_mono (hbody _ pre x a' W U (hI _ _ _ (hI _ _ _ hi (hbW.mono (by omega))) hUB) (by omega) hlo2 (by omega)
        (hDt pre x W U hd (by omega) (fun b h1 h2 => (hUb b (by omega)).trans (hbW.block b h2)))
        (hAx x a' W W' U hax hUs (fun b h1 _ => hUb b (by omega)))) ?_
      have fin : ∀ (jump : Option Code) (X : World), KpX w.heap.size (lo x) U X →
          (Instr.endRound (w.heap.size + 1) jump).run P X = .ok (.bool jump.isNone) (X.putObj (w.heap.size + 1) (.loop (rcd (if jump.isNone then .ready else .done) jump))) ∧
          (X.putObj (w.heap.size + 1) (.loop (rcd (if jump.isNone then .ready else .done) jump))).heap[w.heap.size + 1]? = some (.loop (rcd (if jump.isNone then .ready else .done) jump)) ∧
          (X.putObj (w.heap.size + 1) (.loop (rcd (if jump.isNone then .ready else .done) jump))).heap[w.heap.size]? = some (.deferred (some [])) ∧
          Below w.heap.size X (X.putObj (w.heap.size + 1) (.loop (rcd (if jump.isNone then .ready else .done) jump))) ∧ KpX V.heap.size (lo x) W (X.putObj (w.heap.size + 1) (.loop (rcd (if jump.isNone then .ready else .done) jump))) := fun jump X hx => by
        have hl3 : X.heap[w.heap.size + 1]? = some (.loop { rcd .ready none with state := .busy }) := (hx.block _ (by omega) (by omega)).trans hlU
        have := run_endRound (P := P) jump hl3
        rw [hrec] at this hl3 ⊢
        exact ⟨this, World.putObj_heap_same (Array.getElem?_eq_some_iff.1 hl3).1, (World.putObj_heap_other (by omega)).trans ((hx.block _ (by omega) (by omega)).trans hkU), below_put _ hl3 (by omega), (hKU.trans (hx.mono (by omega))).trans (KpX.put _ hl3 (by omega))⟩
      rintro e a3 X hp
      cases e with
      | normal =>
        obtain ⟨hk3, hi3⟩ := hp
        obtain ⟨hr, hl4, hk4, hb4, hx4⟩ := fin none X hk3
        exact ⟨_, _, hr, .inl ⟨rfl, ⟨hI _ _ _ hi3 hb4, hl4, hk4⟩, hx4⟩⟩
      | ret =>
        obtain ⟨hk3, hi3⟩ := hp
        obtain ⟨hr, hl4, hk4, hb4, _⟩ := fin (some .ret) X hk3
        exact ⟨_, _, hr, .inr ⟨rfl, .ret, hIx _ _ _ _ hi3 hb4, hl4, hk4⟩⟩
      | exit id =>
        obtain ⟨hk3, hi3⟩ := hp
        obtain ⟨hr, hl4, hk4, hb4, _⟩ := fin (some (.exit id)) X hk3
        exact ⟨_, _, hr, .inr ⟨rfl, .exit id, hIx _ _ _ _ hi3 hb4, hl4, hk4⟩⟩
      | goto t =>
        obtain ⟨hk3, hi3⟩ := hp
        obtain ⟨hr, hl4, hk4, hb4, _⟩ := fin (some (.goto t)) X hk3
        exact ⟨_, _, hr, .inr ⟨rfl, .goto t, hIx _ _ _ _ hi3 hb4, hl4, hk4⟩⟩
      | panic ch => exact hp.elim
      | outgrown => exact hp.elim
    · rintro e W2 ⟨⟨v, rfl⟩, (⟨xs, hS, hi, hl, hk⟩ | ⟨pre, hSp, c, hi, hl, hk⟩)⟩
      · exact ⟨none, _, by have := run_endLoop (P := P) hl (by rw [hrec]; simp); rw [hrec] at this; exact this, hdone _ xs _ (Nat.le_refl _) hS (hI _ _ _ hi (below_put _ hl (by omega))) ((World.putObj_heap_other (by omega)).trans hk)⟩
      · exact ⟨some c, _, by have := run_endLoop (P := P) hl (by rw [hrec]; simp); rw [hrec] at this; exact this, hstop _ c pre _ (Nat.le_refl _) hSp (hIx _ _ _ _ hi (below_put _ hl (by omega))) ((World.putObj_heap_other (by omega)).trans hk)⟩
end Go.Told
