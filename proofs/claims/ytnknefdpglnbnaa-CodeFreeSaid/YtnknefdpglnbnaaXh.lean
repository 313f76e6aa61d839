/- The program's side of CodeUses: the statements that are a code's own are told. -/
import Derived.Test.YtnknefdpglnbnaaZf
namespace Go.Proofs.Ytnknefdpglnbnaa
open Go Go.RowKit

mutual
def ownS : St → List St
  | .mk op nm sec ab wh a b t e c ws => .mk op nm sec ab wh a b t e c ws :: (ownL t ++ ownL e)
def ownL : List St → List St
  | [] => []
  | x :: l => ownS x ++ ownL l
end
theorem ownL_take (l : List St) (j : Nat) (h : j < l.length) : ownL (l.take (j + 1)) = ownL (l.take j) ++ ownS l[j] := by
  induction l generalizing j with
  | nil => simp at h
  | cons x l ih =>
    cases j with
    | zero => simp [ownL]
    | succ j =>
      have := ih j (by simpa using h)
      simp only [List.take_succ_cons, ownL, List.getElem_cons_succ, this, List.append_assoc]
theorem ownL_take_len (l : List St) (j : Nat) : (ownL (l.take j)).length ≤ (ownL l).length := by
  induction l generalizing j with
  | nil => simp
  | cons x l ih =>
    cases j with
    | zero => simp [ownL]
    | succ j =>
      have := ih j
      simp only [List.take_succ_cons, ownL, List.length_append]
      omega
theorem ownL_mem (l : List St) (j : Nat) (h : j < l.length) (y : St) (hy : y ∈ ownS l[j]) : y ∈ ownL l := by
  induction l generalizing j with
  | nil => simp at h
  | cons x l ih =>
    cases j with
    | zero => simp only [List.getElem_cons_zero] at hy; simp [ownL, hy]
    | succ j =>
      have := ih j (by simpa using h) (by simpa using hy)
      simp [ownL, this]
/-- A function that is told a code's own statements. -/
structure OTeller (k : Nat) (caps : Array Value) (G : St → Prop) (O : Nat → Prop) (J : List St → World → Prop) (B p : Nat) (w0 : World) : Prop where
  cf : ∀ args w, (callFunc k args).run Try.prog w = .ok (.enter k args) w
  own : ∀ b, O b → b < w0.heap.size
  ownp : O p
  size : ∀ told w, J told w → w0.heap.size ≤ w.heap.size
  keep : ∀ told w, J told w → ∀ b, b < B → w.heap[b]? = w0.heap[b]?
  mono : ∀ told w w', J told w → Below w.heap.size w w' → J told w'
  call : ∀ told s x w, J told w → IsSt w B s x → told.length ≤ 512 → G x → Calls Try.prog k (#[.agg s.arr] ++ caps) w fun e w' => e = .returned (.tuple #[]) ∧ J (told ++ [x]) w' ∧ Kp O p w w'
def OwnsC (k : Nat) (caps : Array Value) (G : St → Prop) (O : Nat → Prop) (J : List St → World → Prop) (B p : Nat) (l : List St) : Prop :=
  ∀ (w : World) (A : Option Addr) (len cap : Nat) (told : List St), LR (fun b _ => b < B) 256 A len cap l (fun b o => IsSts w B b o l) → J told w → told.length + (ownL l).length ≤ 513 → (∀ x ∈ ownL l, G x) →
    Calls Try.prog 98 #[.slice A len cap, .func (.func k) #[] caps] w fun e w' => e = .returned (.tuple #[]) ∧ J (told ++ ownL l) w' ∧ Kp O p w w'
def DnO (k : Nat) (caps : Array Value) (G : St → Prop) (O : Nat → Prop) (J : List St → World → Prop) (B p : Nat) : St → Prop
  | .mk _ _ _ _ _ _ _ t e _ _ => OwnsC k caps G O J B p t ∧ OwnsC k caps G O J B p e
attribute [local go_sem] SV.g0 SV.g1 SV.g2 SV.g3 SV.g4 SV.g5 SV.g6 SV.g7 SV.g8 SV.g9 SV.g10 SV.g11 SV.g12 SV.g13 SV.g14 SV.g15 SV.g16
attribute [local irreducible] wpList
set_option maxRecDepth 100000 in
set_option maxHeartbeats 2000000 in
theorem owns_list (k : Nat) (caps : Array Value) (G : St → Prop) (O : Nat → Prop) (J : List St → World → Prop) (B p : Nat) (w0 : World) (hT : OTeller k caps G O J B p w0) (l : List St) (hD : ∀ x ∈ l, DnO k caps G O J B p x) : OwnsC k caps G O J B p l := by
  intro w A len cap told hl hJ hLn hGn
  have HG := Lib.hid hGn
  clear hGn
  obtain ⟨rfl, hcap, hbytes, hA⟩ := hl
  have hcf := hT.cf
  have HT := Lib.hid hT
  have HA := Lib.hid hA
  have HD := Lib.hid hD
  have HJ := Lib.hid hJ
  have hll : l.length ≤ 140737488351232 := by omega
  obtain ⟨i0, hi, hz0, hz1, hz2⟩ := info_parts info58
  clear hT hA hD hJ hbytes
  go_enter Try.func98, Try.ntmps98
  go_wp2_with fail
  go_loopw [8] (fun i wr => ∃ j : Nat, j ≤ l.length ∧ i = .int .i64 j ∧ J (told ++ ownL (l.take j)) wr ∧ Kp O p w wr) (fun i _ => l.length - (intOf i).toNat)
  case atStart => exact ⟨0, Nat.zero_le _, rfl, by simpa [ownL] using HJ.out, Kp.refl⟩
  case round =>
    obtain ⟨j, hj, rfl, hJr, hkp⟩ := hrel
    have HKP := Lib.hid hkp
    by_cases hlt : j < l.length
    · obtain ⟨b, o, hbB, hAe, hx⟩ := HA.out (by rintro rfl; simp at hlt)
      obtain ⟨s, hat, hs⟩ := hx.at j hlt
      have hkr : ∀ b, b < B → wr.heap[b]? = w.heap[b]? := fun b hb => (HT.out.keep _ _ hJr b hb).trans (HT.out.keep _ _ HJ.out b hb).symm
      have HAT := Lib.hid (At.keep hat hbB hkr)
      have HS := Lib.hid (IsSt.keep hkr hs)
      obtain ⟨x, hxe⟩ : ∃ x, x = l[j] := ⟨_, rfl⟩
      have HX := Lib.hid hxe
      rw [← hxe] at HS
      have HFT := Lib.hid (ownL_take l j hlt)
      have hsub : ∀ y ∈ ownS l[j], y ∈ ownL l := fun y hy => ownL_mem l j hlt y hy
      have hle := ownL_take_len l (j + 1)
      have HFT' := congrArg List.length HFT.out
      simp only [List.length_append] at HFT'
      rw [← hxe] at HFT hsub HFT'
      have HSUB := Lib.hid hsub
      clear hsub
      obtain ⟨T0, hT0⟩ : ∃ T0, T0 = told ++ ownL (l.take j) := ⟨_, rfl⟩
      have HT0 := Lib.hid hT0
      have hT0l : T0.length = told.length + (ownL (l.take j)).length := by rw [hT0, List.length_append]
      rw [← hT0] at hJr
      have HJR := Lib.hid hJr
      subst hAe
      clear hxe hT0 hJr hat hs hx hkr hkp
      go_upto_region 3 with (first | (refine wpList_load_blk rfl 58 (.tmp 10) rfl ⟨b, o + j * 17, Option.none⟩ rfl (.agg s.arr) (run_loadVar_at Try.underlying58 hi HAT.out (by rw [hz1]; rfl)) ?_) | (refine wpList_store_blk rfl 58 (.tmp 5) (.tmp 11) rfl i0 hi wr.heap.size s.arr rfl rfl 58 SV.zero.arr (BlkN.at_ rfl 58 SV.zero.arr) (by rw [hz1]; rfl) rfl (SV.one _) ?_; intro w1 hB1 hbut))
      have hw1 : Below wr.heap.size wr w1 := hbut.below (Nat.le_refl _) ((Below.refl _ _).alloc (Nat.le_refl _) _)
      have HJ1 := Lib.hid (HT.out.mono _ _ _ HJR.out hw1)
      have HS1 := Lib.hid (IsSt.keep (fun b hb => (HT.out.keep _ _ HJ1.out b hb).trans (HT.out.keep _ _ HJR.out b hb).symm) HS.out)
      have hfr : ¬ O wr.heap.size := fun ho => absurd (HT.out.own _ ho) (Nat.not_lt.2 (HT.out.size _ _ HJR.out))
      have HFR := Lib.hid hfr
      have HB1 := Lib.hid hB1
      have HK1 := Lib.hid (HKP.out.trans (Kp.of_below (O := O) (p := p) hw1))
      have hD3 : DnO k caps G O J B p x := by rw [HX.out]; exact HD.out _ (List.getElem_mem hlt)
      clear hw1 hbut hfr hB1
      obtain ⟨op, nm, sec, ab, wh, xa, xb, t, e, c, ws⟩ := x
      have hSl : (ownS (.mk op nm sec ab wh xa xb t e c ws)).length = 1 + ((ownL t).length + (ownL e).length) := by simp [ownS]; omega
      have HC := Lib.hid (HT.out.call T0 s _ w1 HJ1.out HS1.out (by omega) (HG.out _ (HSUB.out _ (by simp [ownS]))))
      obtain ⟨hDt, hDe⟩ := hD3
      have HDt := Lib.hid hDt
      have HDe := Lib.hid hDe
      obtain ⟨T1, hT1⟩ : ∃ T1, T1 = T0 ++ [St.mk op nm sec ab wh xa xb t e c ws] := ⟨_, rfl⟩
      rw [← hT1] at HC
      have HT1 := Lib.hid hT1
      have hT1l : T1.length = T0.length + 1 := by rw [hT1]; simp
      clear hDt hDe hT1
      go_wp2_with (first
        | (refine wpList_load_blk rfl 58 (.tmp 5) rfl ⟨wr.heap.size, 0, Option.none⟩ rfl (.agg s.arr) (run_loadVar_blk Try.underlying58 hi HB1.out (by rw [hz1]; rfl)) ?_)
        | ((with_reducible refine (HC.out).mono ?_); rintro e2 w2 ⟨rfl, hj2, hk2⟩; have HJ2 := Lib.hid hj2; have HK2 := Lib.hid (HK1.out.trans hk2); have hB2 : BlkN w2 wr.heap.size 58 s.arr := (hk2.block _ HB1.out.lt HFR.out (fun e => HFR.out (e ▸ HT.out.ownp))).trans HB1.out; have HB2 := Lib.hid hB2; have HS2 := Lib.hid (IsSt.keep (fun b hb => (HT.out.keep _ _ hj2 b hb).trans (HT.out.keep _ _ HJ1.out b hb).symm) HS1.out); have HLt := Lib.hid (HS2.out.form.2.2.2.2.1); have CT := Lib.hid (HDt.out w2 _ _ _ _ HLt.out hj2 (by omega) (fun y hy => HG.out y (HSUB.out y (by simp [ownS, hy])))); have q13 := hB2.cell 13 s.at13; clear hj2 hk2 hB2)
        | (go_at_call 98; (with_reducible refine (CT.out).mono ?_); rintro e3 w3 ⟨rfl, hj3, hk3⟩; have HJ3 := Lib.hid hj3; have HK3 := Lib.hid (HK2.out.trans hk3); have hB3 : BlkN w3 wr.heap.size 58 s.arr := (hk3.block _ HB2.out.lt HFR.out (fun e => HFR.out (e ▸ HT.out.ownp))).trans HB2.out; have HS3 := Lib.hid (IsSt.keep (fun b hb => (HT.out.keep _ _ hj3 b hb).trans (HT.out.keep _ _ HJ2.out b hb).symm) HS2.out); have CE := Lib.hid (HDe.out w3 _ _ _ _ (HS3.out.form.2.2.2.2.2.1) hj3 (by rw [List.length_append]; omega) (fun y hy => HG.out y (HSUB.out y (by simp [ownS, hy])))); have q14 := hB3.cell 14 s.at14; clear hj3 hk3 hB3)
        | (go_at_call 98; (with_reducible refine (CE.out).mono ?_); rintro e4 w4 ⟨rfl, hj4, hk4⟩))
      go_roundw
      case rel => exact ⟨j + 1, by omega, by go_num, by rw [HFT.out, ← List.append_assoc, ← HT0.out]; rw [HT1.out] at hj4; simpa [ownS, List.append_assoc] using hj4, HK3.out.trans hk4⟩
      case measure => simp [intOf]; omega
    · obtain rfl : j = l.length := by omega
      have HJr := Lib.hid hJr
      clear hJr hkp
      go_wp2_with fail
      go_end0
      have h1 := HJr.out
      rw [List.take_length] at h1
      exact ⟨rfl, h1, HKP.out⟩
theorem owns_any (k : Nat) (caps : Array Value) (G : St → Prop) (O : Nat → Prop) (J : List St → World → Prop) (B p : Nat) (w0 : World) (hT : OTeller k caps G O J B p w0) (l : List St) : OwnsC k caps G O J B p l :=
  owns_list k caps G O J B p w0 hT l fun x hx => by
    clear hx
    induction x using St.ind with
    | h op nm sec ab wh a b t e c ws h1 h2 h3 => exact ⟨owns_list k caps G O J B p w0 hT t h1, owns_list k caps G O J B p w0 hT e h2⟩
end Go.Proofs.Ytnknefdpglnbnaa
