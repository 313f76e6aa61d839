/- value.all, value.Of. -/
import Derived.Test.YthafojadcodkoaaTve
import Derived.Test.YthafojadcodkoaaTo
namespace Go.Proofs.Ythafojadcodkoaa
open Go.RowKit

section
attribute [local irreducible] wpList
set_option maxRecDepth 100000 in
theorem all1_any {B : Nat} {v : Value} {x : Va} (w : World) (h : IsVa w B v x) (hB : B ≤ w.heap.size) :
    Calls Try.prog 71 #[v] w fun e w' => e = .returned (.bool (!mayV x)) ∧ Below w.heap.size w w' := by
  obtain ⟨k, n, s, A, len, cap, r, rfl⟩ := h.shape
  have C36 := Lib.hid (fun w' (hb : Below w.heap.size w w') => vmay_any w' (h.keep fun b hb' => hb.block b (Nat.lt_of_lt_of_le hb' hB)) (Nat.le_trans hB hb.size))
  clear h
  go_enter Try.func71, Try.ntmps71
  go_wp2_with (go_at_call 36; refine (C36.out _ (by repeat (first | exact Below.refl _ _ | assumption | apply Below.al | apply Below.dr))).mono ?_; rintro e w1 ⟨rfl, hb1⟩; have HB1 := Lib.hid hb1; clear hb1)
  go_ret
  exact ⟨rfl, bnext (by repeat (first | exact Below.refl _ _ | assumption | apply Below.al | apply Below.dr)) HB1.out⟩
set_option maxRecDepth 100000 in
set_option maxHeartbeats 1000000 in
theorem index77_any {B : Nat} {A : Option Addr} {len cap : Nat} {l : List Va} (w : World) (h : LR (fun b _ => b < B) 64 A len cap l (fun b o => IsVas w B b o l)) (hB : B ≤ w.heap.size) :
    Calls Try.prog 77 #[.slice A len cap, .func (.func 71) #[] #[]] w fun e w' => (∃ i : Int, e = .returned (.int .i64 i) ∧ decide (0 ≤ i) = !(l.all mayV)) ∧ Below w.heap.size w w' := by
  obtain ⟨rfl, hcap, hsz, h7⟩ := h
  have H7 := Lib.hid h7
  have hl : l.length ≤ 140737488351232 := by omega
  clear h7
  go_enter Try.func77, Try.ntmps77
  go_wp2_with fail
  go_loopw [8] (fun i wr => ∃ k : Nat, k ≤ l.length ∧ i = .int .i64 k ∧ (l.take k).all mayV = true ∧ Below w.heap.size w wr)
    (fun i _ => l.length - (intOf i).toNat)
  case atStart => exact ⟨0, Nat.zero_le _, rfl, by simp, Below.refl _ _⟩
  case round =>
    obtain ⟨k, hk, rfl, hu, hnx⟩ := hrel
    have HU := Lib.hid hu
    have HN := Lib.hid hnx
    have hs := hnx.size
    clear hu hnx
    by_cases hlt : k < l.length
    · obtain ⟨b, o, hbB, hA, hx⟩ := H7.out (by rintro rfl; simp at hlt)
      subst hA
      obtain ⟨k', n', s', A', len', cap', r', hat, hv⟩ := hx.at2 k hlt
      have hat : At wr b (o + k * 5) [.int .u8 k', .int .i64 n', .string s', .slice A' len' cap', .int .i64 r'] := fun j v hj => (HN.out.cell (by show b < _; omega)).trans (hat j v hj)
      have e0 := hat 0 _ rfl
      have e1 := hat 1 _ rfl
      have e2 := hat 2 _ rfl
      have e3 := hat 3 _ rfl
      have e4 := hat 4 _ rfl
      rw [Nat.add_zero] at e0
      have C71 := all1_any (B := B) wr (hv.keep fun b o hb' => HN.out.block b (Nat.lt_of_lt_of_le hb' hB)) (by omega)
      clear hx hv hat
      cases hm : mayV l[k] with
      | false =>
        have HM := Lib.hid hm
        rw [hm] at C71
        have C71 := Lib.hid C71
        clear hm
        go_wp2_with (go_at_call 71; refine C71.out.mono ?_; rintro e w1 ⟨rfl, hb1⟩; have HB1 := Lib.hid hb1; clear hb1)
        go_ret
        refine ⟨⟨_, rfl, ?_⟩, bnext HN.out HB1.out⟩
        have hf : l.all mayV = false := by
          rw [Bool.eq_false_iff]; intro ha
          have := List.all_eq_true.1 ha l[k] (List.getElem_mem hlt)
          rw [HM.out] at this; cases this
        simp [hf]
      | true =>
        have HM := Lib.hid hm
        rw [hm] at C71
        have C71 := Lib.hid C71
        clear hm
        go_wp2_with (go_at_call 71; refine C71.out.mono ?_; rintro e w1 ⟨rfl, hb1⟩; have HB1 := Lib.hid hb1; clear hb1)
        go_roundw
        case rel => exact ⟨k + 1, by omega, by go_num, by rw [List.take_succ_eq_append_getElem hlt, List.all_append, HU.out]; simp [HM.out], bnext HN.out HB1.out⟩
        case measure => simp [intOf]; omega
    · obtain rfl : k = l.length := by omega
      go_wp2_with fail
      go_ret
      have hu := HU.out
      rw [List.take_length] at hu
      exact ⟨⟨_, rfl, by rw [hu]; rfl⟩, HN.out⟩
set_option maxRecDepth 100000 in
theorem contains70_any {B : Nat} {A : Option Addr} {len cap : Nat} {l : List Va} (w : World) (h : LR (fun b _ => b < B) 64 A len cap l (fun b o => IsVas w B b o l)) (hB : B ≤ w.heap.size) :
    Calls Try.prog 70 #[.slice A len cap, .func (.func 71) #[] #[]] w fun e w' => e = .returned (.bool (!(l.all mayV))) ∧ Below w.heap.size w w' := by
  have C77 := Lib.hid (index77_any w h hB)
  clear h
  go_enter Try.func70, Try.ntmps70
  go_wp2_with (go_at_call 77; refine C77.out.mono ?_; rintro e w1 ⟨⟨i, rfl, hi⟩, hb1⟩; have HI := Lib.hid hi; have HB1 := Lib.hid hb1; clear hi hb1)
  go_ret
  exact ⟨by rw [← HI.out]; rfl, HB1.out⟩
set_option maxRecDepth 100000 in
theorem all58_any {B : Nat} {A : Option Addr} {len cap : Nat} {l : List Va} (w : World) (h : LR (fun b _ => b < B) 64 A len cap l (fun b o => IsVas w B b o l)) (hB : B ≤ w.heap.size) :
    Calls Try.prog 58 #[.slice A len cap] w fun e w' => e = .returned (.bool (l.all mayV)) ∧ Below w.heap.size w w' := by
  have C70 := Lib.hid (contains70_any w h hB)
  clear h
  go_enter Try.func58, Try.ntmps58
  go_wp2_with (go_at_call 70; refine C70.out.mono ?_; rintro e w1 ⟨rfl, hb1⟩; have HB1 := Lib.hid hb1; clear hb1)
  go_ret
  exact ⟨by simp, HB1.out⟩
def ofCode (l : List Va) : Int := if l.all mayV then if mayV (.mk 3 0 ⟨#[]⟩ l 0) then 0 else 4 else 2
set_option maxRecDepth 100000 in
set_option maxHeartbeats 2000000 in
theorem of37_any {B : Nat} {A : Option Addr} {len cap : Nat} {l : List Va} (w : World) (h : LR (fun b _ => b < B) 64 A len cap l (fun b o => IsVas w B b o l)) (hB : B ≤ w.heap.size) :
    Calls Try.prog 37 #[.slice A len cap] w fun e w' => Below w.heap.size w w' ∧ ∃ (k n : Int) (s : ByteArray) (A' : Option Addr) (len' cap' : Nat) (r : Int), e = .returned (.tuple #[.agg #[.int .u8 k, .int .i64 n, .string s, .slice A' len' cap', .int .i64 r], .int .i64 (ofCode l)]) := by
  have C58 := Lib.hid (fun w' (hb : Below w.heap.size w w') => all58_any (B := B) w' (h.imp fun b o hb' hp => ⟨hb', IsVasR.keep (fun b o hb' => hb.block b (Nat.lt_of_lt_of_le hb' hB)) (hb.block b (Nat.lt_of_lt_of_le hb' hB)) hp⟩) (Nat.le_trans hB hb.size))
  have hv : IsVa w B (.agg #[.int .u8 3, .int .i64 0, .string ⟨#[]⟩, .slice A len cap, .int .i64 0]) (.mk 3 0 ⟨#[]⟩ l 0) := by
    obtain ⟨rfl, hcap, hsz, h7⟩ := h
    unfold IsVaR
    exact ⟨by omega, by omega, by decide, hsz, A, cap, hcap, rfl, h7⟩
  have C36 := Lib.hid (fun w' (hb : Below w.heap.size w w') => vmay_any (B := B) w' (hv.keep fun b hb' => hb.block b (Nat.lt_of_lt_of_le hb' hB)) (Nat.le_trans hB hb.size))
  have C59 := Lib.hid (fun w' (hb : Below w.heap.size w w') => own_any (.mk 3 0 ⟨#[]⟩ l 0) w' B _ (hv.keep fun b hb' => hb.block b (Nat.lt_of_lt_of_le hb' hB)) (Nat.le_trans hB hb.size))
  obtain ⟨i49, hi49', hz490, hz49, hz492⟩ := info_parts info34
  have HI49 := Lib.hid hi49'
  clear h hv hi49'
  unfold ofCode
  obtain ⟨Z, hZ⟩ : ∃ Z, Z = w.alloc (.cells #[.int .u8 0, .int .i64 0, .string ⟨#[]⟩, .slice Option.none 0 0, .int .i64 0] 49) := ⟨_, rfl⟩
  have HBZ : Hid (Below w.heap.size w Z) := Lib.hid (by rw [hZ]; repeat (first | exact Below.refl _ _ | assumption | apply Below.al | apply Below.dr))
  have HZ : Hid (BlkN Z w.heap.size 49 #[.int .u8 0, .int .i64 0, .string ⟨#[]⟩, .slice Option.none 0 0, .int .i64 0]) := Lib.hid (by rw [hZ]; exact BlkN.at_ rfl _ _)
  cases ha : l.all mayV with
  | false =>
    rw [ha] at C58
    clear C36 C59
    go_enter Try.func37, Try.ntmps37
    go_upto_region 1 with fail
    rw [← hZ]
    clear hZ
    go_wp2_with (first
      | (go_at_call 58; refine (C58.out _ HBZ.out).mono ?_; rintro e w1 ⟨rfl, hb1⟩; have HB1 := Lib.hid hb1; clear hb1)
      | (refine wpList_store_blk rfl 49 (.tmp 2) (.tmp 8) rfl i49 HI49.out w.heap.size #[.int .u8 0, .int .i64 0, .string ⟨#[]⟩, .slice Option.none 0 0, .int .i64 0] rfl rfl 49 _ (HZ.out.below HB1.out) (by rw [hz49]; rfl) rfl (by simp [Value.oneCell']) ?_
         intro V hV hbut; have HV := Lib.hid hV; have HBut := Lib.hid hbut; clear hV hbut))
    refine bodyPost_ret (results_cell2 (s := 2) (t := 3) (b := w.heap.size) rfl Try.underlying49 HI49.out rfl HV.out (by rw [hz49]; rfl) rfl) rfl ⟨HBut.out.below (Nat.le_refl _) (bnext HBZ.out HB1.out), _, _, _, _, _, _, _, rfl⟩
  | true =>
    rw [ha] at C58
    cases hm : mayV (.mk 3 0 ⟨#[]⟩ l 0) with
    | false =>
      rw [hm] at C36
      clear C59
      go_enter Try.func37, Try.ntmps37
      go_upto_region 1 with fail
      rw [← hZ]
      clear hZ
      go_wp2_with (first
        | (go_at_call 58; refine (C58.out _ HBZ.out).mono ?_; rintro e w1 ⟨rfl, hb1⟩; have HB1 := Lib.hid (bnext HBZ.out hb1); have HZ1 := Lib.hid (HZ.out.below hb1); clear hb1)
        | (go_at_call 36; refine (C36.out _ (Below.al HB1.out)).mono ?_; rintro e w2 ⟨rfl, hb2⟩; have HB2 := Lib.hid (bnext (Below.al HB1.out) hb2); have HZ2 := Lib.hid (HZ1.out.below (bnext (Below.al (Below.refl _ _)) hb2)); clear hb2)
        | (refine wpList_store_blk rfl 49 (.tmp 2) (.tmp 14) rfl i49 HI49.out w.heap.size #[.int .u8 0, .int .i64 0, .string ⟨#[]⟩, .slice Option.none 0 0, .int .i64 0] rfl rfl 49 _ HZ2.out (by rw [hz49]; rfl) rfl (by simp [Value.oneCell']) ?_
           intro V hV hbut; have HV := Lib.hid hV; have HBut := Lib.hid hbut; clear hV hbut))
      refine bodyPost_ret (results_cell2 (s := 2) (t := 3) (b := w.heap.size) rfl Try.underlying49 HI49.out rfl HV.out (by rw [hz49]; rfl) rfl) rfl ⟨HBut.out.below (Nat.le_refl _) HB2.out, _, _, _, _, _, _, _, rfl⟩
    | true =>
      rw [hm] at C36
      go_enter Try.func37, Try.ntmps37
      go_upto_region 1 with fail
      rw [← hZ]
      clear hZ
      go_wp2_with (first
        | (go_at_call 58; refine (C58.out _ HBZ.out).mono ?_; rintro e w1 ⟨rfl, hb1⟩; have HB1 := Lib.hid (bnext HBZ.out hb1); have HZ1 := Lib.hid (HZ.out.below hb1); clear hb1)
        | (go_at_call 36; refine (C36.out _ (Below.al HB1.out)).mono ?_; rintro e w2 ⟨rfl, hb2⟩; have HB2 := Lib.hid (bnext (Below.al HB1.out) hb2); have HZ2 := Lib.hid (HZ1.out.below (bnext (Below.al (Below.refl _ _)) hb2)); have g4 := (BlkN.at_ (w := w1) rfl 49 #[.int .u8 3, .int .i64 0, .string ⟨#[]⟩, .slice A len cap, .int .i64 0]).below hb2; have g40 := g4.cell 0 rfl; have g41 := g4.cell 1 rfl; have g42 := g4.cell 2 rfl; have g43 := g4.cell 3 rfl; have g44 := g4.cell 4 rfl; clear hb2 g4)
        | (go_at_call 59; refine (C59.out _ HB2.out).mono ?_; rintro e w3 ⟨v3, rfl, hv3, hb3⟩; obtain ⟨k3, n3, s3, A3, len3, cap3, r3, rfl⟩ := hv3.shape; have HB3 := Lib.hid (bnext HB2.out hb3); have HZ3 := Lib.hid (HZ2.out.below hb3); clear hb3 hv3)
        | (refine wpList_store_blk rfl 49 (.tmp 2) (.tmp 16) rfl i49 HI49.out w.heap.size #[.int .u8 k3, .int .i64 n3, .string s3, .slice A3 len3 cap3, .int .i64 r3] rfl rfl 49 _ HZ3.out (by rw [hz49]; rfl) rfl (by simp [Value.oneCell']) ?_
           intro V hV hbut; have HV := Lib.hid hV; have HBut := Lib.hid hbut; clear hV hbut))
      refine bodyPost_ret (results_cell2 (s := 2) (t := 3) (b := w.heap.size) rfl Try.underlying49 HI49.out rfl HV.out (by rw [hz49]; rfl) rfl) rfl ⟨HBut.out.below (Nat.le_refl _) HB3.out, _, _, _, _, _, _, _, rfl⟩
end
end Go.Proofs.Ythafojadcodkoaa
