/- The document's answers on expressions, walked: MayName, parts, deep, fields, none, MayExpr. The document's answers on expressions, walked: MayName, fields, none, MayExpr. The document's answers on expressions, walked: fields, none, MayExpr. The document's answers on values, walked: parts, deep, fields, May. -/
import Derived.Test.YtnknefdpglnbnaaLb
namespace Go.Proofs.Ytnknefdpglnbnaa
open Go.RowKit

theorem prE_sz : ∀ (x : Ex) (d : Nat), prE x d ≤ 512 → prE x d = szE x := by
  intro x
  induction x using Ex.ind with
  | h k n s l IH =>
    intro d h
    unfold prE at h ⊢
    unfold szE
    split at h
    · omega
    · rename_i hd
      rw [if_neg hd]
      have key : ∀ (l' : List Ex) (m : Nat), (∀ x ∈ l', ∀ d, prE x d ≤ 512 → prE x d = szE x) → prEs l' (d + 1) m ≤ 512 → prEs l' (d + 1) m = m + szEs l' := by
        intro l'
        induction l' with
        | nil => intro m _ _; simp [prEs, szEs]
        | cons y l' ih =>
          intro m hI hm
          have hge := prEs_ge l' (d + 1) (m + prE y (d + 1))
          unfold prEs at hm ⊢
          unfold szEs
          split at hm
          · rename_i hm5
            rw [if_pos hm5]
            have h1 := ih _ (fun x hx => hI x (List.mem_cons_of_mem _ hx)) hm
            have h2 := hI y (List.mem_cons_self ..) (d + 1) (by omega)
            omega
          · omega
      exact key l 1 IH h
theorem prEs_cons (x : Ex) (l : List Ex) (d n : Nat) : prEs (x :: l) d n = if n ≤ 512 then prEs l d (n + prE x d) else n := by simp [prEs]
theorem dpEs_consE (x : Ex) (l : List Ex) (m : Nat) : dpEs (x :: l) m = dpEs l (max m (dpE x)) := by simp [dpEs]
def PartsC (x : Ex) : Prop := ∀ (w : World) (B : Nat) (v : Value) (d : Nat) (z : Int), z = d → IsEx w B v x → B ≤ w.heap.size → d ≤ 17 →
  Calls Try.prog 69 #[v, .int .i64 z] w fun e w' => e = .returned (.int .i64 (prE x d : Nat)) ∧ Below w.heap.size w w'
set_option maxRecDepth 100000 in
set_option maxHeartbeats 1000000 in
theorem parts_any (x : Ex) : PartsC x := by
  induction x using Ex.ind with
  | h k n s l IH =>
  intro w B v d z hz h hB hd
  subst hz
  obtain ⟨h1, h2, h3, h4, A, cap, h5, rfl, h7⟩ := h.form
  have H7 := Lib.hid h7
  have HI := Lib.hid IH
  have HQ : Hid (BlkN (w.alloc (.cells #[.int .u8 k, .int .i64 n, .string s, .slice A l.length cap] 26)) w.heap.size 26 #[.int .u8 k, .int .i64 n, .string s, .slice A l.length cap]) := Lib.hid (BlkN.at_ rfl _ _)
  have HB0 := Lib.hid ((Below.refl w.heap.size w).alloc (Nat.le_refl _) (.cells #[.int .u8 k, .int .i64 n, .string s, .slice A l.length cap] 26))
  clear h h7 IH
  by_cases hd16 : 16 < d
  · have e : prE (.mk k n s l) d = 513 := by unfold prE; rw [if_pos hd16]
    rw [e]
    clear e
    have hc : (16 : Int) < d := by omega
    go_enter Try.func69, Try.ntmps69
    go_wp2_with fail
    go_ret
    exact ⟨rfl, HB0.out⟩
  · obtain ⟨T, hT⟩ : ∃ T, T = prEs l (d + 1) 1 := ⟨_, rfl⟩
    have e : prE (.mk k n s l) d = T := by unfold prE; rw [if_neg hd16, hT]
    rw [e]
    have hc : ¬ (16 : Int) < d := by omega
    have HT0 := Lib.hid hT
    clear e hT
    go_enter Try.func69, Try.ntmps69
    go_wp2_with fail
    go_loopw [5, 6] (fun m i wr => ∃ j q : Nat, j ≤ l.length ∧ q ≤ 20000 ∧ i = .int .i64 j ∧ m = .int .i64 q ∧ prEs (l.drop j) (d + 1) q = T ∧ Below w.heap.size w wr ∧ BlkN wr w.heap.size 26 #[.int .u8 k, .int .i64 n, .string s, .slice A l.length cap]) (fun _ i _ => l.length - (intOf i).toNat)
    case atStart => exact ⟨0, 1, by omega, by omega, rfl, rfl, by simpa using HT0.out.symm, HB0.out, HQ.out⟩
    case round =>
      obtain ⟨j, q, hj, hq, rfl, rfl, ht, hu, hb0⟩ := hrel
      have HT := Lib.hid ht
      have HU := Lib.hid hu
      have HC := Lib.hid hb0
      have hsz := hb0.lt
      have y3 := hb0.cell 3 rfl
      clear ht hu hb0
      by_cases hlt : j < l.length
      · by_cases hq5 : q ≤ 512
        · have hq5' : (q : Int) ≤ 512 := by omega
          obtain ⟨b, o, hbB, hA, hx⟩ := H7.out (by rintro rfl; simp at hlt)
          subst hA
          obtain ⟨k', n', s', A', len', cap', hat, hx1⟩ := hx.at2 j hlt
          have hat' := hat.keep hbB (fun b hb => HU.out.block b (by omega))
          obtain ⟨e0, e1, e2, e3⟩ := hat'.four
          have HDD := Lib.hid (List.drop_eq_getElem_cons hlt)
          have hcall := HI.out l[j] (List.getElem_mem hlt) wr B _ (d + 1) ((d : Int) + 1) (by omega) (IsEx.keep (w' := wr) (fun b hb => HU.out.block b (by omega)) hx1) (by omega) (by omega)
          have hbd := prE_bd l[j] (d + 1)
          obtain ⟨pp, hpp⟩ : ∃ pp, pp = prE l[j] (d + 1) := ⟨_, rfl⟩
          rw [← hpp] at hcall hbd
          have hbd2 : pp ≤ 10000 := by omega
          have HPP := Lib.hid hpp
          have HCALL := Lib.hid hcall
          clear hat hat' hx hx1 hcall hpp hbd
          go_wp2_with (go_at_call 69; refine HCALL.out.mono ?_; rintro e w1 ⟨rfl, hb1⟩)
          go_roundw
          case rel => exact ⟨j + 1, q + pp, by omega, by omega, by go_num, by go_num, by rw [← HT.out, HDD.out, prEs_cons, if_pos hq5, ← HPP.out], HU.out.trans (hb1.mono (by omega)), HC.out.below hb1⟩
          case measure => simp [intOf]; omega
        · have hq5' : ¬ (q : Int) ≤ 512 := by omega
          have HTq : Hid (T = q) := Lib.hid (by rw [← HT.out, List.drop_eq_getElem_cons hlt]; unfold prEs; rw [if_neg hq5])
          go_wp2_with fail
          go_ret
          rw [HTq.out]
          exact ⟨rfl, HU.out⟩
      · obtain rfl : j = l.length := by omega
        have HTq : Hid (T = q) := Lib.hid (by rw [← HT.out, List.drop_length]; rfl)
        go_wp2_with fail
        go_ret
        rw [HTq.out]
        exact ⟨rfl, HU.out⟩
def DeepC (x : Ex) : Prop := ∀ (w : World) (B : Nat) (v : Value), IsEx w B v x → B ≤ w.heap.size → szE x ≤ 100000 →
  Calls Try.prog 70 #[v] w fun e w' => e = .returned (.int .i64 (dpE x : Nat)) ∧ Below w.heap.size w w'
theorem szE_mem {l : List Ex} {x : Ex} (h : x ∈ l) : szE x ≤ szEs l := by
  induction l with
  | nil => simp at h
  | cons y l ih =>
    unfold szEs
    rcases List.mem_cons.1 h with rfl | h
    · omega
    · have := ih h; omega
set_option maxRecDepth 100000 in
set_option maxHeartbeats 1000000 in
theorem deep_any (x : Ex) : DeepC x := by
  induction x using Ex.ind with
  | h k n s l IH =>
  intro w B v h hB hs0
  obtain ⟨h1, h2, h3, h4, A, cap, h5, rfl, h7⟩ := h.form
  have H7 := Lib.hid h7
  have HI := Lib.hid IH
  have HQ : Hid (BlkN (w.alloc (.cells #[.int .u8 k, .int .i64 n, .string s, .slice A l.length cap] 26)) w.heap.size 26 #[.int .u8 k, .int .i64 n, .string s, .slice A l.length cap]) := Lib.hid (BlkN.at_ rfl _ _)
  have HB0 := Lib.hid ((Below.refl w.heap.size w).alloc (Nat.le_refl _) (.cells #[.int .u8 k, .int .i64 n, .string s, .slice A l.length cap] 26))
  have hsz0 : szEs l ≤ 100000 := by unfold szE at hs0; omega
  clear h h7 IH
  by_cases hk : k = 3
  · obtain ⟨T, hT⟩ : ∃ T, T = dpEs l 0 := ⟨_, rfl⟩
    have hTb : T ≤ 100000 := by have := dpEs_sz l; omega
    have e : dpE (.mk k n s l) = T + 1 := by unfold dpE; rw [if_pos hk, hT]
    rw [e]
    have hk1 : (k != 3) = false := by rw [hk]; rfl
    have HT0 := Lib.hid hT
    clear e hT hk
    go_enter Try.func70, Try.ntmps70
    go_wp2_with fail
    go_loopw [3, 4] (fun m i wr => ∃ j q : Nat, j ≤ l.length ∧ q ≤ 100000 ∧ i = .int .i64 j ∧ m = .int .i64 q ∧ dpEs (l.drop j) q = T ∧ Below w.heap.size w wr ∧ BlkN wr w.heap.size 26 #[.int .u8 k, .int .i64 n, .string s, .slice A l.length cap]) (fun _ i _ => l.length - (intOf i).toNat)
    case atStart => exact ⟨0, 0, by omega, by omega, rfl, rfl, by simpa using HT0.out.symm, HB0.out, HQ.out⟩
    case round =>
      obtain ⟨j, q, hj, hq, rfl, rfl, ht, hu, hb0⟩ := hrel
      have HT := Lib.hid ht
      have HU := Lib.hid hu
      have HC := Lib.hid hb0
      have hsz := hb0.lt
      have y3 := hb0.cell 3 rfl
      clear ht hu hb0
      by_cases hlt : j < l.length
      · obtain ⟨b, o, hbB, hA, hx⟩ := H7.out (by rintro rfl; simp at hlt)
        subst hA
        obtain ⟨k', n', s', A', len', cap', hat, hx1⟩ := hx.at2 j hlt
        have hat' := hat.keep hbB (fun b hb => HU.out.block b (by omega))
        obtain ⟨e0, e1, e2, e3⟩ := hat'.four
        have HDD := Lib.hid (List.drop_eq_getElem_cons hlt)
        have hsj := szE_mem (List.getElem_mem hlt)
        have hcall := HI.out l[j] (List.getElem_mem hlt) wr B _ (IsEx.keep (w' := wr) (fun b hb => HU.out.block b (by omega)) hx1) (by omega) (by omega)
        have hbd := dpE_sz l[j]
        obtain ⟨pp, hpp⟩ : ∃ pp, pp = dpE l[j] := ⟨_, rfl⟩
        rw [← hpp] at hcall hbd
        have hbd2 : pp ≤ 100000 := by omega
        have HPP := Lib.hid hpp
        have HCALL := Lib.hid hcall
        clear hat hat' hx hx1 hcall hpp hbd hsj
        by_cases hmx : q < pp
        · have hmx2 : ¬ (pp : Int) ≤ q := by omega
          have hmx3 : max q pp = pp := by omega
          have HMX := Lib.hid hmx3
          clear hmx3
          go_wp2_with (go_at_call 70; refine HCALL.out.mono ?_; rintro e w1 ⟨rfl, hb1⟩)
          go_roundw
          case rel => exact ⟨j + 1, pp, by omega, by omega, by go_num, by go_num, by rw [← HT.out, HDD.out, dpEs_consE, ← HPP.out, HMX.out], HU.out.trans (hb1.mono (by omega)), HC.out.below hb1⟩
          case measure => simp [intOf]; omega
        · have hmx2 : (pp : Int) ≤ q := by omega
          have hmx3 : max q pp = q := by omega
          have HMX := Lib.hid hmx3
          clear hmx3
          go_wp2_with (go_at_call 70; refine HCALL.out.mono ?_; rintro e w1 ⟨rfl, hb1⟩)
          go_roundw
          case rel => exact ⟨j + 1, q, by omega, by omega, by go_num, by go_num, by rw [← HT.out, HDD.out, dpEs_consE, ← HPP.out, HMX.out], HU.out.trans (hb1.mono (by omega)), HC.out.below hb1⟩
          case measure => simp [intOf]; omega
      · obtain rfl : j = l.length := by omega
        have HTq : Hid (T = q) := Lib.hid (by rw [← HT.out, List.drop_length]; rfl)
        go_wp2_with fail
        go_ret
        rw [HTq.out]
        exact ⟨rfl, HU.out⟩
  · have e : dpE (.mk k n s l) = 0 := by unfold dpE; rw [if_neg hk]
    rw [e]
    clear e
    have hk1 : (k != 3) = true := by simpa using hk
    go_enter Try.func70, Try.ntmps70
    go_wp2_with fail
    go_ret
    exact ⟨rfl, HB0.out⟩
end Go.Proofs.Ytnknefdpglnbnaa
namespace Go.Proofs.Ytnknefdpglnbnaa
open Go.RowKit

set_option maxRecDepth 100000 in
set_option maxHeartbeats 1000000 in
theorem mayName39_any (s : ByteArray) (w : World) (hs : s.size ≤ 140737488351232) :
    Calls Try.prog 39 #[.string s] w fun e w' => e = .returned (.bool (mayN s)) ∧ w = w' := by
  go_enter Try.func39, Try.ntmps39
  go_wp2
  go_loop [3] (fun i => ∃ k : Nat, k ≤ s.size ∧ i = .int .i64 k ∧ (s.data.toList.take k).all lowDig = true ∧ (0 < k → headOk s.data.toList = true)) (fun i => s.size - (intOf i).toNat)
  case atStart => exact ⟨0, by omega, rfl, rfl, fun h => by omega⟩
  case round =>
    obtain ⟨k, hk, rfl, hall, hhd⟩ := hrel
    have HA := Lib.hid hall
    have HD := Lib.hid hhd
    clear hall hhd
    by_cases hlt : k < s.size
    · have HS := Lib.hid (all_take_succ s.data.toList k (by simpa using hlt))
      have HF := Lib.hid (all_take_false s.data.toList k (by simpa using hlt))
      obtain ⟨c, hc⟩ : ∃ c, c = s[k].toNat := ⟨_, rfl⟩
      have HC : Hid (c = s.data[k].toNat) := Lib.hid hc
      have hc256 : c < 256 := by rw [hc]; exact s[k].toNat_lt
      rcases (show c < 48 ∨ (57 < c ∧ c < 97) ∨ 122 < c ∨ (48 ≤ c ∧ c ≤ 57) ∨ (97 ≤ c ∧ c ≤ 122) from by omega) with h | ⟨h, h'⟩ | h | ⟨h, h'⟩ | ⟨h, h'⟩
      · have HM : Hid (mayN s = false) := Lib.hid (mayN_all s (HF.out (by show lowDig s.data[k] = false; unfold lowDig; rw [← HC.out]; simp [lowC, digC]; omega)))
        have g1 : (s[k].toNat : Int) < 97 := by omega
        have g2 : (s[k].toNat : Int) < 48 := by omega
        clear h hc hc256
        go_wp2
        go_ret
        exact ⟨by rw [HM.out]; rfl, rfl⟩
      · have HM : Hid (mayN s = false) := Lib.hid (mayN_all s (HF.out (by show lowDig s.data[k] = false; unfold lowDig; rw [← HC.out]; simp [lowC, digC]; omega)))
        have g1 : (s[k].toNat : Int) < 97 := by omega
        have g2 : (48 : Int) ≤ s[k].toNat := by omega
        have g3 : (57 : Int) < s[k].toNat := by omega
        clear h h' hc hc256
        go_wp2
        go_ret
        exact ⟨by rw [HM.out]; rfl, rfl⟩
      · have HM : Hid (mayN s = false) := Lib.hid (mayN_all s (HF.out (by show lowDig s.data[k] = false; unfold lowDig; rw [← HC.out]; simp [lowC, digC]; omega)))
        have g1 : (97 : Int) ≤ s[k].toNat := by omega
        have g2 : decide ((s[k].toNat : Int) ≤ 122) = false := decide_eq_false (by omega)
        have g3 : (57 : Int) < s[k].toNat := by omega
        have g4 : (48 : Int) ≤ s[k].toNat := by omega
        clear h hc hc256
        go_wp2
        go_ret
        exact ⟨by rw [HM.out]; rfl, rfl⟩
      · have g1 : (s[k].toNat : Int) < 97 := by omega
        have g2 : (48 : Int) ≤ s[k].toNat := by omega
        have g3 : (s[k].toNat : Int) ≤ 57 := by omega
        by_cases hk0 : k = 0
        · have HM : Hid (mayN s = false) := Lib.hid (mayN_head s (by rw [headOk_at s (by simpa [hk0] using hlt)]; have e := HC.out; simp only [hk0] at e; rw [← e]; simp [lowC]; omega))
          subst hk0
          clear h h' hc hc256
          go_wp2
          go_ret
          exact ⟨by rw [HM.out]; rfl, rfl⟩
        · have hk1 : ((k : Int) == 0) = false := by rw [beq_eq_false_iff_ne]; omega
          have HL : Hid (lowDig s.data[k] = true) := Lib.hid (by unfold lowDig; rw [← HC.out]; simp [lowC, digC]; omega)
          clear h h' hc hc256
          go_wp2
          go_round
          case rel => exact ⟨k + 1, by omega, by go_num, by rw [HS.out, HA.out, Bool.true_and]; exact HL.out, fun _ => HD.out (by omega)⟩
          case measure => simp [intOf]; omega
      · have g1 : (97 : Int) ≤ s[k].toNat := by omega
        have g2 : (s[k].toNat : Int) ≤ 122 := by omega
        have g3 : (57 : Int) < s[k].toNat := by omega
        have g4 : (48 : Int) ≤ s[k].toNat := by omega
        have HL : Hid (lowDig s.data[k] = true) := Lib.hid (by unfold lowDig; rw [← HC.out]; simp [lowC, digC]; omega)
        have HLC : Hid (lowC s.data[k].toNat = true) := Lib.hid (by rw [← HC.out]; simp [lowC]; omega)
        clear h h' hc hc256
        go_wp2
        go_round
        case rel =>
          refine ⟨k + 1, by omega, by go_num, by rw [HS.out, HA.out, Bool.true_and]; exact HL.out, fun _ => ?_⟩
          by_cases hk0 : k = 0
          · subst hk0; rw [headOk_at s (by simpa using hlt)]; exact HLC.out
          · exact HD.out (by omega)
        case measure => simp [intOf]; omega
    · obtain rfl : k = s.size := by omega
      have HT : Hid (mayN s = (decide (s.size ≤ 32) && decide (1 ≤ s.size))) := Lib.hid (by
        have h := HA.out
        rw [List.take_of_length_le (by simp)] at h
        by_cases hz : s.size = 0
        · rw [mayN_head s (by obtain ⟨⟨l⟩⟩ := s; cases l with | nil => rfl | cons b t => simp [ByteArray.size] at hz), hz]; rfl
        · have h1 : decide (1 ≤ s.size) = true := decide_eq_true (by omega)
          simp only [mayN, HD.out (by omega), h, h1, Bool.and_true])
      by_cases h1 : 1 ≤ s.size
      · have h1' : (1 : Int) ≤ s.size := by omega
        have e1 : Hid (decide (1 ≤ s.size) = true) := Lib.hid (decide_eq_true h1)
        by_cases h2 : s.size ≤ 32
        · have h2' : (s.size : Int) ≤ 32 := by omega
          have e2 : Hid (decide (s.size ≤ 32) = true) := Lib.hid (decide_eq_true h2)
          go_wp2
          go_ret
          exact ⟨by rw [HT.out, e1.out, e2.out]; rfl, rfl⟩
        · have h2' : ¬ (s.size : Int) ≤ 32 := by omega
          have e2 : Hid (decide (s.size ≤ 32) = false) := Lib.hid (decide_eq_false h2)
          go_wp2
          go_ret
          exact ⟨by rw [HT.out, e1.out, e2.out]; rfl, rfl⟩
      · have h1' : ¬ (1 : Int) ≤ s.size := by omega
        have e1 : Hid (decide (1 ≤ s.size) = false) := Lib.hid (decide_eq_false h1)
        go_wp2
        go_ret
        exact ⟨by rw [HT.out, e1.out, Bool.and_false]; rfl, rfl⟩
end Go.Proofs.Ytnknefdpglnbnaa
namespace Go.Proofs.Ytnknefdpglnbnaa
open Go.RowKit

def FieldsC (x : Ex) : Prop := ∀ (w : World) (B : Nat) (v : Value), IsEx w B v x → B ≤ w.heap.size →
  Calls Try.prog 71 #[v] w fun e w' => e = .returned (.bool (fldE x)) ∧ Below w.heap.size w w'
theorem fldEs_cons (x : Ex) (l : List Ex) : fldEs (x :: l) = (fldE x && fldEs l) := by simp [fldEs]
theorem fldE_mk (k n : Int) (s : ByteArray) (l : List Ex) : fldE (.mk k n s l) = (fldEs l && fldOk k n s l.length) := by simp [fldE]
set_option maxRecDepth 100000 in
set_option maxHeartbeats 1000000 in
theorem fields_any (x : Ex) : FieldsC x := by
  induction x using Ex.ind with
  | h k n s l IH =>
  intro w B v h hB
  obtain ⟨h1, h2, h3, h4, A, cap, h5, rfl, h7⟩ := h.form
  have H7 := Lib.hid h7
  have HI := Lib.hid IH
  have HQ : Hid (BlkN (w.alloc (.cells #[.int .u8 k, .int .i64 n, .string s, .slice A l.length cap] 26)) w.heap.size 26 #[.int .u8 k, .int .i64 n, .string s, .slice A l.length cap]) := Lib.hid (BlkN.at_ rfl _ _)
  have HB0 := Lib.hid ((Below.refl w.heap.size w).alloc (Nat.le_refl _) (.cells #[.int .u8 k, .int .i64 n, .string s, .slice A l.length cap] 26))
  obtain ⟨T, hT⟩ : ∃ T, T = fldE (.mk k n s l) := ⟨_, rfl⟩
  rw [← hT]
  have HTT := Lib.hid hT
  clear h h7 IH hT
  go_enter Try.func71, Try.ntmps71
  go_wp2_with fail
  go_loopw [3] (fun i wr => ∃ j : Nat, j ≤ l.length ∧ i = .int .i64 j ∧ fldEs (l.drop j) = fldEs l ∧ Below w.heap.size w wr ∧ BlkN wr w.heap.size 26 #[.int .u8 k, .int .i64 n, .string s, .slice A l.length cap]) (fun i _ => l.length - (intOf i).toNat)
  case atStart => exact ⟨0, by omega, rfl, rfl, HB0.out, HQ.out⟩
  case round =>
    obtain ⟨j, hj, rfl, ht, hu, hb0⟩ := hrel
    have HT := Lib.hid ht
    have HU := Lib.hid hu
    have HC := Lib.hid hb0
    have hsz := hb0.lt
    have y0 := hb0.cell 0 rfl
    have y1 := hb0.cell 1 rfl
    have y2 := hb0.cell 2 rfl
    have y3 := hb0.cell 3 rfl
    clear ht hu hb0
    by_cases hlt : j < l.length
    · obtain ⟨b, o, hbB, hA, hx⟩ := H7.out (by rintro rfl; simp at hlt)
      subst hA
      obtain ⟨k', n', s', A', len', cap', hat, hx1⟩ := hx.at2 j hlt
      have hat' := hat.keep hbB (fun b hb => HU.out.block b (by omega))
      obtain ⟨e0, e1, e2, e3⟩ := hat'.four
      have HDD := Lib.hid (List.drop_eq_getElem_cons hlt)
      have hcall := HI.out l[j] (List.getElem_mem hlt) wr B _ (IsEx.keep (w' := wr) (fun b hb => HU.out.block b (by omega)) hx1) (by omega)
      obtain ⟨pp, hpp⟩ : ∃ pp, pp = fldE l[j] := ⟨_, rfl⟩
      rw [← hpp] at hcall
      have HPP := Lib.hid hpp
      have HCALL := Lib.hid hcall
      clear hat hat' hx hx1 hcall hpp
      cases pp
      · have HF : Hid (T = false) := Lib.hid (by rw [HTT.out, fldE_mk, ← HT.out, HDD.out, fldEs_cons, ← HPP.out]; rfl)
        go_wp2_with (go_at_call 71; refine HCALL.out.mono ?_; rintro e w1 ⟨rfl, hb1⟩)
        go_ret
        rw [HF.out]
        exact ⟨rfl, HU.out.trans (hb1.mono (by omega))⟩
      · go_wp2_with (go_at_call 71; refine HCALL.out.mono ?_; rintro e w1 ⟨rfl, hb1⟩)
        go_roundw
        case rel => exact ⟨j + 1, by omega, by go_num, by rw [← HT.out, HDD.out, fldEs_cons, ← HPP.out]; rfl, HU.out.trans (hb1.mono (by omega)), HC.out.below hb1⟩
        case measure => simp [intOf]; omega
    · obtain rfl : j = l.length := by omega
      have HF : Hid (T = fldOk k n s l.length) := Lib.hid (by rw [HTT.out, fldE_mk, ← HT.out, List.drop_length]; simp [fldEs])
      clear HT HC HQ HB0 HI H7 HTT
      by_cases k1 : k = 1
      · subst k1
        go_wp2_with fail
        all_goals
          go_ret
          refine ⟨ret_bool ?_, HU.out⟩
          rw [HF.out]
          first | (simp [fldOk, *]; done) | (simp [fldOk, *]; intros; omega) | (simp [fldOk, *]; rw [Bool.eq_iff_iff]; simp)
      · by_cases k2 : k = 2
        · subst k2
          go_wp2_with fail
          all_goals
            go_ret
            refine ⟨ret_bool ?_, HU.out⟩
            rw [HF.out]
            first | (simp [fldOk, *]; done) | (simp [fldOk, *]; intros; omega) | (simp [fldOk, *]; rw [Bool.eq_iff_iff]; simp)
        · by_cases k3 : k = 3
          · subst k3
            go_wp2_with fail
            all_goals
              go_ret
              refine ⟨ret_bool ?_, HU.out⟩
              rw [HF.out]
              first | (simp [fldOk, *]; done) | (simp [fldOk, *]; intros; omega) | (simp [fldOk, *]; rw [Bool.eq_iff_iff]; simp)
          · by_cases k4 : k = 4
            · subst k4
              obtain ⟨mm, hmm⟩ : ∃ mm, mm = mayN s := ⟨_, rfl⟩
              have hcall := fun w => mayName39_any s w h3
              rw [← hmm] at hcall
              have HCALL := Lib.hid hcall
              have HMM := Lib.hid hmm
              clear hcall hmm
              go_wp2_with (go_at_call 39; refine (HCALL.out _).mono ?_; rintro e w1 ⟨rfl, rfl⟩)
              all_goals
                go_ret
                refine ⟨ret_bool ?_, HU.out⟩
                rw [HF.out]
                first | (simp [fldOk, ← HMM.out, *]; done) | (simp [fldOk, ← HMM.out, *]; rw [Bool.eq_iff_iff]; simp)
            · have e1 : (k == 1) = false := by simpa using k1
              have e2 : (k == 2) = false := by simpa using k2
              have e3 : (k == 3) = false := by simpa using k3
              have e4 : (k == 4) = false := by simpa using k4
              have HF2 : Hid (fldOk k n s l.length = false) := Lib.hid (by simp [fldOk, k1, k2, k3, k4])
              clear k1 k2 k3 k4
              go_wp2_with fail
              go_ret
              rw [HF.out, HF2.out]
              exact ⟨rfl, HU.out⟩
set_option maxHeartbeats 400000 in
theorem none65_any {B : Nat} {v : Value} {x : Ex} (w : World) (h : IsEx w B v x) :
    Calls Try.prog 65 #[v] w fun e w' => e = .returned (.bool (noneX x)) ∧ Below w.heap.size w w' := by
  obtain ⟨k, n, s, l⟩ := x
  obtain ⟨h1, h2, h3, h4, A, cap, h5, rfl, h7⟩ := h.form
  clear h h7
  go_enter Try.func65, Try.ntmps65
  go_wp2
  all_goals
    go_ret
    refine ⟨ret_bool ?_, (Below.refl _ _).alloc (Nat.le_refl _) _⟩
    first | (simp [noneX, *]; done) | (simp [noneX, *]; rw [Bool.eq_iff_iff]; simp)
set_option maxRecDepth 100000 in
set_option maxHeartbeats 1000000 in
theorem MayExpr22_any {B : Nat} {v : Value} {x : Ex} (w : World) (h : IsEx w B v x) (hB : B ≤ w.heap.size) :
    Calls Try.prog 22 #[v] w fun e w' => e = .returned (.bool (mayE x)) ∧ Below w.heap.size w w' := by
  have HH := Lib.hid h
  have HM := Lib.hid (mayE_eq x)
  have HP := Lib.hid (prE_sz x 0)
  have hbd := prE_bd x 0
  have hc1 := fun w' (hb : Below w.heap.size w w') => parts_any x w' B v 0 0 rfl (h.keep (fun b hl => hb.block b (by omega))) (Nat.le_trans hB hb.size) (by omega)
  have hc2 := fun (hs : szE x ≤ 100000) w' (hb : Below w.heap.size w w') => deep_any x w' B v (h.keep (fun b hl => hb.block b (by omega))) (Nat.le_trans hB hb.size) hs
  have hc3 := fun w' (hb : Below w.heap.size w w') => fields_any x w' B v (h.keep (fun b hl => hb.block b (by omega))) (Nat.le_trans hB hb.size)
  obtain ⟨pp, hpp⟩ : ∃ pp, pp = prE x 0 := ⟨_, rfl⟩
  obtain ⟨dd, hdd⟩ : ∃ dd, dd = dpE x := ⟨_, rfl⟩
  obtain ⟨ff, hff⟩ : ∃ ff, ff = fldE x := ⟨_, rfl⟩
  rw [← hpp] at hc1 HM HP hbd
  rw [← hdd] at HM
  rw [← hff] at hc3 HM
  have hc2' := hc2
  rw [← hdd] at hc2'
  have C1 := Lib.hid hc1
  have C2 := Lib.hid hc2'
  have C3 := Lib.hid hc3
  obtain ⟨k, n, s, l⟩ := x
  obtain ⟨h1, h2, h3, h4, A, cap, h5, rfl, h7⟩ := h.form
  have HQ : Hid (BlkN (w.alloc (.cells #[.int .u8 k, .int .i64 n, .string s, .slice A l.length cap] 26)) w.heap.size 26 #[.int .u8 k, .int .i64 n, .string s, .slice A l.length cap]) := Lib.hid (BlkN.at_ rfl _ _)
  have HB0 := Lib.hid ((Below.refl w.heap.size w).alloc (Nat.le_refl _) (.cells #[.int .u8 k, .int .i64 n, .string s, .slice A l.length cap] 26))
  have HDD := Lib.hid hdd
  clear h h7 hc1 hc2 hc3 hc2' hpp hdd hff
  by_cases g1 : pp ≤ 512
  · have g1' : (pp : Int) ≤ 512 := by omega
    have hsz : szE (.mk k n s l) ≤ 100000 := by have := HP.out g1; omega
    have hds : dd ≤ 100000 := by have := dpE_sz (.mk k n s l); have := HDD.out; omega
    have e1 : Hid (decide (pp ≤ 512) = true) := Lib.hid (decide_eq_true g1)
    have D2 := Lib.hid (C2.out hsz)
    clear C2
    by_cases g2 : dd ≤ 16
    · have g2' : (dd : Int) ≤ 16 := by omega
      have e2 : Hid (decide (dd ≤ 16) = true) := Lib.hid (decide_eq_true g2)
      go_enter Try.func22, Try.ntmps22
      go_wp2_with (first | (go_at_call 69; refine (C1.out _ HB0.out).mono ?_; rintro e w1 ⟨rfl, hb1⟩; have hq1 := HQ.out.below hb1; have y0 := hq1.cell 0 rfl; have y1 := hq1.cell 1 rfl; have y2 := hq1.cell 2 rfl; have y3 := hq1.cell 3 rfl; have hB1 := HB0.out.trans (hb1.mono (by simp))) | (go_at_call 70; refine (D2.out _ hB1).mono ?_; rintro e w2 ⟨rfl, hb2⟩; have hq2 := hq1.below hb2; have z0 := hq2.cell 0 rfl; have z1 := hq2.cell 1 rfl; have z2 := hq2.cell 2 rfl; have z3 := hq2.cell 3 rfl; have hB2 := hB1.trans (hb2.mono hB1.size)) | (go_at_call 71; refine (C3.out _ hB2).mono ?_; rintro e w3 ⟨rfl, hb3⟩))
      go_ret
      rw [HM.out, e1.out, e2.out]
      exact ⟨rfl, hB2.trans (hb3.mono hB2.size)⟩
    · have g2' : ¬ (dd : Int) ≤ 16 := by omega
      have e2 : Hid (decide (dd ≤ 16) = false) := Lib.hid (decide_eq_false g2)
      go_enter Try.func22, Try.ntmps22
      go_wp2_with (first | (go_at_call 69; refine (C1.out _ HB0.out).mono ?_; rintro e w1 ⟨rfl, hb1⟩; have hq1 := HQ.out.below hb1; have y0 := hq1.cell 0 rfl; have y1 := hq1.cell 1 rfl; have y2 := hq1.cell 2 rfl; have y3 := hq1.cell 3 rfl; have hB1 := HB0.out.trans (hb1.mono (by simp))) | (go_at_call 70; refine (D2.out _ hB1).mono ?_; rintro e w2 ⟨rfl, hb2⟩; have hB2 := hB1.trans (hb2.mono hB1.size)))
      go_ret
      rw [HM.out, e1.out, e2.out]
      exact ⟨rfl, hB2⟩
  · have g1' : ¬ (pp : Int) ≤ 512 := by omega
    have e1 : Hid (decide (pp ≤ 512) = false) := Lib.hid (decide_eq_false g1)
    clear C2
    go_enter Try.func22, Try.ntmps22
    go_wp2_with (go_at_call 69; refine (C1.out _ HB0.out).mono ?_; rintro e w1 ⟨rfl, hb1⟩; have hB1 := HB0.out.trans (hb1.mono (by simp)))
    go_ret
    rw [HM.out, e1.out]
    exact ⟨rfl, hB1⟩
end Go.Proofs.Ytnknefdpglnbnaa
namespace Go.Proofs.Ytnknefdpglnbnaa
open Go.RowKit

theorem prV_sz : ∀ (x : Va) (d : Nat), prV x d ≤ 512 → prV x d = szV x := by
  intro x
  induction x using Va.ind with
  | h k n s l r IH =>
    intro d h
    unfold prV at h ⊢
    unfold szV
    split at h
    · omega
    · rename_i hd
      rw [if_neg hd]
      have key : ∀ (l' : List Va) (m : Nat), (∀ x ∈ l', ∀ d, prV x d ≤ 512 → prV x d = szV x) → prVs l' (d + 1) m ≤ 512 → prVs l' (d + 1) m = m + szVs l' := by
        intro l'
        induction l' with
        | nil => intro m _ _; simp [prVs, szVs]
        | cons y l' ih =>
          intro m hI hm
          have hge := prVs_ge l' (d + 1) (m + prV y (d + 1))
          unfold prVs at hm ⊢
          unfold szVs
          split at hm
          · rename_i hm5
            rw [if_pos hm5]
            have h1 := ih _ (fun x hx => hI x (List.mem_cons_of_mem _ hx)) hm
            have h2 := hI y (List.mem_cons_self ..) (d + 1) (by omega)
            omega
          · omega
      exact key l 1 IH h
theorem prVs_cons (x : Va) (l : List Va) (d n : Nat) : prVs (x :: l) d n = if n ≤ 512 then prVs l d (n + prV x d) else n := by simp [prVs]
theorem dpVs_consV (x : Va) (l : List Va) (m : Nat) : dpVs (x :: l) m = dpVs l (max m (dpV x)) := by simp [dpVs]
def PartsVC (x : Va) : Prop := ∀ (w : World) (B : Nat) (v : Value) (d : Nat) (z : Int), z = d → IsVa w B v x → B ≤ w.heap.size → d ≤ 17 →
  Calls Try.prog 109 #[v, .int .i64 z] w fun e w' => e = .returned (.int .i64 (prV x d : Nat)) ∧ Below w.heap.size w w'
set_option maxRecDepth 100000 in
set_option maxHeartbeats 1000000 in
theorem partsV_any (x : Va) : PartsVC x := by
  induction x using Va.ind with
  | h k n s l r IH =>
  intro w B v d z hz h hB hd
  subst hz
  obtain ⟨h1, h2, h3, h4, A, cap, h5, rfl, h7⟩ := h.form
  have H7 := Lib.hid h7
  have HI := Lib.hid IH
  have HQ : Hid (BlkN (w.alloc (.cells #[.int .u8 k, .int .i64 n, .string s, .slice A l.length cap, .int .i64 r] 34)) w.heap.size 34 #[.int .u8 k, .int .i64 n, .string s, .slice A l.length cap, .int .i64 r]) := Lib.hid (BlkN.at_ rfl _ _)
  have HB0 := Lib.hid ((Below.refl w.heap.size w).alloc (Nat.le_refl _) (.cells #[.int .u8 k, .int .i64 n, .string s, .slice A l.length cap, .int .i64 r] 34))
  clear h h7 IH
  by_cases hd16 : 16 < d
  · have e : prV (.mk k n s l r) d = 513 := by unfold prV; rw [if_pos hd16]
    rw [e]
    clear e
    have hc : (16 : Int) < d := by omega
    go_enter Try.func109, Try.ntmps109
    go_wp2_with fail
    all_goals
      go_ret
      exact ⟨rfl, (Below.refl _ _).alloc (Nat.le_refl _) _⟩
  · obtain ⟨T, hT⟩ : ∃ T, T = prVs l (d + 1) 1 := ⟨_, rfl⟩
    have e : prV (.mk k n s l r) d = T := by unfold prV; rw [if_neg hd16, hT]
    rw [e]
    have hc : ¬ (16 : Int) < d := by omega
    have HT0 := Lib.hid hT
    clear e hT
    go_enter Try.func109, Try.ntmps109
    go_wp2_with fail
    go_loopw [5, 6] (fun m i wr => ∃ j q : Nat, j ≤ l.length ∧ q ≤ 20000 ∧ i = .int .i64 j ∧ m = .int .i64 q ∧ prVs (l.drop j) (d + 1) q = T ∧ Below w.heap.size w wr ∧ BlkN wr w.heap.size 34 #[.int .u8 k, .int .i64 n, .string s, .slice A l.length cap, .int .i64 r]) (fun _ i _ => l.length - (intOf i).toNat)
    case atStart => exact ⟨0, 1, by omega, by omega, rfl, rfl, by simpa using HT0.out.symm, HB0.out, HQ.out⟩
    case round =>
      obtain ⟨j, q, hj, hq, rfl, rfl, ht, hu, hb0⟩ := hrel
      have HT := Lib.hid ht
      have HU := Lib.hid hu
      have HC := Lib.hid hb0
      have hsz := hb0.lt
      have y3 := hb0.cell 3 rfl
      have y0 := hb0.cell 0 rfl
      clear ht hu hb0
      by_cases hlt : j < l.length
      · by_cases hq5 : q ≤ 512
        · have hq5' : (q : Int) ≤ 512 := by omega
          obtain ⟨b, o, hbB, hA, hx⟩ := H7.out (by rintro rfl; simp at hlt)
          subst hA
          obtain ⟨k', n', s', A', len', cap', r', hat, hx1⟩ := hx.at2 j hlt
          have hat' := hat.keep hbB (fun b hb => HU.out.block b (by omega))
          obtain ⟨e0, e1, e2, e3, e4⟩ := hat'.five
          have HDD := Lib.hid (List.drop_eq_getElem_cons hlt)
          have hcall := HI.out l[j] (List.getElem_mem hlt) wr B _ (d + 1) ((d : Int) + 1) (by omega) (IsVa.keep (w' := wr) (fun b hb => HU.out.block b (by omega)) hx1) (by omega) (by omega)
          have hbd := prV_bd l[j] (d + 1)
          obtain ⟨pp, hpp⟩ : ∃ pp, pp = prV l[j] (d + 1) := ⟨_, rfl⟩
          rw [← hpp] at hcall hbd
          have hbd2 : pp ≤ 10000 := by omega
          have HPP := Lib.hid hpp
          have HCALL := Lib.hid hcall
          clear hat hat' hx hx1 hcall hpp hbd
          go_wp2_with (go_at_call 109; refine HCALL.out.mono ?_; rintro e w1 ⟨rfl, hb1⟩)
          go_roundw
          case rel => exact ⟨j + 1, q + pp, by omega, by omega, by go_num, by go_num, by rw [← HT.out, HDD.out, prVs_cons, if_pos hq5, ← HPP.out], HU.out.trans (hb1.mono (by omega)), HC.out.below hb1⟩
          case measure => simp [intOf]; omega
        · have hq5' : ¬ (q : Int) ≤ 512 := by omega
          have HTq : Hid (T = q) := Lib.hid (by rw [← HT.out, List.drop_eq_getElem_cons hlt]; unfold prVs; rw [if_neg hq5])
          go_wp2_with fail
          go_ret
          rw [HTq.out]
          exact ⟨rfl, HU.out⟩
      · obtain rfl : j = l.length := by omega
        have HTq : Hid (T = q) := Lib.hid (by rw [← HT.out, List.drop_length]; rfl)
        go_wp2_with fail
        go_ret
        rw [HTq.out]
        exact ⟨rfl, HU.out⟩
def DeepVC (x : Va) : Prop := ∀ (w : World) (B : Nat) (v : Value), IsVa w B v x → B ≤ w.heap.size → szV x ≤ 100000 →
  Calls Try.prog 110 #[v] w fun e w' => e = .returned (.int .i64 (dpV x : Nat)) ∧ Below w.heap.size w w'
theorem szV_mem {l : List Va} {x : Va} (h : x ∈ l) : szV x ≤ szVs l := by
  induction l with
  | nil => simp at h
  | cons y l ih =>
    unfold szVs
    rcases List.mem_cons.1 h with rfl | h
    · omega
    · have := ih h; omega
set_option maxRecDepth 100000 in
set_option maxHeartbeats 1000000 in
theorem deepV_any (x : Va) : DeepVC x := by
  induction x using Va.ind with
  | h k n s l r IH =>
  intro w B v h hB hs0
  obtain ⟨h1, h2, h3, h4, A, cap, h5, rfl, h7⟩ := h.form
  have H7 := Lib.hid h7
  have HI := Lib.hid IH
  have HQ : Hid (BlkN (w.alloc (.cells #[.int .u8 k, .int .i64 n, .string s, .slice A l.length cap, .int .i64 r] 34)) w.heap.size 34 #[.int .u8 k, .int .i64 n, .string s, .slice A l.length cap, .int .i64 r]) := Lib.hid (BlkN.at_ rfl _ _)
  have HB0 := Lib.hid ((Below.refl w.heap.size w).alloc (Nat.le_refl _) (.cells #[.int .u8 k, .int .i64 n, .string s, .slice A l.length cap, .int .i64 r] 34))
  have hsz0 : szVs l ≤ 100000 := by unfold szV at hs0; omega
  clear h h7 IH
  by_cases hk : k = 3
  · obtain ⟨T, hT⟩ : ∃ T, T = dpVs l 0 := ⟨_, rfl⟩
    have hTb : T ≤ 100000 := by have := dpVs_sz l; omega
    have e : dpV (.mk k n s l r) = T + 1 := by unfold dpV; rw [if_pos hk, hT]
    rw [e]
    have hk1 : (k != 3) = false := by rw [hk]; rfl
    have HT0 := Lib.hid hT
    clear e hT hk
    go_enter Try.func110, Try.ntmps110
    go_wp2_with fail
    go_loopw [3, 4] (fun m i wr => ∃ j q : Nat, j ≤ l.length ∧ q ≤ 100000 ∧ i = .int .i64 j ∧ m = .int .i64 q ∧ dpVs (l.drop j) q = T ∧ Below w.heap.size w wr ∧ BlkN wr w.heap.size 34 #[.int .u8 k, .int .i64 n, .string s, .slice A l.length cap, .int .i64 r]) (fun _ i _ => l.length - (intOf i).toNat)
    case atStart => exact ⟨0, 0, by omega, by omega, rfl, rfl, by simpa using HT0.out.symm, HB0.out, HQ.out⟩
    case round =>
      obtain ⟨j, q, hj, hq, rfl, rfl, ht, hu, hb0⟩ := hrel
      have HT := Lib.hid ht
      have HU := Lib.hid hu
      have HC := Lib.hid hb0
      have hsz := hb0.lt
      have y3 := hb0.cell 3 rfl
      have y0 := hb0.cell 0 rfl
      clear ht hu hb0
      by_cases hlt : j < l.length
      · obtain ⟨b, o, hbB, hA, hx⟩ := H7.out (by rintro rfl; simp at hlt)
        subst hA
        obtain ⟨k', n', s', A', len', cap', r', hat, hx1⟩ := hx.at2 j hlt
        have hat' := hat.keep hbB (fun b hb => HU.out.block b (by omega))
        obtain ⟨e0, e1, e2, e3, e4⟩ := hat'.five
        have HDD := Lib.hid (List.drop_eq_getElem_cons hlt)
        have hsj := szV_mem (List.getElem_mem hlt)
        have hcall := HI.out l[j] (List.getElem_mem hlt) wr B _ (IsVa.keep (w' := wr) (fun b hb => HU.out.block b (by omega)) hx1) (by omega) (by omega)
        have hbd := dpV_sz l[j]
        obtain ⟨pp, hpp⟩ : ∃ pp, pp = dpV l[j] := ⟨_, rfl⟩
        rw [← hpp] at hcall hbd
        have hbd2 : pp ≤ 100000 := by omega
        have HPP := Lib.hid hpp
        have HCALL := Lib.hid hcall
        clear hat hat' hx hx1 hcall hpp hbd hsj
        by_cases hmx : q < pp
        · have hmx2 : ¬ (pp : Int) ≤ q := by omega
          have hmx3 : max q pp = pp := by omega
          have HMX := Lib.hid hmx3
          clear hmx3
          go_wp2_with (go_at_call 110; refine HCALL.out.mono ?_; rintro e w1 ⟨rfl, hb1⟩)
          go_roundw
          case rel => exact ⟨j + 1, pp, by omega, by omega, by go_num, by go_num, by rw [← HT.out, HDD.out, dpVs_consV, ← HPP.out, HMX.out], HU.out.trans (hb1.mono (by omega)), HC.out.below hb1⟩
          case measure => simp [intOf]; omega
        · have hmx2 : (pp : Int) ≤ q := by omega
          have hmx3 : max q pp = q := by omega
          have HMX := Lib.hid hmx3
          clear hmx3
          go_wp2_with (go_at_call 110; refine HCALL.out.mono ?_; rintro e w1 ⟨rfl, hb1⟩)
          go_roundw
          case rel => exact ⟨j + 1, q, by omega, by omega, by go_num, by go_num, by rw [← HT.out, HDD.out, dpVs_consV, ← HPP.out, HMX.out], HU.out.trans (hb1.mono (by omega)), HC.out.below hb1⟩
          case measure => simp [intOf]; omega
      · obtain rfl : j = l.length := by omega
        have HTq : Hid (T = q) := Lib.hid (by rw [← HT.out, List.drop_length]; rfl)
        go_wp2_with fail
        go_ret
        rw [HTq.out]
        exact ⟨rfl, HU.out⟩
  · have e : dpV (.mk k n s l r) = 0 := by unfold dpV; rw [if_neg hk]
    rw [e]
    clear e
    have hk1 : (k != 3) = true := by simpa using hk
    go_enter Try.func110, Try.ntmps110
    go_wp2_with fail
    go_ret
    exact ⟨rfl, HB0.out⟩
def FieldsVC (x : Va) : Prop := ∀ (w : World) (B : Nat) (v : Value), IsVa w B v x → B ≤ w.heap.size →
  Calls Try.prog 111 #[v] w fun e w' => e = .returned (.bool (fldV x)) ∧ Below w.heap.size w w'
theorem fldVs_cons (x : Va) (l : List Va) : fldVs (x :: l) = (fldV x && fldVs l) := by simp [fldVs]
theorem fldV_mk (k n : Int) (s : ByteArray) (l : List Va) (r : Int) : fldV (.mk k n s l r) = (fldVs l && fldV1 (.mk k n s l r)) := by simp [fldV]
set_option maxRecDepth 100000 in
set_option maxHeartbeats 1000000 in
theorem field_any (k n : Int) (s : ByteArray) (l : List Va) (r : Int) (A : Option Addr) (cap : Nat) (w : World) (h0 : 0 ≤ k) (h256 : k < 256) (hs : s.size ≤ 140737488351232) (_hl : l.length ≤ 140737488351232) :
    Calls Try.prog 135 #[.agg #[.int .u8 k, .int .i64 n, .string s, .slice A l.length cap, .int .i64 r]] w fun e w' => e = .returned (.bool (fldV1 (.mk k n s l r))) ∧ Below w.heap.size w w' := by
  have HU := Lib.hid ((Below.refl w.heap.size w).alloc (Nat.le_refl _) (.cells #[.int .u8 k, .int .i64 n, .string s, .slice A l.length cap, .int .i64 r] 34))
  obtain ⟨T, hT⟩ : ∃ T, T = fldV1 (.mk k n s l r) := ⟨_, rfl⟩
  rw [← hT]
  have HF := Lib.hid hT
  clear hT
  by_cases k0 : k = 0
  · subst k0
    go_enter Try.func135, Try.ntmps135
    go_wp2_with fail
    all_goals
      go_ret
      refine ⟨ret_bool ?_, (Below.refl _ _).alloc (Nat.le_refl _) _⟩
      rw [HF.out]
      first | (simp [fldV1, *]; done) | (simp [fldV1, *]; intros; omega) | (simp [fldV1, *]; rw [Bool.eq_iff_iff]; simp)
  · by_cases k1 : k = 1
    · subst k1
      go_enter Try.func135, Try.ntmps135
      go_wp2_with fail
      all_goals
        go_ret
        refine ⟨ret_bool ?_, (Below.refl _ _).alloc (Nat.le_refl _) _⟩
        rw [HF.out]
        first | (simp [fldV1, *]; done) | (simp [fldV1, *]; intros; omega) | (simp [fldV1, *]; rw [Bool.eq_iff_iff]; simp)
    · by_cases k2 : k = 2
      · subst k2
        go_enter Try.func135, Try.ntmps135
        go_wp2_with fail
        all_goals
          go_ret
          refine ⟨ret_bool ?_, (Below.refl _ _).alloc (Nat.le_refl _) _⟩
          rw [HF.out]
          first | (simp [fldV1, *]; done) | (simp [fldV1, *]; intros; omega) | (simp [fldV1, *]; rw [Bool.eq_iff_iff]; simp)
      · by_cases k3 : k = 3
        · subst k3
          go_enter Try.func135, Try.ntmps135
          go_wp2_with fail
          all_goals
            go_ret
            refine ⟨ret_bool ?_, (Below.refl _ _).alloc (Nat.le_refl _) _⟩
            rw [HF.out]
            first | (simp [fldV1, *]; done) | (simp [fldV1, *]; intros; omega) | (simp [fldV1, *]; rw [Bool.eq_iff_iff]; simp)
        · by_cases k4 : k = 4
          · subst k4
            go_enter Try.func135, Try.ntmps135
            go_wp2_with fail
            all_goals
              go_ret
              refine ⟨ret_bool ?_, (Below.refl _ _).alloc (Nat.le_refl _) _⟩
              rw [HF.out]
              first | (simp [fldV1, *]; done) | (simp [fldV1, *]; intros; omega) | (simp [fldV1, *]; rw [Bool.eq_iff_iff]; simp)
          · have e0 : (k == 0) = false := by simpa using k0
            have e1 : (k == 1) = false := by simpa using k1
            have e2 : (k == 2) = false := by simpa using k2
            have e3 : (k == 3) = false := by simpa using k3
            have e4 : (k == 4) = false := by simpa using k4
            have HF2 : Hid (T = false) := Lib.hid (by rw [HF.out]; simp [fldV1, k0, k1, k2, k3, k4])
            clear k0 k1 k2 k3 k4
            go_enter Try.func135, Try.ntmps135
            go_wp2_with fail
            go_ret
            rw [HF2.out]
            exact ⟨rfl, HU.out⟩
set_option maxRecDepth 100000 in
set_option maxHeartbeats 1000000 in
theorem fieldsV_any (x : Va) : FieldsVC x := by
  induction x using Va.ind with
  | h k n s l r IH =>
  intro w B v h hB
  obtain ⟨h1, h2, h3, h4, A, cap, h5, rfl, h7⟩ := h.form
  have H7 := Lib.hid h7
  have HI := Lib.hid IH
  have HQ : Hid (BlkN (w.alloc (.cells #[.int .u8 k, .int .i64 n, .string s, .slice A l.length cap, .int .i64 r] 34)) w.heap.size 34 #[.int .u8 k, .int .i64 n, .string s, .slice A l.length cap, .int .i64 r]) := Lib.hid (BlkN.at_ rfl _ _)
  have HB0 := Lib.hid ((Below.refl w.heap.size w).alloc (Nat.le_refl _) (.cells #[.int .u8 k, .int .i64 n, .string s, .slice A l.length cap, .int .i64 r] 34))
  obtain ⟨T, hT⟩ : ∃ T, T = fldV (.mk k n s l r) := ⟨_, rfl⟩
  rw [← hT]
  have HTT := Lib.hid hT
  clear h h7 IH hT
  go_enter Try.func111, Try.ntmps111
  go_wp2_with fail
  go_loopw [3] (fun i wr => ∃ j : Nat, j ≤ l.length ∧ i = .int .i64 j ∧ fldVs (l.drop j) = fldVs l ∧ Below w.heap.size w wr ∧ BlkN wr w.heap.size 34 #[.int .u8 k, .int .i64 n, .string s, .slice A l.length cap, .int .i64 r]) (fun i _ => l.length - (intOf i).toNat)
  case atStart => exact ⟨0, by omega, rfl, rfl, HB0.out, HQ.out⟩
  case round =>
    obtain ⟨j, hj, rfl, ht, hu, hb0⟩ := hrel
    have HT := Lib.hid ht
    have HU := Lib.hid hu
    have HC := Lib.hid hb0
    have hsz := hb0.lt
    have y0 := hb0.cell 0 rfl
    have y1 := hb0.cell 1 rfl
    have y2 := hb0.cell 2 rfl
    have y3 := hb0.cell 3 rfl
    have y4 := hb0.cell 4 rfl
    clear ht hu hb0
    by_cases hlt : j < l.length
    · obtain ⟨b, o, hbB, hA, hx⟩ := H7.out (by rintro rfl; simp at hlt)
      subst hA
      obtain ⟨k', n', s', A', len', cap', r', hat, hx1⟩ := hx.at2 j hlt
      have hat' := hat.keep hbB (fun b hb => HU.out.block b (by omega))
      obtain ⟨e0, e1, e2, e3, e4⟩ := hat'.five
      have HDD := Lib.hid (List.drop_eq_getElem_cons hlt)
      have hcall := HI.out l[j] (List.getElem_mem hlt) wr B _ (IsVa.keep (w' := wr) (fun b hb => HU.out.block b (by omega)) hx1) (by omega)
      obtain ⟨pp, hpp⟩ : ∃ pp, pp = fldV l[j] := ⟨_, rfl⟩
      rw [← hpp] at hcall
      have HPP := Lib.hid hpp
      have HCALL := Lib.hid hcall
      clear hat hat' hx hx1 hcall hpp
      cases pp
      · have HF : Hid (T = false) := Lib.hid (by rw [HTT.out, fldV_mk, ← HT.out, HDD.out, fldVs_cons, ← HPP.out]; rfl)
        go_wp2_with (go_at_call 111; refine HCALL.out.mono ?_; rintro e w1 ⟨rfl, hb1⟩)
        go_ret
        rw [HF.out]
        exact ⟨rfl, HU.out.trans (hb1.mono (by omega))⟩
      · go_wp2_with (go_at_call 111; refine HCALL.out.mono ?_; rintro e w1 ⟨rfl, hb1⟩)
        go_roundw
        case rel => exact ⟨j + 1, by omega, by go_num, by rw [← HT.out, HDD.out, fldVs_cons, ← HPP.out]; rfl, HU.out.trans (hb1.mono (by omega)), HC.out.below hb1⟩
        case measure => simp [intOf]; omega
    · obtain rfl : j = l.length := by omega
      have HF : Hid (T = fldV1 (.mk k n s l r)) := Lib.hid (by rw [HTT.out, fldV_mk, ← HT.out, List.drop_length]; simp [fldVs])
      go_wp2_with (go_at_call 135; refine (field_any k n s l r A cap _ h1 h2 h3 h4).mono ?_; rintro e w1 ⟨rfl, hb1⟩)
      go_ret
      rw [HF.out]
      exact ⟨rfl, HU.out.trans (hb1.mono (by omega))⟩
set_option maxRecDepth 100000 in
set_option maxHeartbeats 1000000 in
theorem May67_any {B : Nat} {v : Value} {x : Va} (w : World) (h : IsVa w B v x) (hB : B ≤ w.heap.size) :
    Calls Try.prog 67 #[v] w fun e w' => e = .returned (.bool (mayV x)) ∧ Below w.heap.size w w' := by
  have HH := Lib.hid h
  have HM := Lib.hid (mayV_eq x)
  have HP := Lib.hid (prV_sz x 0)
  have hbd := prV_bd x 0
  have hc1 := fun w' (hb : Below w.heap.size w w') => partsV_any x w' B v 0 0 rfl (h.keep (fun b hl => hb.block b (by omega))) (Nat.le_trans hB hb.size) (by omega)
  have hc2 := fun (hs : szV x ≤ 100000) w' (hb : Below w.heap.size w w') => deepV_any x w' B v (h.keep (fun b hl => hb.block b (by omega))) (Nat.le_trans hB hb.size) hs
  have hc3 := fun w' (hb : Below w.heap.size w w') => fieldsV_any x w' B v (h.keep (fun b hl => hb.block b (by omega))) (Nat.le_trans hB hb.size)
  obtain ⟨pp, hpp⟩ : ∃ pp, pp = prV x 0 := ⟨_, rfl⟩
  obtain ⟨dd, hdd⟩ : ∃ dd, dd = dpV x := ⟨_, rfl⟩
  obtain ⟨ff, hff⟩ : ∃ ff, ff = fldV x := ⟨_, rfl⟩
  rw [← hpp] at hc1 HM HP hbd
  rw [← hdd] at HM
  rw [← hff] at hc3 HM
  have hc2' := hc2
  rw [← hdd] at hc2'
  have C1 := Lib.hid hc1
  have C2 := Lib.hid hc2'
  have C3 := Lib.hid hc3
  obtain ⟨k, n, s, l, r⟩ := x
  obtain ⟨h1, h2, h3, h4, A, cap, h5, rfl, h7⟩ := h.form
  have HQ : Hid (BlkN (w.alloc (.cells #[.int .u8 k, .int .i64 n, .string s, .slice A l.length cap, .int .i64 r] 34)) w.heap.size 34 #[.int .u8 k, .int .i64 n, .string s, .slice A l.length cap, .int .i64 r]) := Lib.hid (BlkN.at_ rfl _ _)
  have HB0 := Lib.hid ((Below.refl w.heap.size w).alloc (Nat.le_refl _) (.cells #[.int .u8 k, .int .i64 n, .string s, .slice A l.length cap, .int .i64 r] 34))
  have HDD := Lib.hid hdd
  clear h h7 hc1 hc2 hc3 hc2' hpp hdd hff
  by_cases g1 : pp ≤ 512
  · have g1' : (pp : Int) ≤ 512 := by omega
    have hsz : szV (.mk k n s l r) ≤ 100000 := by have := HP.out g1; omega
    have hds : dd ≤ 100000 := by have := dpV_sz (.mk k n s l r); have := HDD.out; omega
    have e1 : Hid (decide (pp ≤ 512) = true) := Lib.hid (decide_eq_true g1)
    have D2 := Lib.hid (C2.out hsz)
    clear C2
    by_cases g2 : dd ≤ 16
    · have g2' : (dd : Int) ≤ 16 := by omega
      have e2 : Hid (decide (dd ≤ 16) = true) := Lib.hid (decide_eq_true g2)
      go_enter Try.func67, Try.ntmps67
      go_wp2_with (first | (go_at_call 109; refine (C1.out _ HB0.out).mono ?_; rintro e w1 ⟨rfl, hb1⟩; have hq1 := HQ.out.below hb1; have y0 := hq1.cell 0 rfl; have y1 := hq1.cell 1 rfl; have y2 := hq1.cell 2 rfl; have y3 := hq1.cell 3 rfl; have y4 := hq1.cell 4 rfl; have hB1 := HB0.out.trans (hb1.mono (by simp))) | (go_at_call 110; refine (D2.out _ hB1).mono ?_; rintro e w2 ⟨rfl, hb2⟩; have hq2 := hq1.below hb2; have z0 := hq2.cell 0 rfl; have z1 := hq2.cell 1 rfl; have z2 := hq2.cell 2 rfl; have z3 := hq2.cell 3 rfl; have z4 := hq2.cell 4 rfl; have hB2 := hB1.trans (hb2.mono hB1.size)) | (go_at_call 111; refine (C3.out _ hB2).mono ?_; rintro e w3 ⟨rfl, hb3⟩))
      go_ret
      rw [HM.out, e1.out, e2.out]
      exact ⟨rfl, hB2.trans (hb3.mono hB2.size)⟩
    · have g2' : ¬ (dd : Int) ≤ 16 := by omega
      have e2 : Hid (decide (dd ≤ 16) = false) := Lib.hid (decide_eq_false g2)
      go_enter Try.func67, Try.ntmps67
      go_wp2_with (first | (go_at_call 109; refine (C1.out _ HB0.out).mono ?_; rintro e w1 ⟨rfl, hb1⟩; have hq1 := HQ.out.below hb1; have y0 := hq1.cell 0 rfl; have y1 := hq1.cell 1 rfl; have y2 := hq1.cell 2 rfl; have y3 := hq1.cell 3 rfl; have y4 := hq1.cell 4 rfl; have hB1 := HB0.out.trans (hb1.mono (by simp))) | (go_at_call 110; refine (D2.out _ hB1).mono ?_; rintro e w2 ⟨rfl, hb2⟩; have hB2 := hB1.trans (hb2.mono hB1.size)))
      go_ret
      rw [HM.out, e1.out, e2.out]
      exact ⟨rfl, hB2⟩
  · have g1' : ¬ (pp : Int) ≤ 512 := by omega
    have e1 : Hid (decide (pp ≤ 512) = false) := Lib.hid (decide_eq_false g1)
    clear C2
    go_enter Try.func67, Try.ntmps67
    go_wp2_with (go_at_call 109; refine (C1.out _ HB0.out).mono ?_; rintro e w1 ⟨rfl, hb1⟩; have hB1 := HB0.out.trans (hb1.mono (by simp)))
    go_ret
    rw [HM.out, e1.out]
    exact ⟨rfl, hB1⟩
end Go.Proofs.Ytnknefdpglnbnaa
