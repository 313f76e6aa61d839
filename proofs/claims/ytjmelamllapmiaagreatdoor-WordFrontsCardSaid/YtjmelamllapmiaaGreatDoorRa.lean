/- package word: Join. -/
import Derived.Test.YtjmelamllapmiaaGreatDoorR
import Derived.Lib.AppendStr
namespace Go.Proofs.YtjmelamllapmiaaGreatDoor
open Go.RowKit

/-- A token's numbers fit, its text is no greater than may be handled. -/
def TkOk (t : Tk) : Prop := t.s.length ≤ 1073741824 ∧ (-9223372036854775808 ≤ t.n ∧ t.n ≤ 9223372036854775807) ∧ (-9223372036854775808 ≤ t.r ∧ t.r ≤ 9223372036854775807)
/-- v reads as the tokens; they lie below B. -/
def IsTks (w : World) (B : Nat) (v : Value) (l : List Tk) : Prop :=
  l.length * 48 ≤ 140737488351232 ∧ ∃ A cap, l.length ≤ cap ∧ v = .slice A l.length cap ∧ (l ≠ [] → ∃ b o, b < B ∧ A = some ⟨b, o, Option.none⟩ ∧ ∀ (i : Nat) (hi : i < l.length), At w b (o + i * 5) (l[i]).arr.toList)
theorem IsTks.keep {w w' : World} {B : Nat} {v : Value} {l : List Tk} (h : IsTks w B v l) (hk : ∀ b, b < B → w'.heap[b]? = w.heap[b]?) : IsTks w' B v l := by
  obtain ⟨h1, A, cap, h2, h3, h4⟩ := h
  refine ⟨h1, A, cap, h2, h3, fun hne => ?_⟩
  obtain ⟨b, o, hb, hA, hx⟩ := h4 hne
  exact ⟨b, o, hb, hA, fun i hi => (hx i hi).keep hb hk⟩
/-- A cell's content. -/
def CellIs (w : World) (b o : Nat) (v : Value) : Prop := w.cell? ⟨b, o, Option.none⟩ = some v
/-- A token's form. -/
def formL (t : Tk) : L8 := if t.k = 2 then Lib.itoa t.n else if t.k = 3 then quoteL t.s else if t.k = 4 then 35 :: Lib.itoa t.r else t.s
/-- Tokens' forms, one behind the other; none: too long. -/
def joinG : Bool → L8 → List Tk → Option L8
  | _, b, [] => some b
  | first, b, t :: l => if 1048576 < (b ++ ((if first then [] else [32]) ++ formL t)).length then Option.none else joinG false (b ++ ((if first then [] else [32]) ++ formL t)) l
def joinO : Option L8 → L8 × Int
  | some b => (b, 0)
  | Option.none => ([], 4)
/-- What Join answers. -/
def joinR (l : List Tk) : L8 × Int := if l.all tokMay then joinO (joinG true [] l) else ([], 2)
theorem wpList_append_str (w : World) {ops : Array Oper} {rest : List Oper} {o : Oper} {a : Act} {Q : Exit → Act → World → Prop} (hgd : o.guard = Option.none) (s x : Operand)
    (ho : o.op = .call { callee := .builtin .append, args := #[s, x], argTypes := #[143, 9] })
    (lo : Nat) (v : Value) (b : L8) (hs : a.eval s = v) (hown : BRow w lo v b) (t : L8) (hx : a.eval x = .string (txtV t)) (hlen : b.length + t.length ≤ 140737488355328) (hbase : lo ≤ w.heap.size)
    (h : ∀ v' w', BRow w' lo v' (b ++ t) → w.grownBy w' v.ownBlock → wpList Tryz.prog ops Q rest (a.put o.dst v') w') : wpList Tryz.prog ops Q (o :: rest) a w := by
  obtain ⟨i0, hi, hz0, hz1, hz2⟩ := info_parts info5
  refine Lib.wpList_append_own_string w hgd s x 143 9 ho lo 5 i0 Tryz.underlying143 Tryz.underlying9 hi hz0 hz1 hz2 v b.length (b.map byt) hs hown (txtV t) hx (by show b.length + t.length ≤ _; unfold maxLen; omega) hlen hbase ?_
  intro v' w' h1 h2 _
  refine h v' w' ?_ h2
  unfold BRow
  rw [List.length_append, List.map_append]
  exact h1
theorem formL_len (t : Tk) (h : TkOk t) : (formL t).length ≤ 4 * t.s.length + 22 := by
  unfold formL
  obtain ⟨_, ⟨h1, h2⟩, h3, h4⟩ := h
  split
  · have := Lib.itoa_length_le t.n h1 h2; omega
  · split
    · have := quoteL_len t.s; omega
    · split
      · have := Lib.itoa_length_le t.r h3 h4; simp; omega
      · omega
set_option maxRecDepth 100000 in
set_option maxHeartbeats 8000000 in
theorem join_any {B : Nat} {v : Value} {l : List Tk} (w : World) (h : IsTks w B v l) (hB : B ≤ w.heap.size) (hok : ∀ t ∈ l, TkOk t) (hT : TabI w) :
    Calls Tryz.prog 37 #[v] w fun e w' => Below w.heap.size w w' ∧ e = .returned (.tuple #[.string (txtV (joinR l).1), .int .i64 (joinR l).2]) := by
  obtain ⟨hl48, A, cap, hcap, rfl, h7⟩ := h
  have H7 := Lib.hid h7
  have HOK := Lib.hid hok
  have HT := Lib.hid (Lib.tabBelow_of_tabIs hT)
  clear h7 hok hT
  have hR : joinR l = if l.all tokMay then joinO (joinG true [] l) else ([], 2) := rfl
  obtain ⟨R, hRR⟩ : ∃ R, R = joinR l := ⟨_, rfl⟩
  rw [← hRR] at hR ⊢
  have HR := Lib.hid hR
  clear hR hRR
  go_enter Tryz.func37, Tryz.ntmps37
  go_wp2_with fail
  go_loopw [4, 10] (fun _ ix wr => ∃ j : Nat, ix = .int .i64 j ∧ j ≤ l.length ∧ (l.take j).all tokMay = true ∧ Below w.heap.size w wr) (fun _ ix _ => l.length - (intOf ix).toNat)
  case atStart => exact ⟨0, rfl, by omega, rfl, Below.refl _ _⟩
  case round =>
    obtain ⟨j, rfl, hj, hall, hb⟩ := hrel
    have HALL := Lib.hid hall
    have HB := Lib.hid hb
    clear hall hb
    by_cases hlt : j < l.length
    · obtain ⟨ab, ao, hbB, hA, hx⟩ := H7.out (by rintro rfl; simp at hlt)
      subst hA
      obtain ⟨t, ht⟩ : ∃ t, t = l[j] := ⟨_, rfl⟩
      have hat := (hx j hlt).keep hbB (fun b hb => HB.out.block b (by omega))
      rw [← ht] at hat
      obtain ⟨e0, e1, e2, e3, e4⟩ := At.five (c0 := .int .u8 t.k) (c1 := .int .i64 t.at_) (c2 := .int .i64 t.n) (c3 := .string (txtV t.s)) (c4 := .int .i64 t.r) hat
      obtain ⟨mb, hmb⟩ : ∃ mb, mb = tokMay t := ⟨_, rfl⟩
      have C56 := Lib.hid (tmay_any t (by rw [ht]; have := (HOK.out _ (List.getElem_mem hlt)).1; omega) wr)
      rw [← hmb] at C56
      have HMB := Lib.hid hmb
      have HTT := Lib.hid ht
      clear hat hx hmb ht
      cases mb
      · have HF : Hid (R = ([], 2)) := Lib.hid (by
          rw [HR.out, if_neg]
          intro hh
          have := List.all_eq_true.1 hh l[j] (List.getElem_mem hlt)
          rw [← HTT.out, ← HMB.out] at this
          cases this)
        go_wp2_with (first | (go_at_call 83; refine C56.out.mono ?_; rintro e w1 ⟨hb1, rfl⟩))
        go_ret2
        exact ⟨bnext HB.out hb1, by rw [HF.out]; rfl⟩
      · go_wp2_with (first | (go_at_call 83; refine C56.out.mono ?_; rintro e w1 ⟨hb1, rfl⟩))
        go_roundw
        case rel => exact ⟨j + 1, by go_num, by omega, by
          have he : l.take (j + 1) = l.take j ++ [l[j]] := by rw [List.take_add_one, List.getElem?_eq_getElem hlt]; rfl
          rw [he, List.all_append, HALL.out, ← HTT.out]; simp [← HMB.out], bnext HB.out hb1⟩
        case measure => simp [intOf]; omega
    obtain rfl : j = l.length := by omega
    have HF : Hid (R = joinO (joinG true [] l)) := Lib.hid (by
      have := HALL.out
      rw [List.take_length] at this
      rw [HR.out, if_pos this])
    have HB1 := HB
    clear HALL
    obtain ⟨G, hG⟩ : ∃ G, G = joinG true [] l := ⟨_, rfl⟩
    rw [← hG] at HF
    have HG0 := Lib.hid hG
    clear hG
    go_wp2_with fail
    go_loopw [5, 6, 7, 22] (fun v _ _ ix wr => ∃ (j : Nat) (b : L8), ix = .int .i64 j ∧ j ≤ l.length ∧ Grt w w.heap.size wr v b ∧ b.length ≤ 1048576 ∧ joinG (decide (j = 0)) b (l.drop j) = G) (fun _ _ _ ix _ => l.length - (intOf ix).toNat)
    case atStart => exact ⟨0, [], rfl, by omega, ⟨BRow.nil _ _, HB1.out, fun k o hk _ _ => (HB1.out.block k (by exact (Array.getElem?_eq_some_iff.1 hk).1)).trans hk⟩, by simp, by rw [HG0.out]; rfl⟩
    case round =>
      obtain ⟨j, b, rfl, hj, hg, hbl, hjg⟩ := hrel
      have HG := Lib.hid hg
      have HJG := Lib.hid hjg
      obtain ⟨A2, cap2, rfl, hcap2⟩ := hg.row.slice
      have hlw := hg.low (Nat.le_refl _)
      clear hg hjg
      by_cases hlt : j < l.length
      rotate_left
      · have HF2 : Hid (R = (b, 0)) := Lib.hid (by
          have := HJG.out
          rw [List.drop_of_length_le (by omega)] at this
          rw [HF.out, ← this]; rfl)
        have hconv := brow_string HG.out.row
        go_wp2_with fail
        go_ret2
        exact ⟨HG.out.below, by rw [HF2.out]; rfl⟩
      obtain ⟨ab, ao, hbB, hA, hx⟩ := H7.out (by rintro rfl; simp at hlt)
      subst hA
      obtain ⟨t, ht⟩ : ∃ t, t = l[j] := ⟨_, rfl⟩
      have hat0 := hx j hlt
      rw [← ht] at hat0
      have HAT := Lib.hid hat0
      have HTT := Lib.hid ht
      have HTO : Hid (TkOk t) := Lib.hid (by rw [ht]; exact HOK.out _ (List.getElem_mem hlt))
      have HTS := Lib.hid (formL_len t HTO.out)
      have hts := HTO.out.1
      have HST : Hid (∀ (b' : L8), b' = b ++ ((if decide (j = 0) then [] else [32]) ++ formL t) → (if 1048576 < b'.length then Option.none else joinG (decide (j + 1 = 0)) b' (l.drop (j + 1))) = G) := Lib.hid (by
        rintro b' rfl
        have := HJG.out
        rw [List.drop_eq_getElem_cons hlt, ← HTT.out, joinG] at this
        exact this)
      clear hx hat0 ht
      by_cases hj0 : j = 0
      · have hjn : ¬ (0 : Int) < j := by omega
        have HJ0 := Lib.hid hj0
        have hbb : b ++ (if decide (j = 0) then [] else [32]) = b := by rw [hj0]; simp
        obtain ⟨W4, hW4⟩ : ∃ W4, W4 = wr := ⟨_, rfl⟩
        obtain ⟨T, hTe⟩ : ∃ T, T = b := ⟨_, rfl⟩
        have HG4 : Hid (Grt w w.heap.size W4 (.slice A2 T.length cap2) T) := Lib.hid (by rw [hW4, hTe]; exact HG.out)
        have HTB : Hid (T = b ++ (if decide (j = 0) then [] else [32])) := Lib.hid (by rw [hbb, hTe])
        have hTl : T.length ≤ 1048577 := by rw [hTe]; omega
        rw [← hW4, ← hTe]
        clear hW4 hTe hbb hj0 hlw
        have hlw := HG4.out.low (Nat.le_refl _)
        obtain ⟨e0, e1, e2, e3, e4⟩ := At.five (c0 := .int .u8 t.k) (c1 := .int .i64 t.at_) (c2 := .int .i64 t.n) (c3 := .string (txtV t.s)) (c4 := .int .i64 t.r) (HAT.out.keep hbB (fun b hb => HG4.out.below.block b (by omega)))
        go_upto_region 14 with fail
        obtain ⟨W5, hW5⟩ : ∃ W5, W5 = W4.alloc (.cells #[.int .u8 t.k, .int .i64 t.at_, .int .i64 t.n, .string (txtV t.s), .int .i64 t.r] 58) := ⟨_, rfl⟩
        obtain ⟨m, hm⟩ : ∃ m, m = W4.heap.size := ⟨_, rfl⟩
        have HG5 : Hid (Grt w w.heap.size W5 (.slice A2 T.length cap2) T) := Lib.hid (by rw [hW5]; exact HG4.out.add hlw _)
        have HM5 : Hid (BlkN W5 m 58 #[.int .u8 t.k, .int .i64 t.at_, .int .i64 t.n, .string (txtV t.s), .int .i64 t.r]) := Lib.hid (by rw [hW5, hm]; exact BlkN.at_ rfl _ _)
        rw [← hW5, ← hm]
        clear hW5 hm e0 e1 e2 e3 e4
        have hlw5 := HG5.out.low (Nat.le_refl _)
        have d0 := HM5.out.cell 0 rfl
        have d1 := HM5.out.cell 1 rfl
        have d2 := HM5.out.cell 2 rfl
        have d3 := HM5.out.cell 3 rfl
        have d4 := HM5.out.cell 4 rfl
        have hm5 := HM5.out.lt
        have HFIN : Hid (∀ (w' : World) (v' : Value) (b' : L8), Grt w w.heap.size w' v' b' → b' = T ++ formL t → (1048576 < b'.length → R = ([], 4)) ∧ (b'.length ≤ 1048576 → joinG (decide (j + 1 = 0)) b' (l.drop (j + 1)) = G)) := Lib.hid (fun w' v' b' hg he => by
          have h1 := HST.out b' (by rw [he, HTB.out, List.append_assoc])
          refine ⟨fun hlong => ?_, fun hshort => ?_⟩
          · rw [if_pos hlong] at h1
            rw [HF.out, ← h1]; rfl
          · rw [if_neg (by omega)] at h1
            exact h1)
        by_cases k2 : t.k = 2
        · have C := Lib.hid (appendInt_any t.n HTO.out.2.1.1 HTO.out.2.1.2 HG5.out.row hlw5 (by omega) (HT.out.on HG5.out.below))
          have HK : Hid (formL t = Lib.itoa t.n) := Lib.hid (by unfold formL; rw [if_pos k2])
          have kk : (t.k == 2) = true := by simp [k2]
          clear k2
          go_upto_region 22 with (first | (go_at_call 84; refine C.out.mono ?_; rintro e W6 ⟨v6, rfl, hg6⟩; obtain ⟨b6, hb6⟩ : ∃ b6, b6 = T ++ Lib.itoa t.n := ⟨_, rfl⟩; rw [← hb6] at hg6; obtain ⟨A6, cap6, hv6, hcap6⟩ := hg6.row.slice; subst hv6; have HB6 := Lib.hid hb6; have HG6 := Lib.hid (HG5.out.trans hg6); clear hg6 hb6))
          have HN := Lib.hid (HFIN.out _ _ _ HG6.out (by rw [HK.out, HB6.out]))
          by_cases hlong : 1048576 < b6.length
          · have hl2 : (1048576 : Int) < (b6.length : Nat) := by omega
            have HRN := Lib.hid (HN.out.1 hlong)
            go_wp2_with fail
            go_ret2
            exact ⟨HG6.out.below, by rw [HRN.out]; rfl⟩
          · have hl2 : ¬ (1048576 : Int) < (b6.length : Nat) := by omega
            have HRN := Lib.hid (HN.out.2 (by omega))
            go_wp2_with fail
            go_roundw
            case rel => exact ⟨j + 1, b6, by go_num, by omega, HG6.out, by omega, HRN.out⟩
            case measure => simp [intOf]; omega
        have k2b : (t.k == 2) = false := by simpa using k2
        by_cases k3 : t.k = 3
        · have C := Lib.hid (quote_t (txtV t.s) HG5.out.row hlw5 (by show _ + 4 * t.s.length + 2 ≤ _; omega))
          have HK : Hid (formL t = quoteL t.s) := Lib.hid (by unfold formL; rw [if_neg k2, if_pos k3])
          have kk : (t.k == 3) = true := by simp [k3]
          clear k3 k2
          go_upto_region 22 with (first | (go_at_call 85; refine C.out.mono ?_; rintro e W6 ⟨v6, rfl, hg6⟩; obtain ⟨b6, hb6⟩ : ∃ b6, b6 = T ++ quoteL (txtV t.s).data.toList := ⟨_, rfl⟩; rw [← hb6] at hg6; obtain ⟨A6, cap6, hv6, hcap6⟩ := hg6.row.slice; subst hv6; have HB6 := Lib.hid hb6; have HG6 := Lib.hid (HG5.out.trans hg6); clear hg6 hb6))
          have HN := Lib.hid (HFIN.out _ _ _ HG6.out (by rw [HK.out, HB6.out]; rfl))
          by_cases hlong : 1048576 < b6.length
          · have hl2 : (1048576 : Int) < (b6.length : Nat) := by omega
            have HRN := Lib.hid (HN.out.1 hlong)
            go_wp2_with fail
            go_ret2
            exact ⟨HG6.out.below, by rw [HRN.out]; rfl⟩
          · have hl2 : ¬ (1048576 : Int) < (b6.length : Nat) := by omega
            have HRN := Lib.hid (HN.out.2 (by omega))
            go_wp2_with fail
            go_roundw
            case rel => exact ⟨j + 1, b6, by go_num, by omega, HG6.out, by omega, HRN.out⟩
            case measure => simp [intOf]; omega
        have k3b : (t.k == 3) = false := by simpa using k3
        by_cases k4 : t.k = 4
        · have HK : Hid (formL t = 35 :: Lib.itoa t.r) := Lib.hid (by unfold formL; rw [if_neg k2, if_neg k3, if_pos k4])
          have kk : (t.k == 4) = true := by simp [k4]
          clear k4 k3 k2
          go_upto_region 21 with fail
          refine RegT.region_seq (fun i => Nat.ble i 4) (fun V => CellIs V m 4 (.int .i64 t.r)) [0, 3, 4] [1, 2, 5, 6] (by kernel_rfl) (by kernel_rfl) (by decide +kernel) (by decide) d4 ?_
          refine RegT.quiet_step rfl (fun _ _ _ h => h) (by kernel_rfl) (v := .slice A2 T.length cap2) (fun w' hS => ?_) ?_
          · go_simp
          refine RegT.quiet_step rfl (fun _ _ _ h => h) (by kernel_rfl) (v := .pointer (some ⟨m, 4, Option.none⟩)) (fun w' hS => ?_) ?_
          · go_simp
          refine RegT.quiet_step rfl (fun _ _ _ h => h) (by kernel_rfl) (v := .int .i64 t.r) (fun w' hS => ?_) ?_
          · have t0 : w'.cell? ⟨m, 4, Option.none⟩ = some (.int .i64 t.r) := hS; go_simp
          refine RegT.seqT_held rfl ?_
          go_wp2_with fail
          refine ⟨(BlkN.alloc HM5.out (.cells #[byt 35] 5)).cell 4 rfl, RegT.seqT_held rfl ?_⟩
          have hgd := HG5.out.add hlw5 (.cells #[byt 35] 5)
          have HGD := Lib.hid hgd.drew
          clear hgd
          go_wp2_with (first
            | (refine wpList_append_byte _ rfl (.tmp 54) (.tmp 55) rfl rfl w.heap.size (.slice A2 T.length cap2) T rfl HGD.out.row W5.heap.size 1 1 [35] rfl rfl (fun j u hu => row_new W5 [byt 35] 5 j u hu) (by simp; omega) (by simp; omega) ?_
               intro v6 w6 hv6 hg6 ho6
               have HG6 := Lib.hid (HGD.out.step (by simp; omega) hv6 hg6)
               have hd4 : w6.cell? ⟨m, 4, Option.none⟩ = some (.int .i64 t.r) := by
                 have hp2 := (BlkN.alloc HM5.out (.cells #[byt 35] 5)).others (by decide) ((Lib.OthersKept.refl 5 Option.none (W5.alloc (.cells #[byt 35] 5)).drew).grown hg6 (Lib.ownsRow_kind HGD.out.row))
                 exact hp2.cell 4 rfl
               clear hv6 hg6 ho6))
          refine ⟨hd4, RegT.seqT_tail [5, 6] [_, _] rfl rfl _ _ ?_⟩
          have C := Lib.hid (appendInt_any t.r HTO.out.2.2.1 HTO.out.2.2.2 HG6.out.row (HG6.out.low (Nat.le_refl _)) (by simp; omega) (HT.out.on HG6.out.below))
          clear hd4
          go_wp2_with (first | (go_at_call 84; refine C.out.mono ?_; rintro e W6 ⟨v7, rfl, hg7⟩; obtain ⟨b6, hb6⟩ : ∃ b6, b6 = T ++ [35] ++ Lib.itoa t.r := ⟨_, rfl⟩; rw [← hb6] at hg7; obtain ⟨A6, cap6, hv7, hcap6⟩ := hg7.row.slice; subst hv7; have HB6 := Lib.hid hb6; have HG7 := Lib.hid (HG6.out.trans hg7); clear hg7 hb6 HG6))
          simp only [RegT.NP, Exit.inBlock]
          go_upto_region 22 with fail
          have HG6 := HG7
          have HN := Lib.hid (HFIN.out _ _ _ HG6.out (by rw [HK.out, HB6.out]; simp))
          by_cases hlong : 1048576 < b6.length
          · have hl2 : (1048576 : Int) < (b6.length : Nat) := by omega
            have HRN := Lib.hid (HN.out.1 hlong)
            go_wp2_with fail
            go_ret2
            exact ⟨HG6.out.below, by rw [HRN.out]; rfl⟩
          · have hl2 : ¬ (1048576 : Int) < (b6.length : Nat) := by omega
            have HRN := Lib.hid (HN.out.2 (by omega))
            go_wp2_with fail
            go_roundw
            case rel => exact ⟨j + 1, b6, by go_num, by omega, HG6.out, by omega, HRN.out⟩
            case measure => simp [intOf]; omega
        have k4b : (t.k == 4) = false := by simpa using k4
        have HK : Hid (formL t = t.s) := Lib.hid (by unfold formL; rw [if_neg k2, if_neg k3, if_neg k4])
        clear k4 k3 k2
        go_upto_region 22 with (first
          | (refine wpList_append_str _ rfl (.tmp 36) (.tmp 38) rfl w.heap.size (.slice A2 T.length cap2) T rfl HG5.out.row t.s rfl (by omega) hlw5 ?_
             intro v6 W6 hv6 hg6
             obtain ⟨b6, hb6⟩ : ∃ b6, b6 = T ++ t.s := ⟨_, rfl⟩
             rw [← hb6] at hv6
             obtain ⟨A6, cap6, hv6e, hcap6⟩ := hv6.slice
             subst hv6e
             have HB6 := Lib.hid hb6
             have HG6 := Lib.hid (HG5.out.step hlw5 hv6 hg6)
             clear hv6 hg6 hb6))
        have HN := Lib.hid (HFIN.out _ _ _ HG6.out (by rw [HK.out, HB6.out]))
        by_cases hlong : 1048576 < b6.length
        · have hl2 : (1048576 : Int) < (b6.length : Nat) := by omega
          have HRN := Lib.hid (HN.out.1 hlong)
          go_wp2_with fail
          go_ret2
          exact ⟨HG6.out.below, by rw [HRN.out]; rfl⟩
        · have hl2 : ¬ (1048576 : Int) < (b6.length : Nat) := by omega
          have HRN := Lib.hid (HN.out.2 (by omega))
          go_wp2_with fail
          go_roundw
          case rel => exact ⟨j + 1, b6, by go_num, by omega, HG6.out, by omega, HRN.out⟩
          case measure => simp [intOf]; omega
      · have hjp : (0 : Int) < j := by omega
        have HJ0 := Lib.hid hj0
        clear hj0
        go_upto_region 13 with (first
          | (refine wpList_append_byte _ rfl (.tmp 27) (.tmp 28) rfl rfl w.heap.size (.slice A2 b.length cap2) b rfl (HG.out.add hlw (.cells #[byt 32] 5)).row wr.heap.size 1 1 [32] rfl rfl (row_new wr [byt 32] 5) (by simp; omega) (by simp; omega) ?_
             intro v4 W4 hv4 hg4 ho4
             have HGG := Lib.hid ((HG.out.add hlw (.cells #[byt 32] 5)).step (by simp; omega) hv4 hg4)
             clear hv4 hg4 ho4))
        obtain ⟨T, hTe⟩ : ∃ T, T = b ++ [32] := ⟨_, rfl⟩
        have hTl : T.length ≤ 1048577 := by rw [hTe]; simp; omega
        rw [← hTe] at HGG
        have HTB : Hid (T = b ++ (if decide (j = 0) then [] else [32])) := Lib.hid (by rw [hTe, decide_eq_false HJ0.out]; simp)
        obtain ⟨A4, cap4, hv4e, hcap4⟩ := HGG.out.row.slice
        subst hv4e
        have HG4 := HGG
        clear hTe HGG hlw
        have hlw := HG4.out.low (Nat.le_refl _)
        obtain ⟨e0, e1, e2, e3, e4⟩ := At.five (c0 := .int .u8 t.k) (c1 := .int .i64 t.at_) (c2 := .int .i64 t.n) (c3 := .string (txtV t.s)) (c4 := .int .i64 t.r) (HAT.out.keep hbB (fun b hb => HG4.out.below.block b (by omega)))
        go_upto_region 14 with fail
        obtain ⟨W5, hW5⟩ : ∃ W5, W5 = W4.alloc (.cells #[.int .u8 t.k, .int .i64 t.at_, .int .i64 t.n, .string (txtV t.s), .int .i64 t.r] 58) := ⟨_, rfl⟩
        obtain ⟨m, hm⟩ : ∃ m, m = W4.heap.size := ⟨_, rfl⟩
        have HG5 : Hid (Grt w w.heap.size W5 (.slice A4 T.length cap4) T) := Lib.hid (by rw [hW5]; exact HG4.out.add hlw _)
        have HM5 : Hid (BlkN W5 m 58 #[.int .u8 t.k, .int .i64 t.at_, .int .i64 t.n, .string (txtV t.s), .int .i64 t.r]) := Lib.hid (by rw [hW5, hm]; exact BlkN.at_ rfl _ _)
        rw [← hW5, ← hm]
        clear hW5 hm e0 e1 e2 e3 e4
        have hlw5 := HG5.out.low (Nat.le_refl _)
        have d0 := HM5.out.cell 0 rfl
        have d1 := HM5.out.cell 1 rfl
        have d2 := HM5.out.cell 2 rfl
        have d3 := HM5.out.cell 3 rfl
        have d4 := HM5.out.cell 4 rfl
        have hm5 := HM5.out.lt
        have HFIN : Hid (∀ (w' : World) (v' : Value) (b' : L8), Grt w w.heap.size w' v' b' → b' = T ++ formL t → (1048576 < b'.length → R = ([], 4)) ∧ (b'.length ≤ 1048576 → joinG (decide (j + 1 = 0)) b' (l.drop (j + 1)) = G)) := Lib.hid (fun w' v' b' hg he => by
          have h1 := HST.out b' (by rw [he, HTB.out, List.append_assoc])
          refine ⟨fun hlong => ?_, fun hshort => ?_⟩
          · rw [if_pos hlong] at h1
            rw [HF.out, ← h1]; rfl
          · rw [if_neg (by omega)] at h1
            exact h1)
        by_cases k2 : t.k = 2
        · have C := Lib.hid (appendInt_any t.n HTO.out.2.1.1 HTO.out.2.1.2 HG5.out.row hlw5 (by omega) (HT.out.on HG5.out.below))
          have HK : Hid (formL t = Lib.itoa t.n) := Lib.hid (by unfold formL; rw [if_pos k2])
          have kk : (t.k == 2) = true := by simp [k2]
          clear k2
          go_upto_region 22 with (first | (go_at_call 84; refine C.out.mono ?_; rintro e W6 ⟨v6, rfl, hg6⟩; obtain ⟨b6, hb6⟩ : ∃ b6, b6 = T ++ Lib.itoa t.n := ⟨_, rfl⟩; rw [← hb6] at hg6; obtain ⟨A6, cap6, hv6, hcap6⟩ := hg6.row.slice; subst hv6; have HB6 := Lib.hid hb6; have HG6 := Lib.hid (HG5.out.trans hg6); clear hg6 hb6))
          have HN := Lib.hid (HFIN.out _ _ _ HG6.out (by rw [HK.out, HB6.out]))
          by_cases hlong : 1048576 < b6.length
          · have hl2 : (1048576 : Int) < (b6.length : Nat) := by omega
            have HRN := Lib.hid (HN.out.1 hlong)
            go_wp2_with fail
            go_ret2
            exact ⟨HG6.out.below, by rw [HRN.out]; rfl⟩
          · have hl2 : ¬ (1048576 : Int) < (b6.length : Nat) := by omega
            have HRN := Lib.hid (HN.out.2 (by omega))
            go_wp2_with fail
            go_roundw
            case rel => exact ⟨j + 1, b6, by go_num, by omega, HG6.out, by omega, HRN.out⟩
            case measure => simp [intOf]; omega
        have k2b : (t.k == 2) = false := by simpa using k2
        by_cases k3 : t.k = 3
        · have C := Lib.hid (quote_t (txtV t.s) HG5.out.row hlw5 (by show _ + 4 * t.s.length + 2 ≤ _; omega))
          have HK : Hid (formL t = quoteL t.s) := Lib.hid (by unfold formL; rw [if_neg k2, if_pos k3])
          have kk : (t.k == 3) = true := by simp [k3]
          clear k3 k2
          go_upto_region 22 with (first | (go_at_call 85; refine C.out.mono ?_; rintro e W6 ⟨v6, rfl, hg6⟩; obtain ⟨b6, hb6⟩ : ∃ b6, b6 = T ++ quoteL (txtV t.s).data.toList := ⟨_, rfl⟩; rw [← hb6] at hg6; obtain ⟨A6, cap6, hv6, hcap6⟩ := hg6.row.slice; subst hv6; have HB6 := Lib.hid hb6; have HG6 := Lib.hid (HG5.out.trans hg6); clear hg6 hb6))
          have HN := Lib.hid (HFIN.out _ _ _ HG6.out (by rw [HK.out, HB6.out]; rfl))
          by_cases hlong : 1048576 < b6.length
          · have hl2 : (1048576 : Int) < (b6.length : Nat) := by omega
            have HRN := Lib.hid (HN.out.1 hlong)
            go_wp2_with fail
            go_ret2
            exact ⟨HG6.out.below, by rw [HRN.out]; rfl⟩
          · have hl2 : ¬ (1048576 : Int) < (b6.length : Nat) := by omega
            have HRN := Lib.hid (HN.out.2 (by omega))
            go_wp2_with fail
            go_roundw
            case rel => exact ⟨j + 1, b6, by go_num, by omega, HG6.out, by omega, HRN.out⟩
            case measure => simp [intOf]; omega
        have k3b : (t.k == 3) = false := by simpa using k3
        by_cases k4 : t.k = 4
        · have HK : Hid (formL t = 35 :: Lib.itoa t.r) := Lib.hid (by unfold formL; rw [if_neg k2, if_neg k3, if_pos k4])
          have kk : (t.k == 4) = true := by simp [k4]
          clear k4 k3 k2
          go_upto_region 21 with fail
          refine RegT.region_seq (fun i => Nat.ble i 4) (fun V => CellIs V m 4 (.int .i64 t.r)) [0, 3, 4] [1, 2, 5, 6] (by kernel_rfl) (by kernel_rfl) (by decide +kernel) (by decide) d4 ?_
          refine RegT.quiet_step rfl (fun _ _ _ h => h) (by kernel_rfl) (v := .slice A4 T.length cap4) (fun w' hS => ?_) ?_
          · go_simp
          refine RegT.quiet_step rfl (fun _ _ _ h => h) (by kernel_rfl) (v := .pointer (some ⟨m, 4, Option.none⟩)) (fun w' hS => ?_) ?_
          · go_simp
          refine RegT.quiet_step rfl (fun _ _ _ h => h) (by kernel_rfl) (v := .int .i64 t.r) (fun w' hS => ?_) ?_
          · have t0 : w'.cell? ⟨m, 4, Option.none⟩ = some (.int .i64 t.r) := hS; go_simp
          refine RegT.seqT_held rfl ?_
          go_wp2_with fail
          refine ⟨(BlkN.alloc HM5.out (.cells #[byt 35] 5)).cell 4 rfl, RegT.seqT_held rfl ?_⟩
          have hgd := HG5.out.add hlw5 (.cells #[byt 35] 5)
          have HGD := Lib.hid hgd.drew
          clear hgd
          go_wp2_with (first
            | (refine wpList_append_byte _ rfl (.tmp 54) (.tmp 55) rfl rfl w.heap.size (.slice A4 T.length cap4) T rfl HGD.out.row W5.heap.size 1 1 [35] rfl rfl (fun j u hu => row_new W5 [byt 35] 5 j u hu) (by simp; omega) (by simp; omega) ?_
               intro v6 w6 hv6 hg6 ho6
               have HG6 := Lib.hid (HGD.out.step (by simp; omega) hv6 hg6)
               have hd4 : w6.cell? ⟨m, 4, Option.none⟩ = some (.int .i64 t.r) := by
                 have hp2 := (BlkN.alloc HM5.out (.cells #[byt 35] 5)).others (by decide) ((Lib.OthersKept.refl 5 Option.none (W5.alloc (.cells #[byt 35] 5)).drew).grown hg6 (Lib.ownsRow_kind HGD.out.row))
                 exact hp2.cell 4 rfl
               clear hv6 hg6 ho6))
          refine ⟨hd4, RegT.seqT_tail [5, 6] [_, _] rfl rfl _ _ ?_⟩
          have C := Lib.hid (appendInt_any t.r HTO.out.2.2.1 HTO.out.2.2.2 HG6.out.row (HG6.out.low (Nat.le_refl _)) (by simp; omega) (HT.out.on HG6.out.below))
          clear hd4
          go_wp2_with (first | (go_at_call 84; refine C.out.mono ?_; rintro e W6 ⟨v7, rfl, hg7⟩; obtain ⟨b6, hb6⟩ : ∃ b6, b6 = T ++ [35] ++ Lib.itoa t.r := ⟨_, rfl⟩; rw [← hb6] at hg7; obtain ⟨A6, cap6, hv7, hcap6⟩ := hg7.row.slice; subst hv7; have HB6 := Lib.hid hb6; have HG7 := Lib.hid (HG6.out.trans hg7); clear hg7 hb6 HG6))
          simp only [RegT.NP, Exit.inBlock]
          go_upto_region 22 with fail
          have HG6 := HG7
          have HN := Lib.hid (HFIN.out _ _ _ HG6.out (by rw [HK.out, HB6.out]; simp))
          by_cases hlong : 1048576 < b6.length
          · have hl2 : (1048576 : Int) < (b6.length : Nat) := by omega
            have HRN := Lib.hid (HN.out.1 hlong)
            go_wp2_with fail
            go_ret2
            exact ⟨HG6.out.below, by rw [HRN.out]; rfl⟩
          · have hl2 : ¬ (1048576 : Int) < (b6.length : Nat) := by omega
            have HRN := Lib.hid (HN.out.2 (by omega))
            go_wp2_with fail
            go_roundw
            case rel => exact ⟨j + 1, b6, by go_num, by omega, HG6.out, by omega, HRN.out⟩
            case measure => simp [intOf]; omega
        have k4b : (t.k == 4) = false := by simpa using k4
        have HK : Hid (formL t = t.s) := Lib.hid (by unfold formL; rw [if_neg k2, if_neg k3, if_neg k4])
        clear k4 k3 k2
        go_upto_region 22 with (first
          | (refine wpList_append_str _ rfl (.tmp 36) (.tmp 38) rfl w.heap.size (.slice A4 T.length cap4) T rfl HG5.out.row t.s rfl (by omega) hlw5 ?_
             intro v6 W6 hv6 hg6
             obtain ⟨b6, hb6⟩ : ∃ b6, b6 = T ++ t.s := ⟨_, rfl⟩
             rw [← hb6] at hv6
             obtain ⟨A6, cap6, hv6e, hcap6⟩ := hv6.slice
             subst hv6e
             have HB6 := Lib.hid hb6
             have HG6 := Lib.hid (HG5.out.step hlw5 hv6 hg6)
             clear hv6 hg6 hb6))
        have HN := Lib.hid (HFIN.out _ _ _ HG6.out (by rw [HK.out, HB6.out]))
        by_cases hlong : 1048576 < b6.length
        · have hl2 : (1048576 : Int) < (b6.length : Nat) := by omega
          have HRN := Lib.hid (HN.out.1 hlong)
          go_wp2_with fail
          go_ret2
          exact ⟨HG6.out.below, by rw [HRN.out]; rfl⟩
        · have hl2 : ¬ (1048576 : Int) < (b6.length : Nat) := by omega
          have HRN := Lib.hid (HN.out.2 (by omega))
          go_wp2_with fail
          go_roundw
          case rel => exact ⟨j + 1, b6, by go_num, by omega, HG6.out, by omega, HRN.out⟩
          case measure => simp [intOf]; omega
end Go.Proofs.YtjmelamllapmiaaGreatDoor
