/- CodeUses: two rows that hold the same names are the same; the law's walk. -/
import Derived.Test.YtnknefdpglnbnaaXp
import Derived.Test.YtnknefdpglnbnaaXo
import Derived.Test.YtnknefdpglnbnaaZj
namespace Go.Proofs.Ytnknefdpglnbnaa
open Go Go.RowKit

theorem enc_txt (s : ByteArray) : encStr (txt s) = .string s := by
  simp [encStr, txt]
theorem nm_of_txt {w : World} {lo : Nat} {sl : Value} {L : List ByteArray} {ks : List (List UInt8)} (h : KRow w lo sl ks) (e : L.map txt = ks) : NmRow w lo sl L := by
  subst e
  unfold KRow at h
  rw [List.length_map, List.map_map] at h
  have e2 : L.map (encStr ∘ txt) = L.map Value.string := List.map_congr_left fun s _ => enc_txt s
  rw [e2] at h
  exact h
theorem row_len {w : World} {lo : Nat} {e : TypeId} {size : Nat} {v : Value} {n : Nat} {xs : List Value} (h : w.ownsRow lo e size v n xs) : n ≤ maxLen := by
  rcases h.2 with ⟨_, h2⟩ | ⟨g, cap, cur, _, _, _, h4, h5, _⟩
  · unfold maxLen; omega
  · omega
theorem row_form {w : World} {lo : Nat} {v : Value} {n : Nat} {xs : List Value} (h : w.ownsRow lo 9 1 v n xs) : ∃ A cap, v = .slice A n cap ∧ (0 < n → ∃ g, lo ≤ g ∧ g < w.heap.size ∧ A = some ⟨g, 0, Option.none⟩ ∧ ∀ j u, xs[j]? = some u → w.cell? ⟨g, j, Option.none⟩ = some u) := by
  rcases h.2 with ⟨h1, h2⟩ | ⟨g, cap, cur, h1, h2, h3, h4⟩
  · exact ⟨_, _, by rw [h1, h2], fun hn => by omega⟩
  · subst h1
    refine ⟨_, _, rfl, fun _ => ⟨g, h2, ?_, rfl, fun j u hu => ?_⟩⟩
    · have := h.lt g rfl
      exact this.2
    · have := h.cells rfl j u hu
      rcases Nat.eq_zero_or_pos j with rfl | hj
      · exact this
      · rw [show (⟨g, 0, Option.none⟩ : Addr).add j = ⟨g, j, Option.none⟩ by simp [Addr.add]; omega] at this
        exact this
attribute [local irreducible] wpList
set_option maxRecDepth 100000 in
set_option maxHeartbeats 1000000 in
theorem same43_row {lo lo2 : Nat} {v u : Value} {N : List ByteArray} (w : World) (h : NmRow w lo v N) (hy : NmRow w lo2 u N) :
    Calls Try.prog 43 #[v, u] w fun e w' => e = .returned (.bool true) ∧ Below w.heap.size w w' := by
  have hl := row_len h
  obtain ⟨A, cap, rfl, h7⟩ := row_form h
  obtain ⟨A', cap', rfl, h7'⟩ := row_form hy
  have H7 := Lib.hid h7
  have H7' := Lib.hid h7'
  clear h hy h7 h7'
  unfold maxLen at hl
  go_enter Try.func43, Try.ntmps43
  go_wp2_with fail
  go_loopw [5] (fun i wr => ∃ j : Nat, j ≤ N.length ∧ i = .int .i64 j ∧ Below w.heap.size w wr) (fun i _ => N.length - (intOf i).toNat)
  case atStart => exact ⟨0, by omega, rfl, Below.refl _ _⟩
  case round =>
    obtain ⟨j, hj, rfl, hu⟩ := hrel
    have HU := Lib.hid hu
    clear hu
    by_cases hlt : j < N.length
    · obtain ⟨b, hb0, hbB, hA, hx⟩ := H7.out (by omega)
      obtain ⟨b', hb0', hbB', hA', hx'⟩ := H7'.out (by omega)
      subst hA hA'
      have e1 := (World.cell?_of_block (w := w) (a := ⟨b, j, Option.none⟩) (HU.out.block b hbB)).trans (hx j (.string N[j]) (by simp [hlt]))
      have e2 := (World.cell?_of_block (w := w) (a := ⟨b', j, Option.none⟩) (HU.out.block b' hbB')).trans (hx' j (.string N[j]) (by simp [hlt]))
      obtain ⟨sn, hsn⟩ : ∃ sn, sn = N[j] := ⟨_, rfl⟩
      rw [← hsn] at e1 e2
      clear hx hx' hsn
      have heq2 : (sn.toList != sn.toList) = false := by simp
      go_wp2_with fail
      go_quiet (fail)
      go_wp2_with fail
      go_roundw
      case rel => exact ⟨j + 1, by omega, by go_num, belowN HU.out _⟩
      case measure => simp [intOf]; omega
    · obtain rfl : j = N.length := by omega
      go_wp2_with fail
      go_ret
      exact ⟨rfl, HU.out⟩
/-- Two answers that hold these names. -/
def AnsN (n : Nat) (N : List ByteArray) (lo : Nat) (e : Ending) (w' : World) : Prop := ∃ sl, e = .returned (.tuple #[sl, .int .i64 n]) ∧ NmRow w' lo sl N
theorem ansN_k {n : Nat} {N : List ByteArray} {w w' : World} {e : Ending} {P : List (List UInt8) → Prop} {ks : List (List UInt8) → List (List UInt8)} (hP : n = 0 → ∀ ss, P ss → N.map txt = ks ss)
    (h : Below w.heap.size w w' ∧ ((n ≠ 0 ∧ e = .returned (.tuple #[.slice Option.none 0 0, .int .i64 (n : Nat)])) ∨ (n = 0 ∧ ∃ (sl : Value) (ss : List (List UInt8)), e = .returned (.tuple #[sl, .int .i64 0]) ∧ P ss ∧ KRow w' w.heap.size sl (ks ss)))) :
    Below w.heap.size w w' ∧ AnsN n (if n = 0 then N else []) w.heap.size e w' := by
  obtain ⟨hb, ⟨h0, rfl⟩ | ⟨h0, sl, ss, rfl, h1, h2⟩⟩ := h
  · rw [if_neg h0]; exact ⟨hb, _, rfl, World.ownsRow_nil _ _ _ _⟩
  · rw [if_pos h0]; subst h0; exact ⟨hb, sl, rfl, nm_of_txt h2 (hP rfl ss h1)⟩
theorem ansN_n {n : Nat} {N : List ByteArray} {w w' : World} {e : Ending}
    (h : Below w.heap.size w w' ∧ ((n ≠ 0 ∧ e = .returned (.tuple #[.slice Option.none 0 0, .int .i64 (n : Nat)])) ∨ (n = 0 ∧ ∃ sl, e = .returned (.tuple #[sl, .int .i64 0]) ∧ NmRow w' w.heap.size sl N))) :
    Below w.heap.size w w' ∧ AnsN n (if n = 0 then N else []) w.heap.size e w' := by
  obtain ⟨hb, ⟨h0, rfl⟩ | ⟨h0, sl, rfl, h2⟩⟩ := h
  · rw [if_neg h0]; exact ⟨hb, _, rfl, World.ownsRow_nil _ _ _ _⟩
  · rw [if_pos h0]; subst h0; exact ⟨hb, sl, rfl, h2⟩
theorem own_set {w : World} {lo g : Nat} {n cap : Nat} {xs : List Value} (h : w.ownsRow lo 9 1 (.slice (some ⟨g, 0, Option.none⟩) n cap) n xs) (j : Nat) (hj : j < n) (_u : Value) :
    (∃ c, w.cell? ⟨g, j, Option.none⟩ = some c) ∧ w.frozen? ⟨g, j, Option.none⟩ = false := by
  refine ⟨?_, h.frozenAt j⟩
  rw [h.cellAt j (by omega)]
  exact ⟨xs[j]'(by rw [h.1]; omega), List.getElem?_eq_getElem _⟩
set_option maxRecDepth 100000 in
set_option maxHeartbeats 4000000 in
theorem uses_walk (l : List St) (A : Option Addr) (len cap : Nat) (w : World) (h : LR (fun b _ => b < w.heap.size) 256 A len cap l (fun b o => IsSts w w.heap.size b o l)) :
    Calls Try.prog 14 #[.slice A len cap] w fun e w' => e = .returned (.bool true) ∧ Below w.heap.size w w' := by
  have HKL := Lib.hid (fun w' (hb : Below w.heap.size w w') => h.imp fun b o hr hp => (⟨hr, IsSts.keep (fun b hb' => hb.block b hb') hr hp⟩ : _ ∧ IsSts w' w.heap.size b o l))
  have C35 := Lib.hid (Uses_any l A len cap w w.heap.size (Nat.le_refl _) h)
  have C56 := Lib.hid (fun w' (hb : Below w.heap.size w w') => RUses56_any l A len cap w' w.heap.size hb.size (HKL.out w' hb))
  obtain ⟨n, hn⟩ : ∃ n, n = (chkL l).2 := ⟨_, rfl⟩
  obtain ⟨⟨ua, um, ur⟩, hu⟩ : ∃ u, u = usesL l := ⟨_, rfl⟩
  obtain ⟨N, hN⟩ : ∃ N, N = if n = 0 then sortU (ownR setsX (rowsX l)) else [] := ⟨_, rfl⟩
  obtain ⟨M, hM⟩ : ∃ M, M = if n = 0 then sortU (ownR readsX (rowsX l)) else [] := ⟨_, rfl⟩
  have C57 : Hid (∀ w', Below w.heap.size w w' → Calls Try.prog 57 #[.slice A len cap] w' fun e w2 => Below w'.heap.size w' w2 ∧ AnsN n N w'.heap.size e w2) := Lib.hid (fun w' hb => (Sets57_any l A len cap w' w.heap.size hb.size (HKL.out w' hb)).mono fun e w2 h2 => by
    rw [← hn] at h2; rw [hN]; exact ansN_k (fun h0 ss hp => sets_same l (by rw [← hn]; exact h0) ss hp.1 hp.2) h2)
  have C58 : Hid (∀ w', Below w.heap.size w w' → Calls Try.prog 58 #[.slice A len cap] w' fun e w2 => Below w'.heap.size w' w2 ∧ AnsN n N w'.heap.size e w2) := Lib.hid (fun w' hb => (Sets58_any l A len cap w' w.heap.size hb.size (HKL.out w' hb)).mono fun e w2 h2 => by
    rw [← hn] at h2; rw [hN]; exact ansN_n h2)
  have C59 : Hid (∀ w', Below w.heap.size w w' → Calls Try.prog 59 #[.slice A len cap] w' fun e w2 => Below w'.heap.size w' w2 ∧ AnsN n M w'.heap.size e w2) := Lib.hid (fun w' hb => (Reads59_any l A len cap w' w.heap.size hb.size (HKL.out w' hb)).mono fun e w2 h2 => by
    rw [← hn] at h2; rw [hM]; exact ansN_k (fun h0 ss hp => reads_same l (by rw [← hn]; exact h0) ss hp.1 hp.2) h2)
  have C60 : Hid (∀ w', Below w.heap.size w w' → Calls Try.prog 60 #[.slice A len cap] w' fun e w2 => Below w'.heap.size w' w2 ∧ AnsN n M w'.heap.size e w2) := Lib.hid (fun w' hb => (Reads60_any l A len cap w' w.heap.size hb.size (HKL.out w' hb)).mono fun e w2 h2 => by
    rw [← hn] at h2; rw [hM]; exact ansN_n h2)
  clear h HKL hN hM
  obtain ⟨i0, hi, hz0, hz1, hz2⟩ := info_parts info51
  rw [← hn, ← hu] at C35
  rw [← hn, ← hu] at C56
  clear hn hu
  go_enter Try.func14, Try.ntmps14
  go_upto_region 3 with (first
    | (go_at_call 35; refine (C35.out).mono ?_; rintro e w1 ⟨rfl, hb1⟩)
    | (go_at_call 56; refine (C56.out _ HB2.out).mono ?_; rintro e w3 ⟨rfl, hb3⟩)
    | (refine wpList_store_blk rfl 51 (.tmp 3) (.tmp 21) rfl i0 hi w1.heap.size (⟨ua, um, ur⟩ : US).arr rfl rfl 51 _ (BlkN.at_ rfl 51 (⟨0, false, false⟩ : US).arr) (by rw [hz1]; rfl) rfl (US.one _) ?_; intro w2 hB2 hbut2; have HB2 := Lib.hid (hbut2.below hb1.size (hb1.alloc hb1.size _)); have HU2 := Lib.hid hB2; clear hB2 hbut2)
    | (refine wpList_store_blk rfl 51 (.tmp 5) (.tmp 26) rfl i0 hi w3.heap.size (⟨ua, um, ur⟩ : US).arr rfl rfl 51 _ (BlkN.at_ rfl 51 (⟨0, false, false⟩ : US).arr) (by rw [hz1]; rfl) rfl (US.one _) ?_; intro w4 hB4 hbut4; have hb03 := HB2.out.trans (hb3.mono HB2.out.size); have HB4 := Lib.hid (hbut4.below hb03.size (hb03.alloc hb03.size _)); have HV4 := Lib.hid hB4; have HU4 : Hid (BlkN w4 w1.heap.size 51 (⟨ua, um, ur⟩ : US).arr) := Lib.hid (((hbut4.below (Nat.le_refl _) ((Below.refl _ _).alloc (Nat.le_refl _) _)).block _ (Nat.lt_of_lt_of_le HU2.out.lt hb3.size)).trans ((hb3.block _ HU2.out.lt).trans HU2.out)); clear hB4 hbut4 hb03))
  clear hb1 hb3 HB2 HU2 C35 C56
  go_wp2_with (first | (refine wpList_load_blk rfl 51 (.tmp 3) rfl ⟨w1.heap.size, 0, Option.none⟩ rfl (.agg #[.int .u8 ua, .bool um, .bool ur]) (run_loadVar_blk Try.underlying51 hi HU4.out (by rw [hz1]; rfl)) ?_) | (refine wpList_load_blk rfl 51 (.tmp 5) rfl ⟨w3.heap.size, 0, Option.none⟩ rfl (.agg #[.int .u8 ua, .bool um, .bool ur]) (run_loadVar_blk Try.underlying51 hi HV4.out (by rw [hz1]; rfl)) ?_))
  clear HV4 HU4
  go_loopw [7] (fun i wr => ∃ k : Nat, k ≤ 2 ∧ i = .int .i64 k ∧ Below w.heap.size w wr) (fun i _ => 2 - (intOf i).toNat)
  case atStart => exact ⟨0, by omega, rfl, HB4.out⟩
  case round =>
    obtain ⟨W, rfl⟩ : ∃ W : World, W = wr := ⟨_, rfl⟩
    obtain ⟨k, hk, rfl, hb⟩ := hrel
    have HB := Lib.hid hb
    clear hb
    by_cases hk2 : k < 2
    rotate_left
    · obtain rfl : k = 2 := by omega
      go_wp2_with (go_at_call 17; refine (lives_any W).mono ?_; rintro e w5 ⟨rfl, hb5⟩)
      go_ret
      exact ⟨rfl, bnext HB.out hb5⟩
    go_upto_region 12 with (first
      | (go_at_call 57; (with_reducible refine (C57.out _ HB.out).mono ?_); rintro e w5 ⟨hb5, A5, rfl, hr5⟩; have HB5 := Lib.hid (bnext HB.out hb5); have HR5 := Lib.hid hr5; clear hb5 hr5)
      | (go_at_call 58; (with_reducible refine (C58.out _ HB5.out).mono ?_); rintro e w6 ⟨hb6, A6, rfl, hr6⟩; have HB6 := Lib.hid (bnext HB5.out hb6); have HR56 := Lib.hid (own_below HR5.out hb6); have HR6 := Lib.hid hr6; clear hb6 hr6)
      | (go_at_call 59; (with_reducible refine (C59.out _ HB6.out).mono ?_); rintro e w7 ⟨hb7, A7, rfl, hr7⟩; have HB7 := Lib.hid (bnext HB6.out hb7); have HR57 := Lib.hid (own_below HR56.out hb7); have HR67 := Lib.hid (own_below HR6.out hb7); have HR7 := Lib.hid hr7; clear hb7 hr7)
      | (go_at_call 60; (with_reducible refine (C60.out _ HB7.out).mono ?_); rintro e w8 ⟨hb8, A8, rfl, hr8⟩; have HB8 := Lib.hid (bnext HB7.out hb8); have HR58 := Lib.hid (own_below HR57.out hb8); have HR68 := Lib.hid (own_below HR67.out hb8); have HR78 := Lib.hid (own_below HR7.out hb8); have HR8 := Lib.hid hr8; clear hb8 hr8))
    go_wp2_with (first
      | (go_at_call 43; have C := Lib.hid (same43_row (N := N) w8 HR58.out HR68.out); (with_reducible refine (C.out).mono ?_); rintro e w9 ⟨rfl, hb9⟩; have HB9 := Lib.hid (bnext HB8.out hb9); have HR59 := Lib.hid (own_below HR58.out hb9); have HR79 := Lib.hid (own_below HR78.out hb9); have HR89 := Lib.hid (own_below HR8.out hb9); clear hb9)
      | (go_at_call 43; have C := Lib.hid (same43_row (N := M) w9 HR79.out HR89.out); (with_reducible refine (C.out).mono ?_); rintro e wA ⟨rfl, hbA⟩; have HBA := Lib.hid (bnext HB9.out hbA); have HR5A := Lib.hid (own_below HR59.out hbA); have HR7A := Lib.hid (own_below HR79.out hbA); clear hbA))
    obtain ⟨Aa, ca, rfl⟩ := row_slice HR5.out
    obtain ⟨Ax, cx, rfl⟩ := row_slice HR7.out
    have hla := row_len HR5.out
    have hlx := row_len HR7.out
    unfold maxLen at hla hlx
    have hne : (Value.slice Ax M.length cx).ownBlock = Option.none ∨ (Value.slice Ax M.length cx).ownBlock ≠ (Value.slice Aa N.length ca).ownBlock := by
      cases hx : (Value.slice Ax M.length cx).ownBlock with
      | none => exact .inl rfl
      | some g =>
        refine .inr fun e => ?_
        have h1 := HR7.out.lt g hx
        have h2 := HR56.out.lt g e.symm
        omega
    have HNE := Lib.hid hne
    clear hne
    go_loopw [16] (fun i wr => ∃ (j : Nat) (xs : List Value), j ≤ N.length ∧ i = .int .i64 j ∧ wr.ownsRow W.heap.size 9 1 (.slice Aa N.length ca) N.length xs ∧ wr.ownsRow w6.heap.size 9 1 (.slice Ax M.length cx) M.length (M.map Value.string) ∧ Below w.heap.size w wr) (fun i _ => N.length - (intOf i).toNat)
    case atStart => exact ⟨0, _, by omega, rfl, HR5A.out, HR7A.out, HBA.out⟩
    case round =>
      obtain ⟨j, xs, hj, rfl, hra, hrx, hb⟩ := hrel
      have HRA := Lib.hid hra
      have HRX := Lib.hid hrx
      have HBJ := Lib.hid hb
      clear hra hrx hb
      by_cases hlt : j < N.length
      · obtain ⟨A', cap', e, hx⟩ := row_form HRA.out
        obtain ⟨g, hg0, hg, rfl, -⟩ := hx (by omega)
        injection e with e1 e2 e3
        subst e1 e3
        obtain ⟨⟨c, hc⟩, hf⟩ := own_set HRA.out j hlt undef
        clear hx e2
        have hgw : w.heap.size ≤ g := Nat.le_trans HB.out.size hg0
        go_wp2_with fail
        go_roundw
        case rel => exact ⟨j + 1, _, by omega, by go_num, (HRA.out.stored j _).1, HRX.out.kept (HRA.out.stored j _).2 HNE.out, HBJ.out.setCell hgw _⟩
        case measure => simp [intOf]; omega
      · obtain rfl : j = N.length := by omega
        clear HRA C57 C58 C59 C60 HR6 HR67 HR8 HR68 HR89 HR5 HR56 HR57 HR58 HR59 HR7 HR78 HR79 HNE
        go_wp2_with fail
        go_loopw [17] (fun i wq => ∃ (j : Nat) (xs : List Value), j ≤ M.length ∧ i = .int .i64 j ∧ wq.ownsRow w6.heap.size 9 1 (.slice Ax M.length cx) M.length xs ∧ Below w.heap.size w wq) (fun i _ => M.length - (intOf i).toNat)
        case atStart => exact ⟨0, _, by omega, rfl, HRX.out, HBJ.out⟩
        case round =>
          obtain ⟨j, xs, hj, rfl, hrx, hb⟩ := hrel
          have HRX := Lib.hid hrx
          have HBJ := Lib.hid hb
          clear hrx hb
          by_cases hlt : j < M.length
          · obtain ⟨A', cap', e, hx⟩ := row_form HRX.out
            obtain ⟨g, hg0, hg, rfl, -⟩ := hx (by omega)
            injection e with e1 e2 e3
            subst e1 e3
            obtain ⟨⟨c, hc⟩, hf⟩ := own_set HRX.out j hlt undef
            clear hx e2
            have hgw : w.heap.size ≤ g := Nat.le_trans HB6.out.size hg0
            go_wp2_with fail
            go_roundw
            case rel => exact ⟨j + 1, _, by omega, by go_num, (HRX.out.stored j _).1, HBJ.out.setCell hgw _⟩
            case measure => simp [intOf]; omega
          · obtain rfl : j = M.length := by omega
            clear HRX
            go_wp2_with fail
            go_roundw
            case rel => exact ⟨k + 1, by omega, by go_num, HBJ.out⟩
            case measure => simp [intOf]; omega
end Go.Proofs.Ytnknefdpglnbnaa
