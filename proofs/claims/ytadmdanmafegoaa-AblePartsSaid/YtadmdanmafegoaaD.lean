/- Contracts of able.Text and able.Read, for every byte and every string. -/
import Derived.Test.YtadmdanmafegoaaC
import Derived.Test.YtadmdanmafegoaaReg
namespace Go.Proofs.Ytadmdanmafegoaa
open Go.RowKit Go.Shelf
attribute [local go_sem] Oper.semAt_some

theorem Try.info9 : (Try.prog.info? 9).map (fun i => (i.zero, i.size, i.bytes)) = some (some (.string ⟨#[]⟩), 1, 16) := by kernel_rfl
theorem join_txt : ∀ a : Fin 64, (a : Nat) ≠ 0 → Lib.join ((eachTo a 6).map (fun k : Fin 6 => nmL k.val)) [43] = txtL a := by decide +kernel
theorem each_ne : ∀ a : Fin 64, (a : Nat) ≠ 0 → (eachTo a 6).length ≠ 0 := by decide +kernel
theorem place_bit : ∀ k : Fin 6, placeN (bitN k) = k ∧ oneB (bitN k) = true := by decide +kernel
theorem txt_len : ∀ a : Fin 64, (txtL a).length ≤ 40 := by decide +kernel
theorem txt0 : txtL 0 = [45] := by decide +kernel
theorem idx_names (x : Fin 6) (w : World) : (Instr.index 56 (.agg #[nmV 0, nmV 1, nmV 2, nmV 3, nmV 4, nmV 5]) (.int .i64 ((x : Nat) : Int))).run Try.prog w = .ok (.string ⟨(nmL (x : Nat)).toArray⟩) w := by
  have h : x = 0 ∨ x = 1 ∨ x = 2 ∨ x = 3 ∨ x = 4 ∨ x = 5 := by omega
  rcases h with rfl | rfl | rfl | rfl | rfl | rfl <;> rfl
theorem addr_add (g j : Nat) : (⟨g, 0, Option.none⟩ : Addr).add j = ⟨g, 0 + j, Option.none⟩ := by
  unfold Addr.add; split
  · rename_i h; subst h; rfl
  · rfl
theorem join_any (g cap n : Nat) (xs : List (List UInt8)) (hn : n = xs.length) (hN : n ≤ 140737488355328) (sep : List UInt8) (w : World) (B : Nat)
    (hrow : w.ownsRow B 9 1 (.slice (some ⟨g, 0, Option.none⟩) n cap) n (xs.map (fun l => Value.string ⟨l.toArray⟩)))
    (hlen : (Lib.join xs sep).length ≤ 140737488355328) :
    Calls Try.prog 39 #[.slice (some ⟨g, 0, Option.none⟩) n cap, .string ⟨sep.toArray⟩] w fun e w' => e = .returned (.string ⟨(Lib.join xs sep).toArray⟩) ∧ Below w.heap.size w w' := by
  subst hn
  have hc := hrow.cells (g := g) rfl
  have hb := (hrow.lt g rfl).2
  obtain ⟨h1, h2 | ⟨g2, cap2, cur, he, _, _, hcap, hmax, _⟩⟩ := hrow
  · cases h2.1
  cases he
  have e : (xs.map (fun l => (⟨l.toArray⟩ : ByteArray))).map (·.data.toList) = xs := by
    rw [List.map_map]; exact List.map_id' xs
  have h := Try.strings_Join g 0 cap (xs.map (fun l => (⟨l.toArray⟩ : ByteArray))) ⟨sep.toArray⟩ w (fun j x hj => by
    rw [← addr_add]
    refine hc j _ ?_
    rw [List.getElem?_map] at hj ⊢
    cases hx : xs[j]? with
    | none => rw [hx] at hj; cases hj
    | some l => rw [hx] at hj; simp only [Option.map_some, Option.some.injEq] at hj ⊢; rw [hj]) hb (by rw [List.length_map]; exact hN) (by rw [List.length_map]; exact hcap) (by rw [e]; exact hlen)
  rw [List.length_map, e] at h
  exact h
set_option maxRecDepth 100000 in
set_option maxHeartbeats 1000000 in
theorem text_some (a : Nat) (ha : a < 64) (h0 : a ≠ 0) (w : World) :
    Calls Try.prog 13 #[.int .u8 a] w fun e w' => e = .returned (.tuple #[.string ⟨(txtL a).toArray⟩, .int .i64 0]) ∧ Below w.heap.size w w' := by
  refine (callsIn_wide (n := 9)).1 ?_
  have hm : mayB a = true := by simpa [mayB] using ha
  have hz : (((a : Nat) : Int) == 0) = false := by simp; omega
  obtain ⟨i0, hi, hz0, hz1, hz2⟩ := info_parts Try.info9
  refine callsIn_of_wp_marks Try.func13 rfl trivial ?_ rfl
  simp only [Try.ntmps13, List.size_toArray, List.length_cons, List.length_nil, Nat.reduceAdd, Nat.reduceSub, Array.replicate_succ, Array.replicate_zero, List.push_toArray, List.append_toArray, List.nil_append, List.cons_append]
  gi_wp2_with (first
    | (refine ⟨trivial, ?_⟩; gi_at_call 17; refine (callsIn_wide.2 (may_any a (by omega) _)).mono ?_; rintro e w' ⟨rfl, rfl⟩)
    | (refine ⟨trivial, ?_⟩; gi_at_call 37; refine (callsIn_wide.2 (each_any a _)).mono ?_; rintro e w' ⟨rfl, rfl⟩))
  have bO := Boxed.new w 55 (.slice Option.none 0 0)
  have bN := Boxed.new (w.alloc (.cells #[.slice Option.none 0 0] 55)) 22 (.int .u8 a)
  rw [World.size_alloc] at bN
  have hB0 : Below w.heap.size w ((w.alloc (.cells #[.slice Option.none 0 0] 55)).alloc (.cells #[.int .u8 a] 22)) := ((Below.refl _ w).alloc (Nat.le_refl _) _).alloc (by simp) _
  refine wpIn_rangeFunc_ownG rfl (by omega) (gf := 47) (lb := #[.pointer (some ⟨w.heap.size + 1, 0, Option.none⟩)]) rfl trivial (enters_of Try.func47 (by kernel_rfl) rfl)
    (each_stops 8 a (by omega) (w.heap.size + 1) _ (by simp) bN.cell) Kc_t (Kc_b (by simp)) (Below.refl _ _) (fun _ => rfl)
    (fun pre W => (∃ v, Boxed W w.heap.size 55 v ∧ W.ownsRow w.heap.size 9 1 v pre.length (pre.map (fun k : Fin 6 => Value.string ⟨(nmL (k : Nat)).toArray⟩)) ∧ True) ∧ Boxed W (w.heap.size + 1) 22 (.int .u8 a) ∧ Below w.heap.size w W)
    (fun _ _ _ => False)
    (OwnFrom.and (Own.from (holdsRow_own w.heap.size w.heap.size 55 9 1 (fun pre : List (Fin 6) => pre.length) (fun pre => pre.map (fun k : Fin 6 => Value.string ⟨(nmL (k : Nat)).toArray⟩)) (fun _ _ => True)) _) (OwnFrom.and (Own.from (boxed_own _ _ _) _) (ownFrom_below (Nat.le_refl _) (by simp; omega))))
    (fun _ _ _ _ _ hs _ _ => hs)
    ⟨⟨_, bO.alloc _, World.ownsRow_nil _ _ _ _, trivial⟩, bN, hB0⟩
    (fun x => { tmps := #[.int .u8 a, undef, .string ⟨#[]⟩, .int .i64 0, .pointer (some ⟨w.heap.size, 0, Option.none⟩), .int .u8 (bitN x), undef, undef, .int .u8 a, .bool true, .bool false, .int .u8 a, .bool false, .int .u8 a, .func (.func 47) #[] #[.pointer (some ⟨w.heap.size + 1, 0, Option.none⟩)], .int .u8 (bitN x), undef, undef, undef, undef, undef, undef, undef, undef, undef, undef, undef, undef, undef], defers := [] }) ?assign ?body ?done ?stop
  case assign =>
    intro l x W K hK
    simp only [encF]
    gi_wp2
    exact hK
  case body =>
    rintro l pre x W ⟨⟨v, hv, hrow, _⟩, hN, hB⟩ hlt
    have hc := hv.cell
    have hp := (pow6 x).2
    have HP := Lib.hid (place_bit x)
    gi_wp2_with (refine ⟨trivial, ?_⟩; gi_at_call 15; refine (CallsIn.inRound l (callsIn_wide.2 (place_any (bitN x) (by omega) _))).mono ?_; rintro e w' ⟨rfl, rfl⟩; rw [HP.out.1, HP.out.2])
    have hidx := idx_names x
    refine RegSeq.region_round (fun j => j == 1 || j == 3 || j == 4) (fun W' => W'.cell? ⟨w.heap.size, 0, Option.none⟩ = some v) (by kernel_rfl) (by kernel_rfl) ?hQ ?_
    case hQ => rintro ⟨_, _, h⟩; exact h
    refine RegSeq.takePure (i := 2) (v := .int .i64 x) rfl rfl (by kernel_rfl) (by kernel_rfl) (by kernel_rfl) (fun _ _ _ h => h) (Or.inl ⟨by rfl, ?y2⟩) ?_
    case y2 => intro w' _; go_simp
    refine RegSeq.take (i := 0) (v := v) rfl (by kernel_rfl) (by kernel_rfl) (by kernel_rfl) (by kernel_rfl) (fun _ _ _ h => h) (Or.inl ⟨by rfl, ?y0⟩) ?s0 ?_
    case y0 => intro w' hS; go_simp
    case s0 => exact hc
    refine RegSeq.of_lin [1, 3, 4, 5, 6] _ _ _ _ (by kernel_rfl) (by simp) ?_
    refine RegSeq.seqT_held rfl ?_
    go_wp2_with (go_at_call 38; refine (names_any _).mono ?_; rintro e w' ⟨rfl, rfl⟩)
    refine ⟨(hv.alloc _).cell, RegSeq.seqT_held rfl ?_⟩
    go_wp2
    refine ⟨(hv.alloc _).cell, RegSeq.seqT_held rfl ?_⟩
    go_wp2
    refine ⟨((hv.alloc _).alloc _).cell, RegSeq.seqT_tail [5, 6] [_, _] rfl rfl _ _ ?_⟩
    refine wpList_append_own _ rfl (.tmp 21) (.tmp 25) 55 rfl w.heap.size 9 i0 (.string ⟨#[]⟩) 1 16 Try.underlying55 hi hz0 hz1 hz2 rfl (by decide) v _ _ rfl ((hrow.alloc _).alloc _) ⟨W.heap.size + 1, 0, Option.none⟩ 1 1 [.string ⟨(nmL x).toArray⟩] rfl rfl ?c1 ?c2 ?c3 ?c4 ?c5 ?_
    case c1 =>
      have := cell_one_new (W.alloc (.cells #[nmV 0, nmV 1, nmV 2, nmV 3, nmV 4, nmV 5] 56)) (.string ⟨(nmL x).toArray⟩) 9
      rw [World.size_alloc] at this
      exact this
    case c2 => simp [Value.oneCell']
    case c3 => unfold maxLen; omega
    case c4 => omega
    case c5 => have := hB.size; show _ ≤ ((W.alloc _).alloc _).heap.size; simp; omega
    intro v' w1 hown' hgrow _
    obtain ⟨g', cap', rfl⟩ := ownsRow_succ hown'
    obtain ⟨hv1, hv2, hr2, hk2, hb2⟩ := (hv.alloc (.cells #[nmV 0, nmV 1, nmV 2, nmV 3, nmV 4, nmV 5] 56)).appended (by decide) (hrow.alloc _) (by have := hB.size; simp; omega) (Nat.le_refl _) (tmp := .cells #[.string ⟨(nmL x).toArray⟩] 9) hown' (RegSeq.grownBy_drew hgrow)
    have hN1 := ((hN.alloc (.cells #[nmV 0, nmV 1, nmV 2, nmV 3, nmV 4, nmV 5] 56)).alloc (.cells #[.string ⟨(nmL x).toArray⟩] 9)).kept (W' := w1) (RegSeq.grownBy_drew hgrow) (hN.not_row (by decide) hrow)
    have hc1 := hv1.cell
    have hf1 := hv1.frozen
    go_wp2
    have hNs := hN1.other (B' := w.heap.size) (by omega) (.slice (some ⟨g', 0, Option.none⟩) (pre.length + 1) cap')
    refine ⟨((KeepsOthers.alloc _ _).trans hk2).from _, ?_, ⟨⟨_, hv2, by simpa using hr2, trivial⟩, hNs, hB.trans (((Below.refl w.heap.size W).alloc hB.size _).trans hb2)⟩⟩
    exact hNs.cell.trans hN.cell.symm
  case done =>
    rintro D ys W hD rfl ⟨⟨v, hv, hrow, _⟩, hN, hB⟩ hK
    have hc := hv.cell
    have hne := each_ne ⟨a, ha⟩ h0
    have Hj := Lib.hid (join_txt ⟨a, ha⟩ h0)
    have hle := eachTo_le a 6
    obtain ⟨m, hm⟩ : ∃ m, (eachTo a 6).length = m + 1 := ⟨(eachTo a 6).length - 1, by simp only at hne; omega⟩
    have hrow' := hrow
    rw [hm] at hrow'
    obtain ⟨g, cap, rfl⟩ := ownsRow_succ hrow'
    have Hm := Lib.hid hm
    clear hm hrow' hne
    have hlen : (Lib.join ((eachTo a 6).map (fun k : Fin 6 => nmL k.val)) [43]).length ≤ 140737488355328 := by
      have h := Hj.out
      simp only at h
      rw [h]; exact Nat.le_trans (txt_len ⟨a, ha⟩) (by omega)
    have hM : m + 1 ≤ 140737488355328 := by have := Hm.out; omega
    gi_wp2_with (refine ⟨trivial, ?_⟩; gi_at_call 39; refine (callsIn_wide.2 (join_any g cap (m + 1) ((eachTo a 6).map (fun k : Fin 6 => nmL k.val)) (by rw [List.length_map]; exact Hm.out.symm) hM [43] _ w.heap.size (by rw [List.map_map]; have h := hrow; rw [Hm.out] at h; exact h) hlen)).mono ?_; rintro e w' ⟨rfl, hb⟩)
    have hK2 := (hb.block D (Array.getElem?_eq_some_iff.1 hK).1).trans hK
    refine ⟨by simp, .inl ⟨_, _, rfl, run_takeDeferred hK2, ?_⟩⟩
    refine ⟨_, results_tmp2 rfl _ _ _, ?_, (hB.trans (hb.mono hB.size)).trans (belowK_b (w := w) (Nat.le_refl _) _ D _ _ (by simp at hD; omega) hK2 rfl rfl)⟩
    have h := Hj.out
    rw [h]; rfl
  case stop =>
    rintro D c pre W _ _ h _
    exact h.elim

def txtR (a : Nat) : List UInt8 := if mayB a then txtL a else []
set_option maxHeartbeats 400000 in
theorem text_any (a : Nat) (ha : a < 256) (w : World) :
    Calls Try.prog 13 #[.int .u8 a] w fun e w' => e = .returned (.tuple #[.string ⟨(txtR a).toArray⟩, .int .i64 (errN (mayB a) 2)]) ∧ Below w.heap.size w w' := by
  cases hm : mayB a
  · go_enter Try.func13, Try.ntmps13
    go_wp2_with (go_at_call 17; refine (may_any a ha _).mono ?_; rintro e w' ⟨rfl, rfl⟩)
    go_ret2
    exact ⟨by simp [txtR, hm, errN], Below.refl _ _⟩
  · have h64 : a < 64 := by simpa [mayB] using hm
    by_cases h0 : a = 0
    · subst h0
      have Hm := Lib.hid hm
      clear hm
      go_enter Try.func13, Try.ntmps13
      go_wp2_with fail
      refine (may_any 0 ha _).mono ?_
      rintro e w' ⟨rfl, rfl⟩
      rw [Hm.out]
      go_wp2
      go_ret2
      exact ⟨by rw [txtR, Hm.out]; simp [errN, txt0], Below.refl _ _⟩
    · refine (text_some a h64 h0 w).mono fun e w' ⟨h1, h2⟩ => ⟨?_, h2⟩
      rw [h1]; simp [txtR, hm, errN]

set_option maxHeartbeats 400000 in
theorem read_any (s : ByteArray) (w : World) :
    Calls Try.prog 10 #[.string s] w fun e w' => e = .returned (.tuple #[.int .u8 (readA s), .int .i64 (errN (readB s) 10)]) ∧ Below w.heap.size w w' := by
  go_enter Try.func10, Try.ntmps10
  go_wp2
  go_loopw [4] (fun i wr => ∃ k : Nat, k ≤ 64 ∧ i = .int .u8 k ∧ readTo s k = Option.none ∧ Below w.heap.size w wr) (fun i _ => 64 - (intOf i).toNat)
  case atStart => exact ⟨0, by omega, rfl, rfl, Below.refl _ _⟩
  case round =>
    obtain ⟨k, hk, rfl, hp, hB⟩ := hrel
    have Hp := Lib.hid hp
    clear hp
    by_cases hlt : k < 64
    · have Hr : Hid (txtR k = txtL k) := Lib.hid (by simp [txtR, mayB, hlt])
      cases he : (txtL k == s.toList)
      · have Hs := Lib.hid (readTo_none s k Hp.out he)
        go_wp2_with (go_at_call 13; refine (text_any k (by omega) _).mono ?_; rintro e w' ⟨rfl, hb'⟩; rw [Hr.out])
        go_roundw
        case rel => exact ⟨k + 1, by omega, by go_num, Hs.out, hB.trans (hb'.mono hB.size)⟩
        case measure => simp [intOf]; omega
      · have Hs := Lib.hid (readA_some (readTo_some s k 64 Hp.out he hlt))
        go_wp2_with (go_at_call 13; refine (text_any k (by omega) _).mono ?_; rintro e w' ⟨rfl, hb'⟩; rw [Hr.out])
        go_ret2
        exact ⟨by rw [Hs.out.1, Hs.out.2]; rfl, hB.trans (hb'.mono hB.size)⟩
    · obtain rfl : k = 64 := by omega
      have Hs := Lib.hid (readA_none Hp.out)
      go_wp2
      go_ret2
      exact ⟨by rw [Hs.out.1, Hs.out.2]; rfl, hB⟩
end Go.Proofs.Ytadmdanmafegoaa
