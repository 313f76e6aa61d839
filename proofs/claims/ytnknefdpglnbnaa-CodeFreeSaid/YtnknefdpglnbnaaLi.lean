/- The document's answers on names, walked: alike, MayNames. The document's Get, walked. Rows that the call itself appends to, of elements whose lists lie anywhere else: of values, names, expressions. -/
import Derived.Test.YtnknefdpglnbnaaLf
namespace Go.Proofs.Ytnknefdpglnbnaa
open Go.RowKit

theorem belowN {B : Nat} {a w : World} (h : Below B a w) (n : Nat) : Below B a (w.drewN n) := ⟨h.os, h.tape, h.output, h.size, h.block⟩
theorem uniq_take (l : List ByteArray) (i : Nat) (hi : i < l.length) (h : uniq (l.take i)) (hn : ∀ j (hj : j < i), ¬ (l[j]'(by omega)).data.toList = l[i].data.toList) : uniq (l.take (i + 1)) := by
  unfold uniq at *
  rw [List.take_succ_eq_append_getElem hi, List.map_append, List.nodup_append]
  refine ⟨h, by simp, ?_⟩
  intro a ha b hb e
  simp only [List.map_cons, List.map_nil, List.mem_singleton] at hb
  subst hb e
  obtain ⟨x, hx, e⟩ := List.mem_map.1 ha
  obtain ⟨j, hj, rfl⟩ := List.mem_iff_getElem.1 hx
  simp only [List.length_take] at hj
  rw [List.getElem_take] at e
  exact hn j (by omega) e
theorem uniq_not (l : List ByteArray) (i j : Nat) (hi : i < l.length) (hj : j < i) (h : (l[j]'(by omega)).data.toList = l[i].data.toList) : ¬ uniq l := by
  intro hu
  unfold uniq at hu
  have := (List.pairwise_iff_getElem.1 hu) j i (by simp; omega) (by simpa using hi) hj
  simp only [List.getElem_map] at this
  exact this h
set_option maxRecDepth 100000 in
set_option maxHeartbeats 1000000 in
theorem alike72_any {B : Nat} {v : Value} {l : List ByteArray} (w : World) (h : IsSs w B v l) (hB : B ≤ w.heap.size) :
    Calls Try.prog 72 #[v] w fun e w' => e = .returned (.bool (twB l)) ∧ Below w.heap.size w w' := by
  obtain ⟨hlen, hsz, A, cap, hcap, rfl, h7⟩ := h
  have H7 := Lib.hid h7
  have hl : l.length ≤ 140737488351232 := by omega
  clear h7 hsz
  go_enter Try.func72, Try.ntmps72
  go_wp2_with fail
  go_loopw [3] (fun i wr => ∃ j : Nat, j ≤ l.length ∧ i = .int .i64 j ∧ uniq (l.take j) ∧ Below w.heap.size w wr) (fun i _ => l.length - (intOf i).toNat)
  case atStart => exact ⟨0, by omega, rfl, by simp [uniq], Below.refl _ _⟩
  case round =>
    obtain ⟨j, hj, rfl, hu, hb⟩ := hrel
    have HU := Lib.hid hu
    have HB := Lib.hid hb
    clear hu hb
    by_cases hlt : j < l.length
    · obtain ⟨b, o, hbB, hA, hx⟩ := H7.out (by rintro rfl; simp at hlt)
      subst hA
      have HX := Lib.hid hx
      clear hx
      go_wp2_with fail
      obtain ⟨wo, rfl⟩ : ∃ wo : World, wo = wr := ⟨_, rfl⟩
      go_loopw [4] (fun k wi => ∃ m : Nat, m ≤ j ∧ k = .int .i64 m ∧ (∀ i (hi : i < m) (hl : i < l.length), ¬ l[i].data.toList = l[j].data.toList) ∧ Below w.heap.size w wi) (fun k _ => j - (intOf k).toNat)
      case atStart => exact ⟨0, by omega, rfl, fun i hi => by omega, HB.out⟩
      case round =>
        obtain ⟨m, hm, rfl, hn, hb⟩ := hrel
        have HN := Lib.hid hn
        have HB1 := Lib.hid hb
        clear hn hb
        by_cases hlm : m < j
        · have hlm2 : m < l.length := by omega
          have e1 := (World.cell?_of_block (w := w) (a := ⟨b, o + j, Option.none⟩) (HB1.out.block b (by omega))).trans (HX.out j hlt)
          have e2 := (World.cell?_of_block (w := w) (a := ⟨b, o + m, Option.none⟩) (HB1.out.block b (by omega))).trans (HX.out m hlm2)
          cases heq : (l[j].toList == l[m].toList)
          · have HEQ := Lib.hid heq
            go_wp2_with fail
            go_quiet (fail)
            go_wp2_with fail
            go_roundw
            case rel =>
              refine ⟨m + 1, by omega, by go_num, fun i hi hl => ?_, belowN HB1.out _⟩
              by_cases him : i = m
              · subst him
                have := HEQ.out
                rw [ByteArray.toList_eq, ByteArray.toList_eq, beq_eq_false_iff_ne] at this
                exact fun h => this h.symm
              · exact HN.out i (by omega) hl
            case measure => simp [intOf]; omega
          · have HT : Hid (twB l = true) := Lib.hid (by
              have := heq
              rw [ByteArray.toList_eq, ByteArray.toList_eq, beq_iff_eq] at this
              simp [twB, uniq_not l j m hlt hlm this.symm])
            go_wp2_with fail
            go_quiet (fail)
            go_wp2_with fail
            go_ret
            rw [HT.out]
            exact ⟨rfl, belowN HB1.out _⟩
        · obtain rfl : m = j := by omega
          go_wp2_with fail
          go_roundw
          case rel => exact ⟨m + 1, by omega, by go_num, uniq_take l m hlt HU.out (fun i hi => HN.out i hi (by omega)), HB1.out⟩
          case measure => simp [intOf]; omega
    · obtain rfl : j = l.length := by omega
      have HT : Hid (twB l = false) := Lib.hid (by
        have := HU.out
        rw [List.take_length] at this
        simp [twB, this])
      go_wp2_with fail
      go_ret
      rw [HT.out]
      exact ⟨rfl, HB.out⟩
set_option maxRecDepth 100000 in
set_option maxHeartbeats 1000000 in
theorem MayNames24_any {B : Nat} {v : Value} {l : List Na} (w : World) (h : IsNs w B v l) (hB : B ≤ w.heap.size) :
    Calls Try.prog 24 #[v] w fun e w' => e = .returned (.bool (mayNs l)) ∧ Below w.heap.size w w' := by
  obtain ⟨hlen, A, cap, hcap, rfl, h7⟩ := h
  have H7 := Lib.hid h7
  have hl : l.length ≤ 140737488351232 := by omega
  clear h7
  obtain ⟨i0, hi, hz0, hz1, hz2⟩ := info_parts info9
  by_cases hbig : 64 < l.length
  · have HF : Hid (mayNs l = false) := Lib.hid (by simp [mayNs]; omega)
    have hbig' : (64 : Int) < l.length := by omega
    go_enter Try.func24, Try.ntmps24
    go_wp2_with fail
    go_ret
    exact ⟨by rw [HF.out]; rfl, Below.refl _ _⟩
  · have hsm : (l.length : Int) ≤ 64 := by omega
    have hb64 : decide ((64 : Int) < l.length) = false := by simp; omega
    have HH := Lib.hid hi
    clear hi
    go_enter Try.func24, Try.ntmps24
    go_wp2_with fail
    go_loopw [3, 4] (fun v i wr => ∃ k : Nat, k ≤ l.length ∧ i = .int .i64 k ∧ (l.take k).all (fun x => mayN x.1 && mayV x.2) = true ∧ wr.ownsRow w.heap.size 9 1 v k ((l.map fun x => Value.string x.1).take k) ∧ Below w.heap.size w wr) (fun _ i _ => l.length - (intOf i).toNat)
    case atStart => exact ⟨0, by omega, rfl, rfl, World.ownsRow_nil _ _ _ _, Below.refl _ _⟩
    case round =>
      obtain ⟨k, hk, rfl, hall, hown, hnx⟩ := hrel
      have HA := Lib.hid hall
      have HO := Lib.hid hown
      have HN := Lib.hid hnx
      clear hall hown hnx
      by_cases hlt : k < l.length
      · obtain ⟨b, o, hbB, hA, hx⟩ := H7.out (by rintro rfl; simp at hlt)
        subst hA
        obtain ⟨hs0, k', n', s', A', len', cap', r', hat, hx1⟩ := hx.at2 k hlt
        have hat' := hat.keep hbB (fun b hb => HN.out.block b (by omega))
        obtain ⟨e0, e1, e2, e3, e4, e5⟩ := hat'.six
        have hX1 := IsVa.keep (w' := wr) (fun b hb => HN.out.block b (by omega)) hx1
        have hcv := May67_any wr hX1 (by have := HN.out.size; omega)
        obtain ⟨sn, hsn⟩ : ∃ sn, sn = l[k].1 := ⟨_, rfl⟩
        have HSN := Lib.hid hsn
        rw [← hsn] at e0 hs0
        obtain ⟨mv, hmv⟩ : ∃ mv, mv = mayV l[k].2 := ⟨_, rfl⟩
        rw [← hmv] at hcv
        have HCV := Lib.hid hcv
        have HMV := Lib.hid hmv
        have hcn := fun w => mayName39_any sn w hs0
        obtain ⟨mn, hmn⟩ : ∃ mn, mn = mayN sn := ⟨_, rfl⟩
        rw [← hmn] at hcn
        have HCN := Lib.hid hcn
        have HMN := Lib.hid hmn
        clear hsn hat hat' hx hx1 hX1 hcv hmv hcn hmn
        cases mn
        · have HF : Hid (mayNs l = false) := Lib.hid (by
            have : l.all (fun x => mayN x.1 && mayV x.2) = false := by
              rw [List.all_eq_false]; exact ⟨l[k], List.getElem_mem hlt, by rw [← HSN.out, ← HMN.out]; simp⟩
            simp [mayNs, this])
          go_wp2_with (go_at_call 39; refine (HCN.out _).mono ?_; rintro e w1 ⟨rfl, rfl⟩)
          go_ret
          exact ⟨by rw [HF.out]; rfl, HN.out⟩
        · cases mv
          · have HF : Hid (mayNs l = false) := Lib.hid (by
              have : l.all (fun x => mayN x.1 && mayV x.2) = false := by
                rw [List.all_eq_false]; exact ⟨l[k], List.getElem_mem hlt, by rw [← HMV.out]; simp⟩
              simp [mayNs, this])
            go_wp2_with (first | (go_at_call 39; refine (HCN.out _).mono ?_; rintro e w1 ⟨rfl, rfl⟩) | (go_at_call 67; refine (HCV.out).mono ?_; rintro e w2 ⟨rfl, hb2⟩))
            go_ret
            exact ⟨by rw [HF.out]; rfl, bnext HN.out hb2⟩
          · go_wp2_with (first | (go_at_call 39; refine (HCN.out _).mono ?_; rintro e w1 ⟨rfl, rfl⟩) | (go_at_call 67; refine (HCV.out).mono ?_; rintro e w2 ⟨rfl, hb2⟩; have f0 := (World.cell?_of_block (w := wr) (a := ⟨b, o + k * 6, Option.none⟩) (hb2.block b (by have := HN.out.size; omega))).trans e0; have HB2 := Lib.hid (bnext HN.out hb2); have HO2 := Lib.hid (own_below HO.out hb2)) | (at_builtin; refine wpList_append_own _ rfl (.tmp 30) (.tmp 36) 56 rfl w.heap.size 9 i0 (.string ⟨#[]⟩) 1 16 Try.underlying56 HH.out hz0 hz1 hz2 rfl (by decide) _ _ _ rfl (HO2.out.alloc _) ⟨w2.heap.size, 0, Option.none⟩ 1 1 [.string sn] rfl rfl ?hc1 ?hc2 ?hc3 ?hc4 ?hc5 ?_))
            case hc1 => exact cell_one_new _ _ _
            case hc2 => intro u hu; simp at hu; subst hu; rfl
            case hc3 => unfold maxLen; omega
            case hc4 => omega
            case hc5 => have := HB2.out.size; simp; omega
            intro v' w3 hown' hgrow _
            have HW3 := Lib.hid hown'
            have HG3 := Lib.hid hgrow
            clear hown' hgrow
            go_wp2_with fail
            go_roundw
            case rel =>
              refine ⟨k + 1, by omega, by go_num, ?_, ?_, ?_⟩
              · rw [take_snoc_get l k hlt, List.all_append, HA.out]; simp only [List.all_cons, List.all_nil, Bool.and_true, Bool.true_and]; rw [← HSN.out, ← HMN.out, ← HMV.out]; rfl
              · rw [take_snoc_get (l.map fun x => Value.string x.1) k (by simpa using hlt), List.getElem_map, ← HSN.out]; exact HW3.out
              · exact ((HB2.out.alloc HB2.out.size _)).grown HG3.out (by have := HB2.out.size; simp; omega) (fun g hg => by
                  rcases HO2.out.2 with ⟨rfl, _⟩ | ⟨g', _, _, rfl, hb, _⟩
                  · cases hg
                  · simp [Value.ownBlock] at hg; omega)
            case measure => simp [intOf]; omega
      · obtain rfl : k = l.length := by omega
        have hall := HA.out
        rw [List.take_length] at hall
        have hown := HO.out
        rw [List.take_of_length_le (by simp), show (l.map fun x => Value.string x.1) = (l.map (·.1)).map Value.string from by rw [List.map_map]; rfl] at hown
        have hS := IsSs_of_own hown (by rw [List.length_map]; omega) (fun s hs => by
          obtain ⟨x, hx, rfl⟩ := List.mem_map.1 hs
          have := List.all_eq_true.1 hall x hx
          simp only [Bool.and_eq_true, mayN, decide_eq_true_eq] at this
          omega)
        have HSS := Lib.hid hS
        have HF : Hid (mayNs l = !twB (l.map (·.1))) := Lib.hid (by
          have : decide (l.length ≤ 64) = true := by simp; omega
          simp only [mayNs, hall, this, Bool.true_and])
        clear hall hown hS
        go_wp2_with (go_at_call 72; refine (alike72_any _ HSS.out (Nat.le_refl _)).mono ?_; rintro e w1 ⟨rfl, hb1⟩)
        go_ret
        exact ⟨ret_bool HF.out.symm, bnext HN.out hb1⟩
end Go.Proofs.Ytnknefdpglnbnaa
namespace Go.Proofs.Ytnknefdpglnbnaa
open Go.RowKit

theorem getN_drop_cons (l : List Na) (j : Nat) (h : j < l.length) (nm : ByteArray) : getN (l.drop j) nm = if l[j].1.toList == nm.toList then some l[j].2 else getN (l.drop (j + 1)) nm := by
  rw [List.drop_eq_getElem_cons h]
  rfl
theorem zero_five : (#[.int .u8 0, .int .i64 0, .string ⟨#[]⟩, .slice Option.none 0 0, .int .i64 0] : Array Value) = zeroV := rfl
set_option maxRecDepth 100000 in
set_option maxHeartbeats 1000000 in
theorem Get37_any {B : Nat} {v : Value} {l : List Na} (nm : ByteArray) (w : World) (h : IsNs w B v l) (hB : B ≤ w.heap.size) :
    Calls Try.prog 37 #[v, .string nm] w fun e w' => ∃ v', e = .returned (.tuple #[v', .bool (getB l nm)]) ∧ IsVa w' B v' (rawX l nm) ∧ Below w.heap.size w w' := by
  obtain ⟨hlen, A, cap, hcap, rfl, h7⟩ := h
  have H7 := Lib.hid h7
  have hl : l.length ≤ 140737488351232 := by omega
  have HN1 : Hid (BlkN (w.alloc (.cells zeroV 34)) w.heap.size 34 zeroV) := Lib.hid (BlkN.at_ rfl _ _)
  have HB0 := Lib.hid ((Below.refl w.heap.size w).alloc (Nat.le_refl _) (.cells zeroV 34))
  clear h7
  go_enter Try.func37, Try.ntmps37
  go_wp2_with fail
  go_loopw [6] (fun i wr => ∃ k : Nat, k ≤ l.length ∧ i = .int .i64 k ∧ getN l nm = getN (l.drop k) nm ∧ Below w.heap.size w wr ∧ BlkN wr w.heap.size 34 zeroV) (fun i _ => l.length - (intOf i).toNat)
  case atStart => exact ⟨0, by omega, rfl, rfl, HB0.out, HN1.out⟩
  case round =>
    obtain ⟨j, hj, rfl, hg, hu, hb0⟩ := hrel
    have HU := Lib.hid hu
    have HC := Lib.hid hb0
    have HG := Lib.hid hg
    have hsz := hb0.lt
    clear hg hu hb0
    have d0 := HC.out.cell 0 rfl
    have d1 := HC.out.cell 1 rfl
    have d2 := HC.out.cell 2 rfl
    have d3 := HC.out.cell 3 rfl
    have d4 := HC.out.cell 4 rfl
    have x0 := HC.out.free 0
    have x1 := HC.out.free 1
    have x2 := HC.out.free 2
    have x3 := HC.out.free 3
    have x4 := HC.out.free 4
    by_cases hlt : j < l.length
    · obtain ⟨b, o, hbB, hA, hx⟩ := H7.out (by rintro rfl; simp at hlt)
      subst hA
      obtain ⟨hs0, k', n', s', A', len', cap', r', hat, hx1⟩ := hx.at2 j hlt
      have hat' := hat.keep hbB (fun b hb => HU.out.block b (by omega))
      obtain ⟨e0, e1, e2, e3, e4, e5⟩ := hat'.six
      have HX1 := Lib.hid hx1
      have HDD := Lib.hid (getN_drop_cons l j hlt nm)
      clear hat hat' hx hx1
      obtain ⟨sn, hsn⟩ : ∃ sn, sn = l[j].1 := ⟨_, rfl⟩
      have HSN := Lib.hid hsn
      rw [← hsn] at e0 hs0
      clear hsn
      cases heq : (sn.toList == nm.toList)
      · have HEQ := Lib.hid heq
        go_wp2_with fail
        go_roundw
        case rel => exact ⟨j + 1, by omega, by go_num, by rw [HG.out, HDD.out, ← HSN.out, HEQ.out]; rfl, HU.out, HC.out⟩
        case measure => simp [intOf]; omega
      · have HEQ : Hid (getN l nm = some l[j].2) := Lib.hid (by rw [HG.out, HDD.out, ← HSN.out, heq]; rfl)
        go_wp2_with fail
        obtain ⟨WF, hWF, y0, y1, y2, y3, y4, hk, hbel, hR⟩ := res5 HC.out (.int .u8 k') (.int .i64 n') (.string s') (.slice A' len' cap') (.int .i64 r')
        rw [hWF]
        have hbw := hbel _ _ (Nat.le_refl _) HU.out
        refine bodyPost_ret (v := .tuple #[.agg #[.int .u8 k', .int .i64 n', .string s', .slice A' len' cap', .int .i64 r'], .bool true]) (by simp [results, Try.results37, go_sem, y0, y1, y2, y3, y4]) rfl ⟨_, by unfold getB; rw [HEQ.out]; rfl, ?_, hbw⟩
        unfold rawX
        rw [HEQ.out]
        exact IsVa.keep (fun b hb => hbw.block b (by omega)) HX1.out
    · obtain rfl : j = l.length := by omega
      have HEQ : Hid (getN l nm = Option.none) := Lib.hid (by rw [HG.out, List.drop_length]; rfl)
      go_wp2_with fail
      obtain ⟨WF, hWF, y0, y1, y2, y3, y4, hk, hbel, hR⟩ := res5 HC.out (.int .u8 0) (.int .i64 0) (.string ⟨#[]⟩) (.slice Option.none 0 0) (.int .i64 0)
      rw [hWF]
      have hbw := hbel _ _ (Nat.le_refl _) HU.out
      refine bodyPost_ret (v := .tuple #[.agg #[.int .u8 0, .int .i64 0, .string ⟨#[]⟩, .slice Option.none 0 0, .int .i64 0], .bool false]) (by simp [results, Try.results37, go_sem, y0, y1, y2, y3, y4]) rfl ⟨_, by unfold getB; rw [HEQ.out]; rfl, ?_, hbw⟩
      unfold rawX
      rw [HEQ.out]
      exact IsVaR.zero _ _
end Go.Proofs.Ytnknefdpglnbnaa
namespace Go.Proofs.Ytnknefdpglnbnaa
open Go.RowKit

/-- Blocks that came in (below B), or that are new (from lo on). -/
def RN (B lo : Nat) (w : World) (b _o : Nat) : Prop := (b < B ∨ lo ≤ b) ∧ b < w.heap.size
theorem RN.below {B lo : Nat} {w w' : World} {b o : Nat} (h : RN B lo w b o) (hb : Below w.heap.size w w') : RN B lo w' b o := ⟨h.1, Nat.lt_of_lt_of_le h.2 hb.size⟩
theorem RN.low {B lo lo' : Nat} {w : World} {b o : Nat} (h : RN B lo w b o) (hl : lo' ≤ lo) : RN B lo' w b o := ⟨h.1.imp id fun h => Nat.le_trans hl h, h.2⟩
/-- A reading of an element's cells that looks at the blocks of R alone. -/
structure Rd (α : Type) where
  P : World → (Nat → Nat → Prop) → List Value → α → Prop
  keep : ∀ {w w' : World} {R : Nat → Nat → Prop} {cs : List Value} {x : α}, (∀ b o, R b o → w'.heap[b]? = w.heap[b]?) → P w R cs x → P w' R cs x
  mono : ∀ {w : World} {R R' : Nat → Nat → Prop} {cs : List Value} {x : α}, (∀ b o, R b o → R' b o) → P w R cs x → P w R' cs x
/-- v is a row of the call's own, of these cells, that reads as these; what its elements hold lies elsewhere. -/
def GRow {α : Type} (D : Rd α) (E : TypeId) (sz : Nat) (w : World) (B lo : Nat) (v : Value) (vs : List α) (xs : List Value) : Prop :=
  w.ownsRow lo E sz v vs.length xs ∧ ∀ (i : Nat) (hi : i < vs.length), ∃ cs : List Value, cs.length = sz ∧ (∀ j u, cs[j]? = some u → xs[i * sz + j]? = some u) ∧ D.P w (fun b o => RN B lo w b o ∧ v.ownBlock ≠ some b) cs vs[i]
section
variable {α : Type} {D : Rd α} {E : TypeId} {sz : Nat} {w w' : World} {B lo : Nat} {v : Value} {vs : List α} {xs : List Value}
theorem GRow.nil (D : Rd α) (E : TypeId) (sz : Nat) (w : World) (B lo : Nat) : GRow D E sz w B lo (.slice Option.none 0 0) [] [] := ⟨World.ownsRow_nil _ _ _ _, fun i hi => absurd hi (by simp)⟩
theorem GRow.below (h : GRow D E sz w B lo v vs xs) (hb : Below w.heap.size w w') : GRow D E sz w' B lo v vs xs := by
  obtain ⟨h1, h2⟩ := h
  refine ⟨own_below h1 hb, fun i hi => ?_⟩
  obtain ⟨cs, h3, h4, h5⟩ := h2 i hi
  exact ⟨cs, h3, h4, D.mono (fun b o hr => ⟨hr.1.below hb, hr.2⟩) (D.keep (fun b o hr => hb.block b hr.1.2) h5)⟩
theorem GRow.blk (h : GRow D E sz w B lo v vs xs) {g : Nat} (hg : v.ownBlock = some g) : lo ≤ g ∧ g < w.heap.size := by
  rcases h.1.2 with ⟨rfl, _⟩ | ⟨g', cap, cur, rfl, h1, h2, _⟩
  · cases hg
  · simp only [Value.ownBlock, Option.some.injEq] at hg
    subst hg
    exact ⟨h1, lt_of_block h2⟩
theorem GRow.push {lo2 : Nat} {v' : Value} {cs : List Value} {x : α} (h : GRow D E sz w B lo v vs xs) (hcs : cs.length = sz) (hx : D.P w (RN B lo2 w) cs x) (hlo : lo ≤ lo2) (hB : B ≤ lo) (hlt : ∀ g, v.ownBlock = some g → g < lo2)
    (hown : w'.ownsRow lo E sz v' (vs.length + 1) (xs ++ cs)) (hg : w.grownBy w' v.ownBlock) (hor : v'.ownBlock = v.ownBlock ∨ ∃ g, v'.ownBlock = some g ∧ w.heap.size ≤ g) : GRow D E sz w' B lo v' (vs ++ [x]) (xs ++ cs) := by
  have hblk : ∀ g, v.ownBlock = some g → lo ≤ g := fun g e => (h.blk e).1
  obtain ⟨h1, h2⟩ := h
  have hxl : xs.length = vs.length * sz := h1.1
  have hk : ∀ b o, RN B lo w b o ∧ v.ownBlock ≠ some b → w'.heap[b]? = w.heap[b]? ∧ (RN B lo w' b o ∧ v'.ownBlock ≠ some b) := fun b o hr => by
    have e := hg.block b hr.1.2 (fun e => hr.2 e.symm)
    refine ⟨e, ⟨hr.1.1, Nat.lt_of_lt_of_le hr.1.2 hg.size⟩, ?_⟩
    rcases hor with ho | ⟨g, ho, hgs⟩
    · rw [ho]; exact hr.2
    · rw [ho]; intro e2; injection e2 with e3; have := hr.1.2; omega
  refine ⟨by rw [List.length_append]; exact hown, fun i hi => ?_⟩
  by_cases hi' : i < vs.length
  · obtain ⟨ds, h0, h3, h4⟩ := h2 i hi'
    refine ⟨ds, h0, fun j u hu => ?_, ?_⟩
    · have h5 := h3 j u hu
      have hl := (List.getElem?_eq_some_iff.1 h5).1
      rw [List.getElem?_append_left hl]; exact h5
    · rw [List.getElem_append_left hi']
      exact D.mono (fun b o hr => (hk b o hr).2) (D.keep (fun b o hr => (hk b o hr).1) h4)
  · have hil : i = vs.length := by simp at hi; omega
    subst hil
    refine ⟨cs, hcs, fun j u hu => ?_, ?_⟩
    · rw [← hxl, List.getElem?_append_right (by omega)]
      rw [show xs.length + j - xs.length = j by omega]; exact hu
    · have hx' := D.mono (R' := fun b o => RN B lo w b o ∧ v.ownBlock ≠ some b) (fun b o hr => ⟨hr.low hlo, fun e => by have h3 := hlt b e; have h4 := hblk b e; rcases hr.1 with h5 | h5 <;> omega⟩) hx
      rw [List.getElem_append_right (by omega)]
      simp only [Nat.sub_self, List.getElem_singleton]
      exact D.mono (fun b o hr => (hk b o hr).2) (D.keep (fun b o hr => (hk b o hr).1) hx')
theorem GRow.upd {p : Nat} (h : GRow D E sz w B lo v vs xs) (hu : Upd p w w') (hp : p < lo) (hB : B ≤ p) : GRow D E sz w' B lo v vs xs := by
  obtain ⟨h1, h2⟩ := h
  refine ⟨own_upd h1 hu hp, fun i hi => ?_⟩
  obtain ⟨cs, h3, h4, h5⟩ := h2 i hi
  have hk : ∀ b o, RN B lo w b o → w'.heap[b]? = w.heap[b]? := fun b o hr => hu.block b hr.2 (by rcases hr.1 with h | h <;> omega)
  exact ⟨cs, h3, h4, D.mono (fun b o hr => ⟨⟨hr.1.1, Nat.lt_of_lt_of_le hr.1.2 hu.size⟩, hr.2⟩) (D.keep (fun b o hr => hk b o hr.1) h5)⟩
/-- What the row reads as. -/
theorem GRow.list (h : GRow D E sz w B lo v vs xs) :
    ∃ A cap, v = .slice A vs.length cap ∧ vs.length ≤ cap ∧ (vs ≠ [] → ∃ b, RN B lo w b 0 ∧ A = some ⟨b, 0, Option.none⟩ ∧ ∀ (i : Nat) (hi : i < vs.length), ∃ cs : List Value, cs.length = sz ∧ At w b (0 + i * sz) cs ∧ D.P w (RN B lo w) cs vs[i]) := by
  obtain ⟨h1, h2⟩ := h
  rcases h1.2 with ⟨rfl, h0⟩ | ⟨g, cap, cur, rfl, hb, hg, hc, _, hcs, htake⟩
  · exact ⟨Option.none, 0, by rw [h0], by omega, fun hne => absurd (List.length_eq_zero_iff.1 h0) hne⟩
  · refine ⟨_, cap, rfl, hc, fun _ => ⟨g, ⟨.inr hb, lt_of_block hg⟩, rfl, fun i hi => ?_⟩⟩
    obtain ⟨cs, h0, h3, h4⟩ := h2 i hi
    refine ⟨cs, h0, fun j u hu => ?_, D.mono (fun b o hr => hr.1) h4⟩
    have hx := h3 j u hu
    have hc := h1.cells (g := g) rfl (i * sz + j) u hx
    rw [add_lit] at hc
    rw [Nat.zero_add]
    exact hc
end
/-- Values. -/
def RdV : Rd Va where
  P := fun w R cs x => ∃ c0 c1 c2 c3 c4, cs = [c0, c1, c2, c3, c4] ∧ IsVaR w R (.agg #[c0, c1, c2, c3, c4]) x
  keep := fun hk ⟨c0, c1, c2, c3, c4, h1, h2⟩ => ⟨c0, c1, c2, c3, c4, h1, h2.keep hk⟩
  mono := fun hk ⟨c0, c1, c2, c3, c4, h1, h2⟩ => ⟨c0, c1, c2, c3, c4, h1, h2.mono hk⟩
theorem RdV.list {w : World} {R : Nat → Nat → Prop} {b o : Nat} {l : List Va} (h : ∀ (i : Nat) (hi : i < l.length), ∃ cs : List Value, cs.length = 5 ∧ At w b (o + i * 5) cs ∧ RdV.P w R cs l[i]) : IsVasR w R b o l :=
  IsVasR.of fun i hi => by
    obtain ⟨cs, _, h2, c0, c1, c2, c3, c4, rfl, h3⟩ := h i hi
    exact ⟨c0, c1, c2, c3, c4, h2, h3⟩
/-- Expressions. -/
def RdE : Rd Ex where
  P := fun w R cs x => ∃ c0 c1 c2 c3, cs = [c0, c1, c2, c3] ∧ IsExR w R (.agg #[c0, c1, c2, c3]) x
  keep := fun hk ⟨c0, c1, c2, c3, h1, h2⟩ => ⟨c0, c1, c2, c3, h1, h2.keep hk⟩
  mono := fun hk ⟨c0, c1, c2, c3, h1, h2⟩ => ⟨c0, c1, c2, c3, h1, h2.mono hk⟩
theorem RdE.list {w : World} {R : Nat → Nat → Prop} {b : Nat} : ∀ {o : Nat} {l : List Ex}, (∀ (i : Nat) (hi : i < l.length), ∃ cs : List Value, cs.length = 4 ∧ At w b (o + i * 4) cs ∧ RdE.P w R cs l[i]) → IsExsR w R b o l
  | _, [], _ => by unfold IsExsR; trivial
  | o, x :: l, h => by
    unfold IsExsR
    refine ⟨?_, RdE.list fun i hi => ?_⟩
    · obtain ⟨cs, _, h2, c0, c1, c2, c3, rfl, h3⟩ := h 0 (by simp)
      exact ⟨c0, c1, c2, c3, by simpa using h2, h3⟩
    · have := h (i + 1) (by simpa using hi)
      rw [show o + (i + 1) * 4 = o + 4 + i * 4 by omega] at this
      exact this
/-- Names. -/
def RdN : Rd Na where
  P := fun w R cs x => x.1.size ≤ 140737488351232 ∧ ∃ c0 c1 c2 c3 c4, cs = [.string x.1, c0, c1, c2, c3, c4] ∧ IsVaR w R (.agg #[c0, c1, c2, c3, c4]) x.2
  keep := fun hk ⟨h0, c0, c1, c2, c3, c4, h1, h2⟩ => ⟨h0, c0, c1, c2, c3, c4, h1, h2.keep hk⟩
  mono := fun hk ⟨h0, c0, c1, c2, c3, c4, h1, h2⟩ => ⟨h0, c0, c1, c2, c3, c4, h1, h2.mono hk⟩
theorem RdN.list {w : World} {R : Nat → Nat → Prop} {b : Nat} : ∀ {o : Nat} {l : List Na}, (∀ (i : Nat) (hi : i < l.length), ∃ cs : List Value, cs.length = 6 ∧ At w b (o + i * 6) cs ∧ RdN.P w R cs l[i]) → IsNasR w R b o l
  | _, [], _ => by unfold IsNasR; trivial
  | o, (s, x) :: l, h => by
    unfold IsNasR
    refine ⟨?_, RdN.list fun i hi => ?_⟩
    · obtain ⟨cs, _, h2, h0, c0, c1, c2, c3, c4, rfl, h3⟩ := h 0 (by simp)
      exact ⟨h0, c0, c1, c2, c3, c4, by simpa using h2, h3⟩
    · have := h (i + 1) (by simpa using hi)
      rw [show o + (i + 1) * 6 = o + 6 + i * 6 by omega] at this
      exact this
end Go.Proofs.Ytnknefdpglnbnaa
