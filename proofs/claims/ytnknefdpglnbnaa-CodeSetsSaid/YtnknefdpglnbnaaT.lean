/- Slices of strings; the contract of package code's twice: does a list have something twice. -/
import Derived.Test.YtnknefdpglnbnaaN
import Derived.Maps.Own
import Derived.Maps.OwnOps
import Derived.Maps.Views
namespace Go.Proofs.Ytnknefdpglnbnaa
open Go.RowKit Go.WideMaps Go.Maps

def IsSsR (w : World) (R : Nat → Nat → Prop) (v : Value) (l : List ByteArray) : Prop :=
  l.length * 16 ≤ 140737488351232 ∧ (∀ s ∈ l, s.size ≤ 140737488351232) ∧ ∃ A cap, l.length ≤ cap ∧ v = .slice A l.length cap ∧ (l ≠ [] → ∃ b o, R b o ∧ A = some ⟨b, o, Option.none⟩ ∧ ∀ (i : Nat) (hi : i < l.length), w.cell? ⟨b, o + i, Option.none⟩ = some (.string l[i]))
abbrev IsSs (w : World) (B : Nat) : Value → List ByteArray → Prop := IsSsR w (fun b _ => b < B)
theorem IsSsR.keep {w w' : World} {R : Nat → Nat → Prop} (hk : ∀ b o, R b o → w'.heap[b]? = w.heap[b]?) {v : Value} {l : List ByteArray} (h : IsSsR w R v l) : IsSsR w' R v l := by
  obtain ⟨h1, h2, A, cap, h3, h4, h5⟩ := h
  refine ⟨h1, h2, A, cap, h3, h4, fun hl => ?_⟩
  obtain ⟨b, o, hb, hA, hx⟩ := h5 hl
  exact ⟨b, o, hb, hA, fun i hi => (World.cell?_of_block (w := w) (hk b o hb)).trans (hx i hi)⟩
theorem lawS : Keyed Try.prog 9 := string_keyed Try.underlying9
theorem zero3 (w : World) : (zeroValue 3).run Try.prog w = .ok (.int .i64 0) w := by kernel_rfl
def keyS (s : ByteArray) : Lit := .string s.data.toList
/-- The datum counts the texts of a list, each once at most. -/
def CountsD (D : DataW Unit) (l : List ByteArray) : Prop := IsMap D ∧ ∀ s : ByteArray, D.atKey (keyS s) (.lit (.int .i64 0)) = .lit (.int .i64 (if s.data.toList ∈ l.map (·.data.toList) then 1 else 0))
def uniq (l : List ByteArray) : Prop := (l.map (·.data.toList)).Nodup
instance (l : List ByteArray) : Decidable (uniq l) := by unfold uniq; infer_instance
def twB (l : List ByteArray) : Bool := !decide (uniq l)
theorem CountsD.nil : CountsD (.map []) [] := ⟨⟨_, rfl⟩, fun s => by simp; rfl⟩
theorem CountsD.step {D : DataW Unit} {l : List ByteArray} {s : ByteArray} (h : CountsD D l) (_hs : s.data.toList ∉ l.map (·.data.toList)) : CountsD (D.put (keyS s) (.lit (.int .i64 1))) (l ++ [s]) := by
  obtain ⟨h1, h2⟩ := h
  refine ⟨h1.put _ _, fun t => ?_⟩
  by_cases e : t.data.toList = s.data.toList
  · have ek : keyS t = keyS s := by simp [keyS, e]
    rw [ek, atKey_put_same h1 (by simp [keyS, WideAt.IsKeyLit])]
    simp [e]
  · rw [atKey_put_other (by simp [keyS, e]), h2 t]
    simp [e]
theorem uniq_take_no {l : List ByteArray} {k : Nat} (h : k < l.length) (hm : (l[k]).data.toList ∈ (l.take k).map (·.data.toList)) : ¬ uniq l := by
  intro hu
  unfold uniq at hu
  have e : l.map (·.data.toList) = (l.take k).map (·.data.toList) ++ (l.drop k).map (·.data.toList) := by rw [← List.map_append, List.take_append_drop]
  rw [e, List.nodup_append] at hu
  refine hu.2.2 _ hm _ ?_ rfl
  rw [List.drop_eq_getElem_cons h, List.map_cons]
  exact List.mem_cons_self
theorem uniq_take_succ {l : List ByteArray} {k : Nat} (h : k < l.length) (hu : uniq (l.take k)) (hm : (l[k]).data.toList ∉ (l.take k).map (·.data.toList)) : uniq (l.take (k + 1)) := by
  unfold uniq at *
  rw [take_snoc_get l k h, List.map_append, List.nodup_append]
  refine ⟨hu, by simp, fun a ha b hb => ?_⟩
  simp only [List.map_cons, List.map_nil, List.mem_singleton] at hb
  subst hb
  rintro rfl
  exact hm ha
set_option maxRecDepth 100000 in
set_option maxHeartbeats 1000000 in
theorem twice_any {B : Nat} {v : Value} {l : List ByteArray} (w : World) (h : IsSs w B v l) (hB : B ≤ w.heap.size) :
    Calls Try.prog 86 #[v] w fun e w' => e = .returned (.bool (twB l)) ∧ Below w.heap.size w w' := by
  obtain ⟨hlen, hsz, A, cap, hcap, rfl, h7⟩ := h
  have H7 := Lib.hid h7
  have HS := Lib.hid hsz
  have hl : l.length ≤ 140737488351232 := by omega
  have hmm := @run_makeMap Try.prog
  clear h7 hsz
  go_enter Try.func86, Try.ntmps86
  go_wp2_with fail
  go_loopw [9] (fun i wr => ∃ k : Nat, k ≤ l.length ∧ i = .int .i64 k ∧ uniq (l.take k) ∧ (∃ D : DataW Unit, wr.ownsMap Try.prog 9 (plainElem Try.prog 3) w.heap.size k D ∧ CountsD D (l.take k)) ∧ Below w.heap.size w wr)
    (fun i _ => l.length - (intOf i).toNat)
  case atStart => exact ⟨0, Nat.zero_le _, rfl, by simp [uniq], ⟨_, World.ownsMap_made _ _ _ _, by simpa using CountsD.nil⟩, (Below.refl _ _).alloc (Nat.le_refl _) _⟩
  case round =>
    obtain ⟨k, hk, rfl, hu, ⟨D, hown, hD⟩, hnx⟩ := hrel
    have HU := Lib.hid hu
    have HD := Lib.hid hD
    have HO := Lib.hid hown
    have HN := Lib.hid hnx
    clear hu hD hown hnx hmm
    by_cases hlt : k < l.length
    · obtain ⟨b, o, hbB, hA, hx⟩ := H7.out (by rintro rfl; simp at hlt)
      subst hA
      have hcell : wr.cell? ⟨b, o + k, Option.none⟩ = some (.string l[k]) := (HN.out.cell (by show b < _; omega)).trans (hx k hlt)
      have hss : l[k].size ≤ maxLen := by have := HS.out l[k] (List.getElem_mem hlt); unfold maxLen; omega
      obtain ⟨sk, hsk⟩ : ∃ sk, sk = l[k] := ⟨_, rfl⟩
      rw [← hsk] at hcell hss
      have hkey : keyOf Try.prog 9 (.string sk) = some (keyS sk) := keyOf_string_mk Try.underlying9 hss
      have HK := Lib.hid hsk
      clear hsk hx hss
      have hD2 := Lib.hid (HD.out.2 sk)
      by_cases hm : sk.data.toList ∈ (l.take k).map (·.data.toList)
      · have hat0 : Hid (D.atKey (keyS sk) (.lit (.int .i64 0)) = .lit (.int .i64 1)) := Lib.hid (by rw [hD2.out, if_pos hm])
        have HF : Hid (twB l = true) := Lib.hid (by simp only [twB, Bool.not_eq_true', decide_eq_false_iff_not]; exact uniq_take_no hlt (by rw [← HK.out]; exact hm))
        clear hm
        have HKK := Lib.hid hkey
        clear hkey
        go_wp2_with (first
          | (at_lookup; refine wpList_lookup_own_int _ rfl (.tmp 13) (.tmp 14) 119 rfl 9 3 .i64 lawS Try.underlying119 Try.underlying3 (zero3 _) w.heap.size k D rfl HO.out _ _ rfl HKK.out ?_; intro c hat hwc; rw [hat0.out] at hat; obtain rfl : c = 1 := (by injection hat with h1; injection h1 with h2 h3; exact h3.symm); clear hat hwc)
          | (at_mapUpdate; refine wpList_mapUpdate_own _ rfl (.tmp 13) (.tmp 14) (.tmp 16) 119 rfl 9 3 lawS Try.underlying119 _ w.heap.size k D rfl HO.out (by unfold maxLen; omega) _ _ _ rfl rfl HKK.out _ [] (plainElem_int Try.underlying3 (by decide)) ?_; intro w1 hown1 hgrow1; have HO1 := Lib.hid hown1; have HG1 := Lib.hid hgrow1; clear hown1 hgrow1)
          | (at_lookup; refine wpList_lookup_own_int _ rfl (.tmp 17) (.tmp 18) 119 rfl 9 3 .i64 lawS Try.underlying119 Try.underlying3 (zero3 _) w.heap.size (k + 1) _ rfl HO1.out _ _ rfl HKK.out ?_; intro c hat hwc; rw [atKey_put_same HD.out.1 (by simp [keyS, WideAt.IsKeyLit])] at hat; obtain rfl : c = 2 := (by injection hat with h1; injection h1 with h2 h3; exact h3.symm); clear hat hwc))
        go_ret
        exact ⟨by rw [HF.out]; rfl, HN.out.grown HG1.out HN.out.size (fun j hj => by cases hj; exact Nat.le_refl _)⟩
      · have hat0 : Hid (D.atKey (keyS sk) (.lit (.int .i64 0)) = .lit (.int .i64 0)) := Lib.hid (by rw [hD2.out, if_neg hm])
        have HM := Lib.hid hm
        clear hm
        have HKK := Lib.hid hkey
        clear hkey
        go_wp2_with (first
          | (at_lookup; refine wpList_lookup_own_int _ rfl (.tmp 13) (.tmp 14) 119 rfl 9 3 .i64 lawS Try.underlying119 Try.underlying3 (zero3 _) w.heap.size k D rfl HO.out _ _ rfl HKK.out ?_; intro c hat hwc; rw [hat0.out] at hat; obtain rfl : c = 0 := (by injection hat with h1; injection h1 with h2 h3; exact h3.symm); clear hat hwc)
          | (at_mapUpdate; refine wpList_mapUpdate_own _ rfl (.tmp 13) (.tmp 14) (.tmp 16) 119 rfl 9 3 lawS Try.underlying119 _ w.heap.size k D rfl HO.out (by unfold maxLen; omega) _ _ _ rfl rfl HKK.out _ [] (plainElem_int Try.underlying3 (by decide)) ?_; intro w1 hown1 hgrow1; have HO1 := Lib.hid hown1; have HG1 := Lib.hid hgrow1; clear hown1 hgrow1)
          | (at_lookup; refine wpList_lookup_own_int _ rfl (.tmp 17) (.tmp 18) 119 rfl 9 3 .i64 lawS Try.underlying119 Try.underlying3 (zero3 _) w.heap.size (k + 1) _ rfl HO1.out _ _ rfl HKK.out ?_; intro c hat hwc; rw [atKey_put_same HD.out.1 (by simp [keyS, WideAt.IsKeyLit])] at hat; obtain rfl : c = 1 := (by injection hat with h1; injection h1 with h2 h3; exact h3.symm); clear hat hwc))
        go_roundw
        case rel => exact ⟨k + 1, by omega, by go_num, uniq_take_succ hlt HU.out (by rw [← HK.out]; exact HM.out), ⟨_, HO1.out, by rw [take_snoc_get l k hlt, ← HK.out]; exact HD.out.step HM.out⟩, HN.out.grown HG1.out HN.out.size (fun j hj => by cases hj; exact Nat.le_refl _)⟩
        case measure => simp [intOf]; omega
    · obtain rfl : k = l.length := by omega
      have HF : Hid (uniq l) := Lib.hid (by have := HU.out; rwa [List.take_length] at this)
      go_wp2
      go_ret
      exact ⟨ret_bool (by simp [twB, HF.out]), HN.out⟩
theorem bnext {a b c : World} (h : Below a.heap.size a b) (k : Below b.heap.size b c) : Below a.heap.size a c := h.trans (k.mono h.size)
theorem grown_of_below {a w : World} (h : Below a.heap.size a w) (row : Option Nat) : a.grownBy w row := ⟨h.os, h.tape, h.output, h.size, fun i hi _ => h.block i hi⟩
theorem own_below {w w' : World} {base : Nat} {e : TypeId} {size : Nat} {v : Value} {n : Nat} {xs : List Value} (h : w.ownsRow base e size v n xs) (hb : Below w.heap.size w w') : w'.ownsRow base e size v n xs :=
  h.kept (grown_of_below hb Option.none) (by cases v.ownBlock <;> simp)
theorem IsSs_of_own {w : World} {base : Nat} {v : Value} {n : Nat} {ss : List ByteArray} (h : w.ownsRow base 9 1 v n (ss.map Value.string)) (hl : ss.length * 16 ≤ 140737488351232) (hs : ∀ s ∈ ss, s.size ≤ 140737488351232) : IsSs w w.heap.size v ss := by
  have hn : ss.length = n := by have := h.1; simpa using this
  refine ⟨hl, hs, ?_⟩
  rcases h.2 with ⟨rfl, h0⟩ | ⟨g, cap, cur, rfl, hb, hg, hc, _, hcs, htake⟩
  · refine ⟨Option.none, 0, by omega, by rw [hn, h0], fun hne => absurd (List.length_eq_zero_iff.1 (by omega)) hne⟩
  · refine ⟨some ⟨g, 0, Option.none⟩, cap, by omega, by rw [hn], fun _ => ⟨g, 0, lt_of_block hg, rfl, fun i hi => ?_⟩⟩
    have := h.cellAt i (by omega)
    simp only [Nat.zero_add]
    rw [this, List.getElem?_map, List.getElem?_eq_getElem hi]
    rfl
def mayNs (l : List Na) : Bool := decide (l.length ≤ 64) && l.all (fun x => mayN x.1 && mayV x.2) && !twB (l.map (·.1))
theorem info9 : (Try.prog.info? 9).map (fun i => (i.zero, i.size, i.bytes)) = some (some (.string ⟨#[]⟩), 1, 16) := by kernel_rfl
set_option maxRecDepth 100000 in
set_option maxHeartbeats 1000000 in
theorem MayNames_any {B : Nat} {v : Value} {l : List Na} (w : World) (h : IsNs w B v l) (hB : B ≤ w.heap.size) :
    Calls Try.prog 40 #[v] w fun e w' => e = .returned (.bool (mayNs l)) ∧ Below w.heap.size w w' := by
  obtain ⟨hlen, A, cap, hcap, rfl, h7⟩ := h
  have H7 := Lib.hid h7
  have hl : l.length ≤ 140737488351232 := by omega
  clear h7
  obtain ⟨i0, hi, hz0, hz1, hz2⟩ := info_parts info9
  by_cases hbig : 64 < l.length
  · have HF : Hid (mayNs l = false) := Lib.hid (by simp [mayNs]; omega)
    have hbig' : (64 : Int) < l.length := by omega
    go_enter Try.func40, Try.ntmps40
    go_wp2_with fail
    go_ret
    exact ⟨by rw [HF.out]; rfl, Below.refl _ _⟩
  · have hsm : (l.length : Int) ≤ 64 := by omega
    have hb64 : decide ((64 : Int) < l.length) = false := by simp; omega
    have HH := Lib.hid hi
    clear hi
    go_enter Try.func40, Try.ntmps40
    go_wp2_with fail
    go_loopw [3, 11] (fun v i wr => ∃ k : Nat, k ≤ l.length ∧ i = .int .i64 k ∧ (l.take k).all (fun x => mayN x.1 && mayV x.2) = true ∧ wr.ownsRow w.heap.size 9 1 v k ((l.map fun x => Value.string x.1).take k) ∧ Below w.heap.size w wr) (fun _ i _ => l.length - (intOf i).toNat)
    case atStart => exact ⟨0, by omega, rfl, rfl, World.ownsRow_nil _ _ _ _, Below.refl _ _⟩
    case round =>
      obtain ⟨k, hk, rfl, hall, hown, hnx⟩ := hrel
      have HA := Lib.hid hall
      have HO := Lib.hid hown
      have HN := Lib.hid hnx
      clear hall hown hnx
      by_cases hlt : k < l.length
      · obtain ⟨b, o, hbB, hA, hx⟩ := H7.out (by rintro rfl; simp at hlt)
        subst hA
        obtain ⟨hs0, k', n', s', A', len', cap', r', hat, hx1⟩ := hx.at2 k hlt
        have hat' := hat.keep hbB (fun b hb => HN.out.block b (by omega))
        obtain ⟨e0, e1, e2, e3, e4, e5⟩ := hat'.six
        have HX1 := Lib.hid hx1
        clear hat hat' hx hx1
        obtain ⟨sn, hsn⟩ : ∃ sn, sn = l[k].1 := ⟨_, rfl⟩
        have HSN := Lib.hid hsn
        rw [← hsn] at e0 hs0
        clear hsn
        go_wp2_with fail
        refine (mayName_any sn _).mono ?_
        rintro e w1 ⟨rfl, hb1⟩
        have hB1 := Lib.hid ((HN.out.alloc HN.out.size (.cells #[.string sn, .int .u8 k', .int .i64 n', .string s', .slice A' len' cap', .int .i64 r'] 73)).trans (hb1.mono (by have := HN.out.size; simp; omega)))
        have HD := Lib.hid ((BlkN.at_ (w := wr) rfl 73 #[.string sn, .int .u8 k', .int .i64 n', .string s', .slice A' len' cap', .int .i64 r']).below hb1)
        have d0 := HD.out.cell 0 rfl
        have d1 := HD.out.cell 1 rfl
        have d2 := HD.out.cell 2 rfl
        have d3 := HD.out.cell 3 rfl
        have d4 := HD.out.cell 4 rfl
        have d5 := HD.out.cell 5 rfl
        have HBW := Lib.hid hb1
        clear hb1 e0 e1 e2 e3 e4 e5
        cases hmn : mayN sn
        · have HF : Hid (mayNs l = false) := Lib.hid (by
            have : l.all (fun x => mayN x.1 && mayV x.2) = false := by
              rw [List.all_eq_false]; exact ⟨l[k], List.getElem_mem hlt, by rw [← HSN.out, hmn]; simp⟩
            simp [mayNs, this])
          go_wp2_with fail
          go_ret
          exact ⟨by rw [HF.out]; rfl, hB1.out⟩
        · have HMN := Lib.hid hmn
          go_wp2_with fail
          refine (vmay_any (B := B) (x := l[k].2) _ (IsVa.keep (fun b hb => hB1.out.block b (by omega)) HX1.out) (by have := hB1.out.size; omega)).mono ?_
          rintro e w2 ⟨rfl, hb2⟩
          have hB2 := Lib.hid (hB1.out.trans (hb2.mono hB1.out.size))
          have HD2 := Lib.hid (HD.out.below hb2)
          clear d0 d1 d2 d3 d4 d5
          have d0 := HD2.out.cell 0 rfl
          have HO2 := Lib.hid (own_below HO.out (bnext (bnext ((Below.refl wr.heap.size wr).alloc (Nat.le_refl _) (.cells #[.string sn, .int .u8 k', .int .i64 n', .string s', .slice A' len' cap', .int .i64 r'] 73)) HBW.out) hb2))
          cases hmv : mayV l[k].2
          · have HF : Hid (mayNs l = false) := Lib.hid (by
              have : l.all (fun x => mayN x.1 && mayV x.2) = false := by
                rw [List.all_eq_false]; exact ⟨l[k], List.getElem_mem hlt, by rw [hmv]; simp⟩
              simp [mayNs, this])
            go_wp2_with fail
            go_ret
            exact ⟨by rw [HF.out]; rfl, hB2.out⟩
          · have HMV := Lib.hid hmv
            clear hmv hmn hb2
            go_wp2_with (at_builtin; refine wpList_append_own _ rfl (.tmp 25) (.tmp 28) 56 rfl w.heap.size 9 i0 (.string ⟨#[]⟩) 1 16 Try.underlying56 HH.out hz0 hz1 hz2 rfl (by decide) _ _ _ rfl (HO2.out.alloc _) ⟨w2.heap.size, 0, Option.none⟩ 1 1 [.string sn] rfl rfl ?hc1 ?hc2 ?hc3 ?hc4 ?hc5 ?_)
            case hc1 => exact cell_one_new _ _ _
            case hc2 => intro u hu; simp at hu; subst hu; rfl
            case hc3 => unfold maxLen; omega
            case hc4 => omega
            case hc5 => have := hB2.out.size; simp; omega
            intro v' w3 hown' hgrow _
            have HW3 := Lib.hid hown'
            have HG3 := Lib.hid hgrow
            clear hown' hgrow
            go_wp2_with fail
            go_roundw
            case rel =>
              refine ⟨k + 1, by omega, by go_num, ?_, ?_, ?_⟩
              · rw [take_snoc_get l k hlt, List.all_append, HA.out]; simp only [List.all_cons, List.all_nil, Bool.and_true, Bool.true_and]; rw [← HSN.out, HMN.out, HMV.out]; rfl
              · rw [take_snoc_get (l.map fun x => Value.string x.1) k (by simpa using hlt), List.getElem_map, ← HSN.out]; exact HW3.out
              · exact ((hB2.out.alloc hB2.out.size _)).grown HG3.out (by have := hB2.out.size; simp; omega) (fun g hg => by
                  rcases HO2.out.2 with ⟨rfl, _⟩ | ⟨g', _, _, rfl, hb, _⟩
                  · cases hg
                  · simp [Value.ownBlock] at hg; omega)
            case measure => simp [intOf]; omega
      · obtain rfl : k = l.length := by omega
        have hall := HA.out
        rw [List.take_length] at hall
        have hown := HO.out
        rw [List.take_of_length_le (by simp), show (l.map fun x => Value.string x.1) = (l.map (·.1)).map Value.string from by rw [List.map_map]; rfl] at hown
        have hS := IsSs_of_own hown (by rw [List.length_map]; omega) (fun s hs => by
          obtain ⟨x, hx, rfl⟩ := List.mem_map.1 hs
          have := List.all_eq_true.1 hall x hx
          simp only [Bool.and_eq_true, mayN, decide_eq_true_eq] at this
          omega)
        have HSS := Lib.hid hS
        have HF : Hid (mayNs l = !twB (l.map (·.1))) := Lib.hid (by
          have : decide (l.length ≤ 64) = true := by simp; omega
          simp only [mayNs, hall, this, Bool.true_and])
        clear hall hown hS
        go_wp2_with fail
        refine (twice_any _ HSS.out (Nat.le_refl _)).mono ?_
        rintro e w1 ⟨rfl, hb1⟩
        have HB1 := Lib.hid (bnext HN.out hb1)
        clear hb1
        go_wp2
        go_ret
        exact ⟨ret_bool HF.out.symm, HB1.out⟩
end Go.Proofs.Ytnknefdpglnbnaa
