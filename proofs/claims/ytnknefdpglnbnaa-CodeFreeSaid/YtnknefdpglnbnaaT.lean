/- Lists of names: what it is for a slice to read as one; contracts of package code's Get, twice, MayNames. Slices of strings; the contract of package code's twice: does a list have something twice. -/
import Derived.Test.YtnknefdpglnbnaaW
import Derived.Maps.Own
import Derived.Maps.OwnOps
import Derived.Maps.Views
namespace Go.Proofs.Ytnknefdpglnbnaa
open Go.RowKit

abbrev Na := ByteArray × Va
def IsNasR (w : World) (R : Nat → Nat → Prop) (b o : Nat) : List Na → Prop
  | [] => True
  | (s, x) :: l => (s.size ≤ 140737488351232 ∧ ∃ c0 c1 c2 c3 c4, At w b o [.string s, c0, c1, c2, c3, c4] ∧ IsVaR w R (.agg #[c0, c1, c2, c3, c4]) x) ∧ IsNasR w R b (o + 6) l
/-- v is a slice that reads as these names. -/
def IsNsR (w : World) (R : Nat → Nat → Prop) (v : Value) (l : List Na) : Prop :=
  l.length * 80 ≤ 140737488351232 ∧ ∃ A cap, l.length ≤ cap ∧ v = .slice A l.length cap ∧ (l ≠ [] → ∃ b o, R b o ∧ A = some ⟨b, o, Option.none⟩ ∧ IsNasR w R b o l)
abbrev IsNs (w : World) (B : Nat) : Value → List Na → Prop := IsNsR w (fun b _ => b < B)
theorem IsNasR.keep {w w' : World} {R : Nat → Nat → Prop} (hk : ∀ b o, R b o → w'.heap[b]? = w.heap[b]?) {b : Nat} (hb : w'.heap[b]? = w.heap[b]?) : ∀ {o : Nat} {l : List Na}, IsNasR w R b o l → IsNasR w' R b o l
  | _, [], _ => by unfold IsNasR; trivial
  | _, (s, x) :: l, h => by
    unfold IsNasR at h ⊢
    obtain ⟨⟨h0, c0, c1, c2, c3, c4, h1, h2⟩, h3⟩ := h
    exact ⟨⟨h0, c0, c1, c2, c3, c4, fun j v hv => (World.cell?_of_block (w := w) hb).trans (h1 j v hv), IsVaR.keep hk h2⟩, IsNasR.keep hk hb h3⟩
theorem IsNsR.keep {w w' : World} {R : Nat → Nat → Prop} (hk : ∀ b o, R b o → w'.heap[b]? = w.heap[b]?) {v : Value} {l : List Na} (h : IsNsR w R v l) : IsNsR w' R v l := by
  obtain ⟨h1, A, cap, h2, h3, h4⟩ := h
  refine ⟨h1, A, cap, h2, h3, fun hl => ?_⟩
  obtain ⟨b, o, hb, hA, hx⟩ := h4 hl
  exact ⟨b, o, hb, hA, hx.keep hk (hk b o hb)⟩
theorem IsNs.keep {w w' : World} {B : Nat} (hk : ∀ b, b < B → w'.heap[b]? = w.heap[b]?) {v : Value} {l : List Na} (h : IsNs w B v l) : IsNs w' B v l := IsNsR.keep (fun b _ hb => hk b hb) h
theorem IsNasR.at2 {w : World} {R : Nat → Nat → Prop} {b : Nat} : ∀ {o : Nat} {l : List Na}, IsNasR w R b o l → ∀ (i : Nat) (hi : i < l.length),
    l[i].1.size ≤ 140737488351232 ∧ ∃ k n s A len cap r, At w b (o + i * 6) [.string l[i].1, .int .u8 k, .int .i64 n, .string s, .slice A len cap, .int .i64 r] ∧ IsVaR w R (.agg #[.int .u8 k, .int .i64 n, .string s, .slice A len cap, .int .i64 r]) l[i].2
  | o, (s, x) :: l, h, i, hi => by
    unfold IsNasR at h
    cases i with
    | zero =>
      obtain ⟨h0, c0, c1, c2, c3, c4, h1, h2⟩ := h.1
      obtain ⟨k, n, s, A, len, cap, r, rfl, rfl, rfl, rfl, rfl⟩ := h2.cells
      exact ⟨h0, k, n, s, A, len, cap, r, by simpa using h1, h2⟩
    | succ i =>
      obtain ⟨h0, k, n, s, A, len, cap, r, h1, h2⟩ := IsNasR.at2 h.2 i (by simpa using hi)
      exact ⟨h0, k, n, s, A, len, cap, r, by rw [show o + (i + 1) * 6 = o + 6 + i * 6 by omega]; exact h1, h2⟩
theorem At.six {w : World} {b o : Nat} {c0 c1 c2 c3 c4 c5 : Value} (h : At w b o [c0, c1, c2, c3, c4, c5]) :
    w.cell? ⟨b, o, Option.none⟩ = some c0 ∧ w.cell? ⟨b, o + 1, Option.none⟩ = some c1 ∧ w.cell? ⟨b, o + 2, Option.none⟩ = some c2 ∧ w.cell? ⟨b, o + 3, Option.none⟩ = some c3 ∧ w.cell? ⟨b, o + 4, Option.none⟩ = some c4 ∧ w.cell? ⟨b, o + 5, Option.none⟩ = some c5 :=
  ⟨h 0 _ rfl, h 1 _ rfl, h 2 _ rfl, h 3 _ rfl, h 4 _ rfl, h 5 _ rfl⟩
/-- A result of five cells, written. -/
theorem res5 {W : World} {rb : Nat} (hC : BlkN W rb 34 zeroV) (c0 c1 c2 c3 c4 : Value) :
    ∃ WF, ((((W.setCell ⟨rb, 0, Option.none⟩ c0).setCell ⟨rb, 1, Option.none⟩ c1).setCell ⟨rb, 2, Option.none⟩ c2).setCell ⟨rb, 3, Option.none⟩ c3).setCell ⟨rb, 4, Option.none⟩ c4 = WF ∧
      WF.cell? ⟨rb, 0, Option.none⟩ = some c0 ∧ WF.cell? ⟨rb, 1, Option.none⟩ = some c1 ∧ WF.cell? ⟨rb, 2, Option.none⟩ = some c2 ∧ WF.cell? ⟨rb, 3, Option.none⟩ = some c3 ∧ WF.cell? ⟨rb, 4, Option.none⟩ = some c4 ∧
      (∀ k, k ≠ rb → WF.heap[k]? = W.heap[k]?) ∧ (∀ (B : Nat) (a : World), B ≤ rb → Below B a W → Below B a WF) ∧ BlkN WF rb 34 #[c0, c1, c2, c3, c4] := by
  have HR : BlkN (set5 W rb 0 c0 c1 c2 c3 c4) rb 34 #[c0, c1, c2, c3, c4] := set5_blk (o := 0) hC _ _ _ _ _
  refine ⟨set5 W rb 0 c0 c1 c2 c3 c4, rfl, HR.cell 0 rfl, HR.cell 1 rfl, HR.cell 2 rfl, HR.cell 3 rfl, HR.cell 4 rfl, fun k hk => set5_other _ _ _ _ _ _ _ _ hk, fun B a hB h => ?_, HR⟩
  unfold set5
  exact ((((h.setCell hB _).setCell hB _).setCell hB _).setCell hB _).setCell hB _
theorem IsVaR.other {w w' : World} {lo rb : Nat} {v : Value} {x : Va} (h : IsVaR w (Own34 w lo) v x) (hk : ∀ k, k ≠ rb → w'.heap[k]? = w.heap[k]?) (hlo : rb < lo) : IsVaR w' (Own34 w' lo) v x := by
  have hk' : ∀ b o, Own34 w lo b o → w'.heap[b]? = w.heap[b]? := fun b o hr => hk b (by have := hr.1; omega)
  exact (h.keep hk').mono (fun b o hr => ⟨hr.1, hr.2.1, let ⟨cur, hc⟩ := hr.2.2; ⟨cur, (hk' b o hr).trans hc⟩⟩)
theorem IsVaR.low {w : World} {lo lo' : Nat} {v : Value} {x : Va} (h : IsVaR w (Own34 w lo) v x) (hl : lo' ≤ lo) : IsVaR w (Own34 w lo') v x := h.mono (fun _b _o hr => Own34.low hr hl)
/-- What a name stands for. -/
def getN : List Na → ByteArray → Option Va
  | [], _ => Option.none
  | (s, x) :: l, n => if s.toList == n.toList then some x else getN l n
def getX (l : List Na) (n : ByteArray) : Va := match getN l n with | Option.none => zeroVa | some x => ownX x
def getB (l : List Na) (n : ByteArray) : Bool := (getN l n).isSome
set_option maxRecDepth 100000 in
set_option maxHeartbeats 1000000 in
theorem Get_any {B : Nat} {v : Value} {l : List Na} (nm : ByteArray) (w : World) (h : IsNs w B v l) (hB : B ≤ w.heap.size) :
    Calls Try.prog 36 #[v, .string nm] w fun e w' => ∃ v', e = .returned (.tuple #[v', .bool (getB l nm)]) ∧ IsVaR w' (Own34 w' w.heap.size) v' (getX l nm) ∧ Below w.heap.size w w' := by
  obtain ⟨hlen, A, cap, hcap, rfl, h7⟩ := h
  have H7 := Lib.hid h7
  have hl : l.length ≤ 140737488351232 := by omega
  have HN1 : Hid (BlkN (w.alloc (.cells zeroV 34)) w.heap.size 34 zeroV) := Lib.hid (BlkN.at_ rfl _ _)
  have HB0 := Lib.hid ((Below.refl w.heap.size w).alloc (Nat.le_refl _) (.cells zeroV 34))
  clear h7
  go_enter Try.func36, Try.ntmps36
  go_wp2_with fail
  go_loopw [12] (fun i wr => ∃ k : Nat, k ≤ l.length ∧ i = .int .i64 k ∧ getN l nm = getN (l.drop k) nm ∧ Below w.heap.size w wr ∧ BlkN wr w.heap.size 34 zeroV) (fun i _ => l.length - (intOf i).toNat)
  case atStart => exact ⟨0, by omega, rfl, rfl, HB0.out, HN1.out⟩
  case round =>
    obtain ⟨j, hj, rfl, hg, hu, hb0⟩ := hrel
    have HU := Lib.hid hu
    have HC := Lib.hid hb0
    have HG := Lib.hid hg
    have hsz := hb0.lt
    clear hg hu hb0
    by_cases hlt : j < l.length
    · obtain ⟨b, o, hbB, hA, hx⟩ := H7.out (by rintro rfl; simp at hlt)
      subst hA
      obtain ⟨hs0, k', n', s', A', len', cap', r', hat, hx1⟩ := hx.at2 j hlt
      have hat' := hat.keep hbB (fun b hb => HU.out.block b (by omega))
      obtain ⟨e0, e1, e2, e3, e4, e5⟩ := hat'.six
      have HX1 := Lib.hid hx1
      have HDD := Lib.hid (List.drop_eq_getElem_cons hlt)
      clear hat hat' hx hx1
      obtain ⟨sn, hsn⟩ : ∃ sn, sn = l[j].1 := ⟨_, rfl⟩
      have HSN := Lib.hid hsn
      rw [← hsn] at e0 hs0
      clear hsn
      cases heq : (sn.toList == nm.toList)
      · have HEQ := Lib.hid heq
        have hB1 := Lib.hid (HU.out.alloc HU.out.size (.cells #[.string sn, .int .u8 k', .int .i64 n', .string s', .slice A' len' cap', .int .i64 r'] 73))
        go_wp2_with fail
        go_roundw
        case rel => exact ⟨j + 1, by omega, by go_num, by rw [HG.out, HDD.out]; show (if l[j].1.toList == nm.toList then _ else _) = _; rw [← HSN.out, HEQ.out]; rfl, hB1.out, HC.out.alloc _⟩
        case measure => simp [intOf]; omega
      · have HEQ : Hid (getN l nm = some l[j].2) := Lib.hid (by rw [HG.out, HDD.out]; show (if l[j].1.toList == nm.toList then _ else _) = _; rw [← HSN.out, heq]; rfl)
        have hB1 := Lib.hid (HU.out.alloc HU.out.size (.cells #[.string sn, .int .u8 k', .int .i64 n', .string s', .slice A' len' cap', .int .i64 r'] 73))
        have hsu := HU.out.size
        go_wp2_with fail
        refine (Own_any (B := B) (x := l[j].2) _ (IsVa.keep (fun b hb => hB1.out.block b (by omega)) HX1.out) (by simp; omega)).mono ?_
        rintro e w1 ⟨v', rfl, hv', hb1⟩
        obtain ⟨k2, n2, s2, A2, len2, cap2, r2, rfl⟩ := hv'.shape
        have HB2 := Lib.hid (hB1.out.trans (hb1.mono (by simp; omega)))
        have HD := Lib.hid ((HC.out.alloc (.cells #[.string sn, .int .u8 k', .int .i64 n', .string s', .slice A' len' cap', .int .i64 r'] 73)).below hb1)
        have HV := Lib.hid hv'
        have hsz1 := hb1.size
        simp only [World.size_alloc] at hsz1
        obtain ⟨l0, l1, l2, l3, l4⟩ := lts (show w.heap.size < w1.heap.size by omega)
        have d0 := HD.out.cell 0 rfl
        have d1 := HD.out.cell 1 rfl
        have d2 := HD.out.cell 2 rfl
        have d3 := HD.out.cell 3 rfl
        have d4 := HD.out.cell 4 rfl
        have x0 := HD.out.free 0
        have x1 := HD.out.free 1
        have x2 := HD.out.free 2
        have x3 := HD.out.free 3
        have x4 := HD.out.free 4
        clear hb1 hv' e0 e1 e2 e3 e4 e5
        go_wp2_with fail
        obtain ⟨WF, hWF, _, _, _, _, _, hk, hbel, hR⟩ := res5 HD.out (.int .u8 k2) (.int .i64 n2) (.string s2) (.slice A2 len2 cap2) (.int .i64 r2)
        rw [hWF]
        have hR' := hR.alloc (.cells #[.int .u8 k2, .int .i64 n2, .string s2, .slice A2 len2 cap2, .int .i64 r2] 34)
        have y0 := hR'.cell 0 rfl
        have y1 := hR'.cell 1 rfl
        have y2 := hR'.cell 2 rfl
        have y3 := hR'.cell 3 rfl
        have y4 := hR'.cell 4 rfl
        have hbw := hbel _ _ (Nat.le_refl _) HB2.out
        refine bodyPost_ret (v := .tuple #[.agg #[.int .u8 k2, .int .i64 n2, .string s2, .slice A2 len2 cap2, .int .i64 r2], .bool true]) (by simp [results, Try.results36, go_sem, y0, y1, y2, y3, y4]) rfl ⟨_, by unfold getB; rw [HEQ.out]; rfl, ?_, hbw.alloc hbw.size _⟩
        unfold getX
        rw [HEQ.out]
        exact ((HV.out.other hk (by simp; omega)).below ((Below.refl _ _).alloc (Nat.le_refl _) _)).low (by simp; omega)
    · obtain rfl : j = l.length := by omega
      have d0 := HC.out.cell 0 rfl
      have d1 := HC.out.cell 1 rfl
      have d2 := HC.out.cell 2 rfl
      have d3 := HC.out.cell 3 rfl
      have d4 := HC.out.cell 4 rfl
      have x0 := HC.out.free 0
      have x1 := HC.out.free 1
      have x2 := HC.out.free 2
      have x3 := HC.out.free 3
      have x4 := HC.out.free 4
      have HNN : Hid (getN l nm = Option.none) := Lib.hid (by rw [HG.out, List.drop_length]; rfl)
      go_wp2_with fail
      obtain ⟨WF, hWF, y0, y1, y2, y3, y4, hk, hbel, _⟩ := res5 HC.out (.int .u8 0) (.int .i64 0) (.string ⟨#[]⟩) (.slice Option.none 0 0) (.int .i64 0)
      rw [hWF]
      refine bodyPost_ret (v := .tuple #[.agg #[.int .u8 0, .int .i64 0, .string ⟨#[]⟩, .slice Option.none 0 0, .int .i64 0], .bool false]) (by simp [results, Try.results36, go_sem, y0, y1, y2, y3, y4]) rfl ⟨_, by unfold getB; rw [HNN.out]; rfl, ?_, hbel _ _ (Nat.le_refl _) HU.out⟩
      unfold getX
      rw [HNN.out]
      exact IsVaR.zero _ _
end Go.Proofs.Ytnknefdpglnbnaa
namespace Go.Proofs.Ytnknefdpglnbnaa
open Go.RowKit Go.WideMaps Go.Maps

def IsSsR (w : World) (R : Nat → Nat → Prop) (v : Value) (l : List ByteArray) : Prop :=
  l.length * 16 ≤ 140737488351232 ∧ (∀ s ∈ l, s.size ≤ 140737488351232) ∧ ∃ A cap, l.length ≤ cap ∧ v = .slice A l.length cap ∧ (l ≠ [] → ∃ b o, R b o ∧ A = some ⟨b, o, Option.none⟩ ∧ ∀ (i : Nat) (hi : i < l.length), w.cell? ⟨b, o + i, Option.none⟩ = some (.string l[i]))
abbrev IsSs (w : World) (B : Nat) : Value → List ByteArray → Prop := IsSsR w (fun b _ => b < B)
theorem IsSsR.keep {w w' : World} {R : Nat → Nat → Prop} (hk : ∀ b o, R b o → w'.heap[b]? = w.heap[b]?) {v : Value} {l : List ByteArray} (h : IsSsR w R v l) : IsSsR w' R v l := by
  obtain ⟨h1, h2, A, cap, h3, h4, h5⟩ := h
  refine ⟨h1, h2, A, cap, h3, h4, fun hl => ?_⟩
  obtain ⟨b, o, hb, hA, hx⟩ := h5 hl
  exact ⟨b, o, hb, hA, fun i hi => (World.cell?_of_block (w := w) (hk b o hb)).trans (hx i hi)⟩
theorem lawS : Keyed Try.prog 9 := string_keyed Try.underlying9
theorem zero3 (w : World) : (zeroValue 3).run Try.prog w = .ok (.int .i64 0) w := by kernel_rfl
def keyS (s : ByteArray) : Lit := .string s.data.toList
/-- The datum counts the texts of a list, each once at most. -/
def CountsD (D : DataW Unit) (l : List ByteArray) : Prop := IsMap D ∧ ∀ s : ByteArray, D.atKey (keyS s) (.lit (.int .i64 0)) = .lit (.int .i64 (if s.data.toList ∈ l.map (·.data.toList) then 1 else 0))
def uniq (l : List ByteArray) : Prop := (l.map (·.data.toList)).Nodup
instance (l : List ByteArray) : Decidable (uniq l) := by unfold uniq; infer_instance
def twB (l : List ByteArray) : Bool := !decide (uniq l)
theorem CountsD.nil : CountsD (.map []) [] := ⟨⟨_, rfl⟩, fun s => by simp; rfl⟩
theorem CountsD.step {D : DataW Unit} {l : List ByteArray} {s : ByteArray} (h : CountsD D l) (_hs : s.data.toList ∉ l.map (·.data.toList)) : CountsD (D.put (keyS s) (.lit (.int .i64 1))) (l ++ [s]) := by
  obtain ⟨h1, h2⟩ := h
  refine ⟨h1.put _ _, fun t => ?_⟩
  by_cases e : t.data.toList = s.data.toList
  · have ek : keyS t = keyS s := by simp [keyS, e]
    rw [ek, atKey_put_same h1 (by simp [keyS, WideAt.IsKeyLit])]
    simp [e]
  · rw [atKey_put_other (by simp [keyS, e]), h2 t]
    simp [e]
theorem uniq_take_no {l : List ByteArray} {k : Nat} (h : k < l.length) (hm : (l[k]).data.toList ∈ (l.take k).map (·.data.toList)) : ¬ uniq l := by
  intro hu
  unfold uniq at hu
  have e : l.map (·.data.toList) = (l.take k).map (·.data.toList) ++ (l.drop k).map (·.data.toList) := by rw [← List.map_append, List.take_append_drop]
  rw [e, List.nodup_append] at hu
  refine hu.2.2 _ hm _ ?_ rfl
  rw [List.drop_eq_getElem_cons h, List.map_cons]
  exact List.mem_cons_self
theorem uniq_take_succ {l : List ByteArray} {k : Nat} (h : k < l.length) (hu : uniq (l.take k)) (hm : (l[k]).data.toList ∉ (l.take k).map (·.data.toList)) : uniq (l.take (k + 1)) := by
  unfold uniq at *
  rw [take_snoc_get l k h, List.map_append, List.nodup_append]
  refine ⟨hu, by simp, fun a ha b hb => ?_⟩
  simp only [List.map_cons, List.map_nil, List.mem_singleton] at hb
  subst hb
  rintro rfl
  exact hm ha
set_option maxRecDepth 100000 in
set_option maxHeartbeats 1000000 in
theorem twice_any {B : Nat} {v : Value} {l : List ByteArray} (w : World) (h : IsSs w B v l) (hB : B ≤ w.heap.size) :
    Calls Try.prog 86 #[v] w fun e w' => e = .returned (.bool (twB l)) ∧ Below w.heap.size w w' := by
  obtain ⟨hlen, hsz, A, cap, hcap, rfl, h7⟩ := h
  have H7 := Lib.hid h7
  have HS := Lib.hid hsz
  have hl : l.length ≤ 140737488351232 := by omega
  have hmm := @run_makeMap Try.prog
  clear h7 hsz
  go_enter Try.func86, Try.ntmps86
  go_wp2_with fail
  go_loopw [9] (fun i wr => ∃ k : Nat, k ≤ l.length ∧ i = .int .i64 k ∧ uniq (l.take k) ∧ (∃ D : DataW Unit, wr.ownsMap Try.prog 9 (plainElem Try.prog 3) w.heap.size k D ∧ CountsD D (l.take k)) ∧ Below w.heap.size w wr)
    (fun i _ => l.length - (intOf i).toNat)
  case atStart => exact ⟨0, Nat.zero_le _, rfl, by simp [uniq], ⟨_, World.ownsMap_made _ _ _ _, by simpa using CountsD.nil⟩, (Below.refl _ _).alloc (Nat.le_refl _) _⟩
  case round =>
    obtain ⟨k, hk, rfl, hu, ⟨D, hown, hD⟩, hnx⟩ := hrel
    have HU := Lib.hid hu
    have HD := Lib.hid hD
    have HO := Lib.hid hown
    have HN := Lib.hid hnx
    clear hu hD hown hnx hmm
    by_cases hlt : k < l.length
    · obtain ⟨b, o, hbB, hA, hx⟩ := H7.out (by rintro rfl; simp at hlt)
      subst hA
      have hcell : wr.cell? ⟨b, o + k, Option.none⟩ = some (.string l[k]) := (HN.out.cell (by show b < _; omega)).trans (hx k hlt)
      have hss : l[k].size ≤ maxLen := by have := HS.out l[k] (List.getElem_mem hlt); unfold maxLen; omega
      obtain ⟨sk, hsk⟩ : ∃ sk, sk = l[k] := ⟨_, rfl⟩
      rw [← hsk] at hcell hss
      have hkey : keyOf Try.prog 9 (.string sk) = some (keyS sk) := keyOf_string_mk Try.underlying9 hss
      have HK := Lib.hid hsk
      clear hsk hx hss
      have hD2 := Lib.hid (HD.out.2 sk)
      by_cases hm : sk.data.toList ∈ (l.take k).map (·.data.toList)
      · have hat0 : Hid (D.atKey (keyS sk) (.lit (.int .i64 0)) = .lit (.int .i64 1)) := Lib.hid (by rw [hD2.out, if_pos hm])
        have HF : Hid (twB l = true) := Lib.hid (by simp only [twB, Bool.not_eq_true', decide_eq_false_iff_not]; exact uniq_take_no hlt (by rw [← HK.out]; exact hm))
        clear hm
        have HKK := Lib.hid hkey
        clear hkey
        go_wp2_with (first
          | (at_lookup; refine wpList_lookup_own_int _ rfl (.tmp 13) (.tmp 14) 119 rfl 9 3 .i64 lawS Try.underlying119 Try.underlying3 (zero3 _) w.heap.size k D rfl HO.out _ _ rfl HKK.out ?_; intro c hat hwc; rw [hat0.out] at hat; obtain rfl : c = 1 := (by injection hat with h1; injection h1 with h2 h3; exact h3.symm); clear hat hwc)
          | (at_mapUpdate; refine wpList_mapUpdate_own _ rfl (.tmp 13) (.tmp 14) (.tmp 16) 119 rfl 9 3 lawS Try.underlying119 _ w.heap.size k D rfl HO.out (by unfold maxLen; omega) _ _ _ rfl rfl HKK.out _ [] (plainElem_int Try.underlying3 (by decide)) ?_; intro w1 hown1 hgrow1; have HO1 := Lib.hid hown1; have HG1 := Lib.hid hgrow1; clear hown1 hgrow1)
          | (at_lookup; refine wpList_lookup_own_int _ rfl (.tmp 17) (.tmp 18) 119 rfl 9 3 .i64 lawS Try.underlying119 Try.underlying3 (zero3 _) w.heap.size (k + 1) _ rfl HO1.out _ _ rfl HKK.out ?_; intro c hat hwc; rw [atKey_put_same HD.out.1 (by simp [keyS, WideAt.IsKeyLit])] at hat; obtain rfl : c = 2 := (by injection hat with h1; injection h1 with h2 h3; exact h3.symm); clear hat hwc))
        go_ret
        exact ⟨by rw [HF.out]; rfl, HN.out.grown HG1.out HN.out.size (fun j hj => by cases hj; exact Nat.le_refl _)⟩
      · have hat0 : Hid (D.atKey (keyS sk) (.lit (.int .i64 0)) = .lit (.int .i64 0)) := Lib.hid (by rw [hD2.out, if_neg hm])
        have HM := Lib.hid hm
        clear hm
        have HKK := Lib.hid hkey
        clear hkey
        go_wp2_with (first
          | (at_lookup; refine wpList_lookup_own_int _ rfl (.tmp 13) (.tmp 14) 119 rfl 9 3 .i64 lawS Try.underlying119 Try.underlying3 (zero3 _) w.heap.size k D rfl HO.out _ _ rfl HKK.out ?_; intro c hat hwc; rw [hat0.out] at hat; obtain rfl : c = 0 := (by injection hat with h1; injection h1 with h2 h3; exact h3.symm); clear hat hwc)
          | (at_mapUpdate; refine wpList_mapUpdate_own _ rfl (.tmp 13) (.tmp 14) (.tmp 16) 119 rfl 9 3 lawS Try.underlying119 _ w.heap.size k D rfl HO.out (by unfold maxLen; omega) _ _ _ rfl rfl HKK.out _ [] (plainElem_int Try.underlying3 (by decide)) ?_; intro w1 hown1 hgrow1; have HO1 := Lib.hid hown1; have HG1 := Lib.hid hgrow1; clear hown1 hgrow1)
          | (at_lookup; refine wpList_lookup_own_int _ rfl (.tmp 17) (.tmp 18) 119 rfl 9 3 .i64 lawS Try.underlying119 Try.underlying3 (zero3 _) w.heap.size (k + 1) _ rfl HO1.out _ _ rfl HKK.out ?_; intro c hat hwc; rw [atKey_put_same HD.out.1 (by simp [keyS, WideAt.IsKeyLit])] at hat; obtain rfl : c = 1 := (by injection hat with h1; injection h1 with h2 h3; exact h3.symm); clear hat hwc))
        go_roundw
        case rel => exact ⟨k + 1, by omega, by go_num, uniq_take_succ hlt HU.out (by rw [← HK.out]; exact HM.out), ⟨_, HO1.out, by rw [take_snoc_get l k hlt, ← HK.out]; exact HD.out.step HM.out⟩, HN.out.grown HG1.out HN.out.size (fun j hj => by cases hj; exact Nat.le_refl _)⟩
        case measure => simp [intOf]; omega
    · obtain rfl : k = l.length := by omega
      have HF : Hid (uniq l) := Lib.hid (by have := HU.out; rwa [List.take_length] at this)
      go_wp2
      go_ret
      exact ⟨ret_bool (by simp [twB, HF.out]), HN.out⟩
theorem bnext {a b c : World} (h : Below a.heap.size a b) (k : Below b.heap.size b c) : Below a.heap.size a c := h.trans (k.mono h.size)
theorem grown_of_below {a w : World} (h : Below a.heap.size a w) (row : Option Nat) : a.grownBy w row := ⟨h.os, h.tape, h.output, h.size, fun i hi _ => h.block i hi⟩
theorem own_below {w w' : World} {base : Nat} {e : TypeId} {size : Nat} {v : Value} {n : Nat} {xs : List Value} (h : w.ownsRow base e size v n xs) (hb : Below w.heap.size w w') : w'.ownsRow base e size v n xs :=
  h.kept (grown_of_below hb Option.none) (by cases v.ownBlock <;> simp)
theorem IsSs_of_own {w : World} {base : Nat} {v : Value} {n : Nat} {ss : List ByteArray} (h : w.ownsRow base 9 1 v n (ss.map Value.string)) (hl : ss.length * 16 ≤ 140737488351232) (hs : ∀ s ∈ ss, s.size ≤ 140737488351232) : IsSs w w.heap.size v ss := by
  have hn : ss.length = n := by have := h.1; simpa using this
  refine ⟨hl, hs, ?_⟩
  rcases h.2 with ⟨rfl, h0⟩ | ⟨g, cap, cur, rfl, hb, hg, hc, _, hcs, htake⟩
  · refine ⟨Option.none, 0, by omega, by rw [hn, h0], fun hne => absurd (List.length_eq_zero_iff.1 (by omega)) hne⟩
  · refine ⟨some ⟨g, 0, Option.none⟩, cap, by omega, by rw [hn], fun _ => ⟨g, 0, lt_of_block hg, rfl, fun i hi => ?_⟩⟩
    have := h.cellAt i (by omega)
    simp only [Nat.zero_add]
    rw [this, List.getElem?_map, List.getElem?_eq_getElem hi]
    rfl
def mayNs (l : List Na) : Bool := decide (l.length ≤ 64) && l.all (fun x => mayN x.1 && mayV x.2) && !twB (l.map (·.1))
theorem info9 : (Try.prog.info? 9).map (fun i => (i.zero, i.size, i.bytes)) = some (some (.string ⟨#[]⟩), 1, 16) := by kernel_rfl
set_option maxRecDepth 100000 in
set_option maxHeartbeats 1000000 in
theorem MayNames_any {B : Nat} {v : Value} {l : List Na} (w : World) (h : IsNs w B v l) (hB : B ≤ w.heap.size) :
    Calls Try.prog 40 #[v] w fun e w' => e = .returned (.bool (mayNs l)) ∧ Below w.heap.size w w' := by
  obtain ⟨hlen, A, cap, hcap, rfl, h7⟩ := h
  have H7 := Lib.hid h7
  have hl : l.length ≤ 140737488351232 := by omega
  clear h7
  obtain ⟨i0, hi, hz0, hz1, hz2⟩ := info_parts info9
  by_cases hbig : 64 < l.length
  · have HF : Hid (mayNs l = false) := Lib.hid (by simp [mayNs]; omega)
    have hbig' : (64 : Int) < l.length := by omega
    go_enter Try.func40, Try.ntmps40
    go_wp2_with fail
    go_ret
    exact ⟨by rw [HF.out]; rfl, Below.refl _ _⟩
  · have hsm : (l.length : Int) ≤ 64 := by omega
    have hb64 : decide ((64 : Int) < l.length) = false := by simp; omega
    have HH := Lib.hid hi
    clear hi
    go_enter Try.func40, Try.ntmps40
    go_wp2_with fail
    go_loopw [3, 11] (fun v i wr => ∃ k : Nat, k ≤ l.length ∧ i = .int .i64 k ∧ (l.take k).all (fun x => mayN x.1 && mayV x.2) = true ∧ wr.ownsRow w.heap.size 9 1 v k ((l.map fun x => Value.string x.1).take k) ∧ Below w.heap.size w wr) (fun _ i _ => l.length - (intOf i).toNat)
    case atStart => exact ⟨0, by omega, rfl, rfl, World.ownsRow_nil _ _ _ _, Below.refl _ _⟩
    case round =>
      obtain ⟨k, hk, rfl, hall, hown, hnx⟩ := hrel
      have HA := Lib.hid hall
      have HO := Lib.hid hown
      have HN := Lib.hid hnx
      clear hall hown hnx
      by_cases hlt : k < l.length
      · obtain ⟨b, o, hbB, hA, hx⟩ := H7.out (by rintro rfl; simp at hlt)
        subst hA
        obtain ⟨hs0, k', n', s', A', len', cap', r', hat, hx1⟩ := hx.at2 k hlt
        have hat' := hat.keep hbB (fun b hb => HN.out.block b (by omega))
        obtain ⟨e0, e1, e2, e3, e4, e5⟩ := hat'.six
        have HX1 := Lib.hid hx1
        clear hat hat' hx hx1
        obtain ⟨sn, hsn⟩ : ∃ sn, sn = l[k].1 := ⟨_, rfl⟩
        have HSN := Lib.hid hsn
        rw [← hsn] at e0 hs0
        clear hsn
        go_wp2_with fail
        refine (mayName_any sn _).mono ?_
        rintro e w1 ⟨rfl, hb1⟩
        have hB1 := Lib.hid ((HN.out.alloc HN.out.size (.cells #[.string sn, .int .u8 k', .int .i64 n', .string s', .slice A' len' cap', .int .i64 r'] 73)).trans (hb1.mono (by have := HN.out.size; simp; omega)))
        have HD := Lib.hid ((BlkN.at_ (w := wr) rfl 73 #[.string sn, .int .u8 k', .int .i64 n', .string s', .slice A' len' cap', .int .i64 r']).below hb1)
        have d0 := HD.out.cell 0 rfl
        have d1 := HD.out.cell 1 rfl
        have d2 := HD.out.cell 2 rfl
        have d3 := HD.out.cell 3 rfl
        have d4 := HD.out.cell 4 rfl
        have d5 := HD.out.cell 5 rfl
        have HBW := Lib.hid hb1
        clear hb1 e0 e1 e2 e3 e4 e5
        cases hmn : mayN sn
        · have HF : Hid (mayNs l = false) := Lib.hid (by
            have : l.all (fun x => mayN x.1 && mayV x.2) = false := by
              rw [List.all_eq_false]; exact ⟨l[k], List.getElem_mem hlt, by rw [← HSN.out, hmn]; simp⟩
            simp [mayNs, this])
          go_wp2_with fail
          go_ret
          exact ⟨by rw [HF.out]; rfl, hB1.out⟩
        · have HMN := Lib.hid hmn
          go_wp2_with fail
          refine (vmay_any (B := B) (x := l[k].2) _ (IsVa.keep (fun b hb => hB1.out.block b (by omega)) HX1.out) (by have := hB1.out.size; omega)).mono ?_
          rintro e w2 ⟨rfl, hb2⟩
          have hB2 := Lib.hid (hB1.out.trans (hb2.mono hB1.out.size))
          have HD2 := Lib.hid (HD.out.below hb2)
          clear d0 d1 d2 d3 d4 d5
          have d0 := HD2.out.cell 0 rfl
          have HO2 := Lib.hid (own_below HO.out (bnext (bnext ((Below.refl wr.heap.size wr).alloc (Nat.le_refl _) (.cells #[.string sn, .int .u8 k', .int .i64 n', .string s', .slice A' len' cap', .int .i64 r'] 73)) HBW.out) hb2))
          cases hmv : mayV l[k].2
          · have HF : Hid (mayNs l = false) := Lib.hid (by
              have : l.all (fun x => mayN x.1 && mayV x.2) = false := by
                rw [List.all_eq_false]; exact ⟨l[k], List.getElem_mem hlt, by rw [hmv]; simp⟩
              simp [mayNs, this])
            go_wp2_with fail
            go_ret
            exact ⟨by rw [HF.out]; rfl, hB2.out⟩
          · have HMV := Lib.hid hmv
            clear hmv hmn hb2
            go_wp2_with (at_builtin; refine wpList_append_own _ rfl (.tmp 25) (.tmp 28) 56 rfl w.heap.size 9 i0 (.string ⟨#[]⟩) 1 16 Try.underlying56 HH.out hz0 hz1 hz2 rfl (by decide) _ _ _ rfl (HO2.out.alloc _) ⟨w2.heap.size, 0, Option.none⟩ 1 1 [.string sn] rfl rfl ?hc1 ?hc2 ?hc3 ?hc4 ?hc5 ?_)
            case hc1 => exact cell_one_new _ _ _
            case hc2 => intro u hu; simp at hu; subst hu; rfl
            case hc3 => unfold maxLen; omega
            case hc4 => omega
            case hc5 => have := hB2.out.size; simp; omega
            intro v' w3 hown' hgrow _
            have HW3 := Lib.hid hown'
            have HG3 := Lib.hid hgrow
            clear hown' hgrow
            go_wp2_with fail
            go_roundw
            case rel =>
              refine ⟨k + 1, by omega, by go_num, ?_, ?_, ?_⟩
              · rw [take_snoc_get l k hlt, List.all_append, HA.out]; simp only [List.all_cons, List.all_nil, Bool.and_true, Bool.true_and]; rw [← HSN.out, HMN.out, HMV.out]; rfl
              · rw [take_snoc_get (l.map fun x => Value.string x.1) k (by simpa using hlt), List.getElem_map, ← HSN.out]; exact HW3.out
              · exact ((hB2.out.alloc hB2.out.size _)).grown HG3.out (by have := hB2.out.size; simp; omega) (fun g hg => by
                  rcases HO2.out.2 with ⟨rfl, _⟩ | ⟨g', _, _, rfl, hb, _⟩
                  · cases hg
                  · simp [Value.ownBlock] at hg; omega)
            case measure => simp [intOf]; omega
      · obtain rfl : k = l.length := by omega
        have hall := HA.out
        rw [List.take_length] at hall
        have hown := HO.out
        rw [List.take_of_length_le (by simp), show (l.map fun x => Value.string x.1) = (l.map (·.1)).map Value.string from by rw [List.map_map]; rfl] at hown
        have hS := IsSs_of_own hown (by rw [List.length_map]; omega) (fun s hs => by
          obtain ⟨x, hx, rfl⟩ := List.mem_map.1 hs
          have := List.all_eq_true.1 hall x hx
          simp only [Bool.and_eq_true, mayN, decide_eq_true_eq] at this
          omega)
        have HSS := Lib.hid hS
        have HF : Hid (mayNs l = !twB (l.map (·.1))) := Lib.hid (by
          have : decide (l.length ≤ 64) = true := by simp; omega
          simp only [mayNs, hall, this, Bool.true_and])
        clear hall hown hS
        go_wp2_with fail
        refine (twice_any _ HSS.out (Nat.le_refl _)).mono ?_
        rintro e w1 ⟨rfl, hb1⟩
        have HB1 := Lib.hid (bnext HN.out hb1)
        clear hb1
        go_wp2
        go_ret
        exact ⟨ret_bool HF.out.symm, HB1.out⟩
end Go.Proofs.Ytnknefdpglnbnaa
