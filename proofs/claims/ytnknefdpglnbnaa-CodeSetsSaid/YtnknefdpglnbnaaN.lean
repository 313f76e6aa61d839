/- Lists of names: what it is for a slice to read as one; contracts of package code's Get, twice, MayNames. -/
import Derived.Test.YtnknefdpglnbnaaW
namespace Go.Proofs.Ytnknefdpglnbnaa
open Go.RowKit

abbrev Na := ByteArray × Va
def IsNasR (w : World) (R : Nat → Nat → Prop) (b o : Nat) : List Na → Prop
  | [] => True
  | (s, x) :: l => (s.size ≤ 140737488351232 ∧ ∃ c0 c1 c2 c3 c4, At w b o [.string s, c0, c1, c2, c3, c4] ∧ IsVaR w R (.agg #[c0, c1, c2, c3, c4]) x) ∧ IsNasR w R b (o + 6) l
/-- v is a slice that reads as these names. -/
def IsNsR (w : World) (R : Nat → Nat → Prop) (v : Value) (l : List Na) : Prop :=
  l.length * 80 ≤ 140737488351232 ∧ ∃ A cap, l.length ≤ cap ∧ v = .slice A l.length cap ∧ (l ≠ [] → ∃ b o, R b o ∧ A = some ⟨b, o, Option.none⟩ ∧ IsNasR w R b o l)
abbrev IsNs (w : World) (B : Nat) : Value → List Na → Prop := IsNsR w (fun b _ => b < B)
theorem IsNasR.keep {w w' : World} {R : Nat → Nat → Prop} (hk : ∀ b o, R b o → w'.heap[b]? = w.heap[b]?) {b : Nat} (hb : w'.heap[b]? = w.heap[b]?) : ∀ {o : Nat} {l : List Na}, IsNasR w R b o l → IsNasR w' R b o l
  | _, [], _ => by unfold IsNasR; trivial
  | _, (s, x) :: l, h => by
    unfold IsNasR at h ⊢
    obtain ⟨⟨h0, c0, c1, c2, c3, c4, h1, h2⟩, h3⟩ := h
    exact ⟨⟨h0, c0, c1, c2, c3, c4, fun j v hv => (World.cell?_of_block (w := w) hb).trans (h1 j v hv), IsVaR.keep hk h2⟩, IsNasR.keep hk hb h3⟩
theorem IsNsR.keep {w w' : World} {R : Nat → Nat → Prop} (hk : ∀ b o, R b o → w'.heap[b]? = w.heap[b]?) {v : Value} {l : List Na} (h : IsNsR w R v l) : IsNsR w' R v l := by
  obtain ⟨h1, A, cap, h2, h3, h4⟩ := h
  refine ⟨h1, A, cap, h2, h3, fun hl => ?_⟩
  obtain ⟨b, o, hb, hA, hx⟩ := h4 hl
  exact ⟨b, o, hb, hA, hx.keep hk (hk b o hb)⟩
theorem IsNs.keep {w w' : World} {B : Nat} (hk : ∀ b, b < B → w'.heap[b]? = w.heap[b]?) {v : Value} {l : List Na} (h : IsNs w B v l) : IsNs w' B v l := IsNsR.keep (fun b _ hb => hk b hb) h
theorem IsNasR.at2 {w : World} {R : Nat → Nat → Prop} {b : Nat} : ∀ {o : Nat} {l : List Na}, IsNasR w R b o l → ∀ (i : Nat) (hi : i < l.length),
    l[i].1.size ≤ 140737488351232 ∧ ∃ k n s A len cap r, At w b (o + i * 6) [.string l[i].1, .int .u8 k, .int .i64 n, .string s, .slice A len cap, .int .i64 r] ∧ IsVaR w R (.agg #[.int .u8 k, .int .i64 n, .string s, .slice A len cap, .int .i64 r]) l[i].2
  | o, (s, x) :: l, h, i, hi => by
    unfold IsNasR at h
    cases i with
    | zero =>
      obtain ⟨h0, c0, c1, c2, c3, c4, h1, h2⟩ := h.1
      obtain ⟨k, n, s, A, len, cap, r, rfl, rfl, rfl, rfl, rfl⟩ := h2.cells
      exact ⟨h0, k, n, s, A, len, cap, r, by simpa using h1, h2⟩
    | succ i =>
      obtain ⟨h0, k, n, s, A, len, cap, r, h1, h2⟩ := IsNasR.at2 h.2 i (by simpa using hi)
      exact ⟨h0, k, n, s, A, len, cap, r, by rw [show o + (i + 1) * 6 = o + 6 + i * 6 by omega]; exact h1, h2⟩
theorem At.six {w : World} {b o : Nat} {c0 c1 c2 c3 c4 c5 : Value} (h : At w b o [c0, c1, c2, c3, c4, c5]) :
    w.cell? ⟨b, o, Option.none⟩ = some c0 ∧ w.cell? ⟨b, o + 1, Option.none⟩ = some c1 ∧ w.cell? ⟨b, o + 2, Option.none⟩ = some c2 ∧ w.cell? ⟨b, o + 3, Option.none⟩ = some c3 ∧ w.cell? ⟨b, o + 4, Option.none⟩ = some c4 ∧ w.cell? ⟨b, o + 5, Option.none⟩ = some c5 :=
  ⟨h 0 _ rfl, h 1 _ rfl, h 2 _ rfl, h 3 _ rfl, h 4 _ rfl, h 5 _ rfl⟩
/-- A result of five cells, written. -/
theorem res5 {W : World} {rb : Nat} (hC : BlkN W rb 34 zeroV) (c0 c1 c2 c3 c4 : Value) :
    ∃ WF, ((((W.setCell ⟨rb, 0, Option.none⟩ c0).setCell ⟨rb, 1, Option.none⟩ c1).setCell ⟨rb, 2, Option.none⟩ c2).setCell ⟨rb, 3, Option.none⟩ c3).setCell ⟨rb, 4, Option.none⟩ c4 = WF ∧
      WF.cell? ⟨rb, 0, Option.none⟩ = some c0 ∧ WF.cell? ⟨rb, 1, Option.none⟩ = some c1 ∧ WF.cell? ⟨rb, 2, Option.none⟩ = some c2 ∧ WF.cell? ⟨rb, 3, Option.none⟩ = some c3 ∧ WF.cell? ⟨rb, 4, Option.none⟩ = some c4 ∧
      (∀ k, k ≠ rb → WF.heap[k]? = W.heap[k]?) ∧ (∀ (B : Nat) (a : World), B ≤ rb → Below B a W → Below B a WF) ∧ BlkN WF rb 34 #[c0, c1, c2, c3, c4] := by
  have HR : BlkN (set5 W rb 0 c0 c1 c2 c3 c4) rb 34 #[c0, c1, c2, c3, c4] := set5_blk (o := 0) hC _ _ _ _ _
  refine ⟨set5 W rb 0 c0 c1 c2 c3 c4, rfl, HR.cell 0 rfl, HR.cell 1 rfl, HR.cell 2 rfl, HR.cell 3 rfl, HR.cell 4 rfl, fun k hk => set5_other _ _ _ _ _ _ _ _ hk, fun B a hB h => ?_, HR⟩
  unfold set5
  exact ((((h.setCell hB _).setCell hB _).setCell hB _).setCell hB _).setCell hB _
theorem IsVaR.other {w w' : World} {lo rb : Nat} {v : Value} {x : Va} (h : IsVaR w (Own34 w lo) v x) (hk : ∀ k, k ≠ rb → w'.heap[k]? = w.heap[k]?) (hlo : rb < lo) : IsVaR w' (Own34 w' lo) v x := by
  have hk' : ∀ b o, Own34 w lo b o → w'.heap[b]? = w.heap[b]? := fun b o hr => hk b (by have := hr.1; omega)
  exact (h.keep hk').mono (fun b o hr => ⟨hr.1, hr.2.1, let ⟨cur, hc⟩ := hr.2.2; ⟨cur, (hk' b o hr).trans hc⟩⟩)
theorem IsVaR.low {w : World} {lo lo' : Nat} {v : Value} {x : Va} (h : IsVaR w (Own34 w lo) v x) (hl : lo' ≤ lo) : IsVaR w (Own34 w lo') v x := h.mono (fun _b _o hr => Own34.low hr hl)
/-- What a name stands for. -/
def getN : List Na → ByteArray → Option Va
  | [], _ => Option.none
  | (s, x) :: l, n => if s.toList == n.toList then some x else getN l n
def getX (l : List Na) (n : ByteArray) : Va := match getN l n with | Option.none => zeroVa | some x => ownX x
def getB (l : List Na) (n : ByteArray) : Bool := (getN l n).isSome
set_option maxRecDepth 100000 in
set_option maxHeartbeats 1000000 in
theorem Get_any {B : Nat} {v : Value} {l : List Na} (nm : ByteArray) (w : World) (h : IsNs w B v l) (hB : B ≤ w.heap.size) :
    Calls Try.prog 36 #[v, .string nm] w fun e w' => ∃ v', e = .returned (.tuple #[v', .bool (getB l nm)]) ∧ IsVaR w' (Own34 w' w.heap.size) v' (getX l nm) ∧ Below w.heap.size w w' := by
  obtain ⟨hlen, A, cap, hcap, rfl, h7⟩ := h
  have H7 := Lib.hid h7
  have hl : l.length ≤ 140737488351232 := by omega
  have HN1 : Hid (BlkN (w.alloc (.cells zeroV 34)) w.heap.size 34 zeroV) := Lib.hid (BlkN.at_ rfl _ _)
  have HB0 := Lib.hid ((Below.refl w.heap.size w).alloc (Nat.le_refl _) (.cells zeroV 34))
  clear h7
  go_enter Try.func36, Try.ntmps36
  go_wp2_with fail
  go_loopw [12] (fun i wr => ∃ k : Nat, k ≤ l.length ∧ i = .int .i64 k ∧ getN l nm = getN (l.drop k) nm ∧ Below w.heap.size w wr ∧ BlkN wr w.heap.size 34 zeroV) (fun i _ => l.length - (intOf i).toNat)
  case atStart => exact ⟨0, by omega, rfl, rfl, HB0.out, HN1.out⟩
  case round =>
    obtain ⟨j, hj, rfl, hg, hu, hb0⟩ := hrel
    have HU := Lib.hid hu
    have HC := Lib.hid hb0
    have HG := Lib.hid hg
    have hsz := hb0.lt
    clear hg hu hb0
    by_cases hlt : j < l.length
    · obtain ⟨b, o, hbB, hA, hx⟩ := H7.out (by rintro rfl; simp at hlt)
      subst hA
      obtain ⟨hs0, k', n', s', A', len', cap', r', hat, hx1⟩ := hx.at2 j hlt
      have hat' := hat.keep hbB (fun b hb => HU.out.block b (by omega))
      obtain ⟨e0, e1, e2, e3, e4, e5⟩ := hat'.six
      have HX1 := Lib.hid hx1
      have HDD := Lib.hid (List.drop_eq_getElem_cons hlt)
      clear hat hat' hx hx1
      obtain ⟨sn, hsn⟩ : ∃ sn, sn = l[j].1 := ⟨_, rfl⟩
      have HSN := Lib.hid hsn
      rw [← hsn] at e0 hs0
      clear hsn
      cases heq : (sn.toList == nm.toList)
      · have HEQ := Lib.hid heq
        have hB1 := Lib.hid (HU.out.alloc HU.out.size (.cells #[.string sn, .int .u8 k', .int .i64 n', .string s', .slice A' len' cap', .int .i64 r'] 73))
        go_wp2_with fail
        go_roundw
        case rel => exact ⟨j + 1, by omega, by go_num, by rw [HG.out, HDD.out]; show (if l[j].1.toList == nm.toList then _ else _) = _; rw [← HSN.out, HEQ.out]; rfl, hB1.out, HC.out.alloc _⟩
        case measure => simp [intOf]; omega
      · have HEQ : Hid (getN l nm = some l[j].2) := Lib.hid (by rw [HG.out, HDD.out]; show (if l[j].1.toList == nm.toList then _ else _) = _; rw [← HSN.out, heq]; rfl)
        have hB1 := Lib.hid (HU.out.alloc HU.out.size (.cells #[.string sn, .int .u8 k', .int .i64 n', .string s', .slice A' len' cap', .int .i64 r'] 73))
        have hsu := HU.out.size
        go_wp2_with fail
        refine (Own_any (B := B) (x := l[j].2) _ (IsVa.keep (fun b hb => hB1.out.block b (by omega)) HX1.out) (by simp; omega)).mono ?_
        rintro e w1 ⟨v', rfl, hv', hb1⟩
        obtain ⟨k2, n2, s2, A2, len2, cap2, r2, rfl⟩ := hv'.shape
        have HB2 := Lib.hid (hB1.out.trans (hb1.mono (by simp; omega)))
        have HD := Lib.hid ((HC.out.alloc (.cells #[.string sn, .int .u8 k', .int .i64 n', .string s', .slice A' len' cap', .int .i64 r'] 73)).below hb1)
        have HV := Lib.hid hv'
        have hsz1 := hb1.size
        simp only [World.size_alloc] at hsz1
        obtain ⟨l0, l1, l2, l3, l4⟩ := lts (show w.heap.size < w1.heap.size by omega)
        have d0 := HD.out.cell 0 rfl
        have d1 := HD.out.cell 1 rfl
        have d2 := HD.out.cell 2 rfl
        have d3 := HD.out.cell 3 rfl
        have d4 := HD.out.cell 4 rfl
        have x0 := HD.out.free 0
        have x1 := HD.out.free 1
        have x2 := HD.out.free 2
        have x3 := HD.out.free 3
        have x4 := HD.out.free 4
        clear hb1 hv' e0 e1 e2 e3 e4 e5
        go_wp2_with fail
        obtain ⟨WF, hWF, _, _, _, _, _, hk, hbel, hR⟩ := res5 HD.out (.int .u8 k2) (.int .i64 n2) (.string s2) (.slice A2 len2 cap2) (.int .i64 r2)
        rw [hWF]
        have hR' := hR.alloc (.cells #[.int .u8 k2, .int .i64 n2, .string s2, .slice A2 len2 cap2, .int .i64 r2] 34)
        have y0 := hR'.cell 0 rfl
        have y1 := hR'.cell 1 rfl
        have y2 := hR'.cell 2 rfl
        have y3 := hR'.cell 3 rfl
        have y4 := hR'.cell 4 rfl
        have hbw := hbel _ _ (Nat.le_refl _) HB2.out
        refine bodyPost_ret (v := .tuple #[.agg #[.int .u8 k2, .int .i64 n2, .string s2, .slice A2 len2 cap2, .int .i64 r2], .bool true]) (by simp [results, Try.results36, go_sem, y0, y1, y2, y3, y4]) rfl ⟨_, by unfold getB; rw [HEQ.out]; rfl, ?_, hbw.alloc hbw.size _⟩
        unfold getX
        rw [HEQ.out]
        exact ((HV.out.other hk (by simp; omega)).below ((Below.refl _ _).alloc (Nat.le_refl _) _)).low (by simp; omega)
    · obtain rfl : j = l.length := by omega
      have d0 := HC.out.cell 0 rfl
      have d1 := HC.out.cell 1 rfl
      have d2 := HC.out.cell 2 rfl
      have d3 := HC.out.cell 3 rfl
      have d4 := HC.out.cell 4 rfl
      have x0 := HC.out.free 0
      have x1 := HC.out.free 1
      have x2 := HC.out.free 2
      have x3 := HC.out.free 3
      have x4 := HC.out.free 4
      have HNN : Hid (getN l nm = Option.none) := Lib.hid (by rw [HG.out, List.drop_length]; rfl)
      go_wp2_with fail
      obtain ⟨WF, hWF, y0, y1, y2, y3, y4, hk, hbel, _⟩ := res5 HC.out (.int .u8 0) (.int .i64 0) (.string ⟨#[]⟩) (.slice Option.none 0 0) (.int .i64 0)
      rw [hWF]
      refine bodyPost_ret (v := .tuple #[.agg #[.int .u8 0, .int .i64 0, .string ⟨#[]⟩, .slice Option.none 0 0, .int .i64 0], .bool false]) (by simp [results, Try.results36, go_sem, y0, y1, y2, y3, y4]) rfl ⟨_, by unfold getB; rw [HNN.out]; rfl, ?_, hbel _ _ (Nat.le_refl _) HU.out⟩
      unfold getX
      rw [HNN.out]
      exact IsVaR.zero _ _
end Go.Proofs.Ytnknefdpglnbnaa
