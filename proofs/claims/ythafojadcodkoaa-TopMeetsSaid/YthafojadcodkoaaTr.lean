/- slices.Clone of values, of names; world.own. -/
import Derived.Test.YthafojadcodkoaaTq
import Derived.Test.YthafojadcodkoaaTk
namespace Go.Proofs.Ythafojadcodkoaa
open Go.RowKit

/-- Values. -/
def RdV : Rd Va where
  P := fun w R cs x => ∃ c0 c1 c2 c3 c4, cs = [c0, c1, c2, c3, c4] ∧ IsVaR w R (.agg #[c0, c1, c2, c3, c4]) x
  keep := fun hk ⟨c0, c1, c2, c3, c4, h1, h2⟩ => ⟨c0, c1, c2, c3, c4, h1, h2.keep hk⟩
  mono := fun hk ⟨c0, c1, c2, c3, c4, h1, h2⟩ => ⟨c0, c1, c2, c3, c4, h1, h2.mono hk⟩
theorem RdV.list {w : World} {R : Nat → Nat → Prop} {b o : Nat} {l : List Va} (h : ∀ (i : Nat) (hi : i < l.length), ∃ cs : List Value, cs.length = 5 ∧ At w b (o + i * 5) cs ∧ RdV.P w R cs l[i]) : IsVasR w R b o l :=
  IsVasR.of fun i hi => by
    obtain ⟨cs, _, h2, c0, c1, c2, c3, c4, rfl, h3⟩ := h i hi
    exact ⟨c0, c1, c2, c3, c4, h2, h3⟩
/-- Names with values. -/
def RdM : Rd (ByteArray × Va) where
  P := fun w R cs x => ∃ c0 c1 c2 c3 c4, cs = [.string x.1, c0, c1, c2, c3, c4] ∧ x.1.size ≤ 140737488351232 ∧ IsVaR w R (.agg #[c0, c1, c2, c3, c4]) x.2
  keep := fun hk ⟨c0, c1, c2, c3, c4, h1, h0, h2⟩ => ⟨c0, c1, c2, c3, c4, h1, h0, h2.keep hk⟩
  mono := fun hk ⟨c0, c1, c2, c3, c4, h1, h0, h2⟩ => ⟨c0, c1, c2, c3, c4, h1, h0, h2.mono hk⟩
theorem IsNmsR.at {w : World} {R : Nat → Nat → Prop} {b : Nat} : ∀ {o : Nat} {l : List (ByteArray × Va)}, IsNmsR w R b o l → ∀ (i : Nat) (hi : i < l.length), ∃ c0 c1 c2 c3 c4, l[i].1.size ≤ 140737488351232 ∧ At w b (o + i * 6) [.string l[i].1, c0, c1, c2, c3, c4] ∧ IsVaR w R (.agg #[c0, c1, c2, c3, c4]) l[i].2
  | _, [], _, i, hi => absurd hi (by simp)
  | o, x :: l, h, 0, _ => by
    obtain ⟨⟨c0, c1, c2, c3, c4, h0, h1, h2⟩, _⟩ := h
    exact ⟨c0, c1, c2, c3, c4, h0, by simpa using h1, h2⟩
  | o, x :: l, h, i + 1, hi => by
    obtain ⟨_, h3⟩ := h
    obtain ⟨c0, c1, c2, c3, c4, h0, h1, h2⟩ := IsNmsR.at h3 i (by simpa using hi)
    refine ⟨c0, c1, c2, c3, c4, h0, ?_, h2⟩
    rw [show o + (i + 1) * 6 = o + 6 + i * 6 by omega]
    exact h1
theorem RdM.list {w : World} {R : Nat → Nat → Prop} {b : Nat} : ∀ {o : Nat} {l : List (ByteArray × Va)}, (∀ (i : Nat) (hi : i < l.length), ∃ cs : List Value, cs.length = 6 ∧ At w b (o + i * 6) cs ∧ RdM.P w R cs l[i]) → IsNmsR w R b o l
  | _, [], _ => trivial
  | o, x :: l, h => by
    refine ⟨?_, RdM.list fun i hi => ?_⟩
    · obtain ⟨cs, _, h1, c0, c1, c2, c3, c4, rfl, h0, h2⟩ := h 0 (by simp)
      exact ⟨c0, c1, c2, c3, c4, h0, by simpa using h1, h2⟩
    · obtain ⟨cs, h0, h1, h2⟩ := h (i + 1) (by simpa using hi)
      refine ⟨cs, h0, ?_, by simpa using h2⟩
      rw [show o + 6 + i * 6 = o + (i + 1) * 6 by omega]
      exact h1
theorem info81 : (Try.prog.info? 81).map (fun i => (i.zero, i.size, i.bytes)) = some (some (.agg #[.string ⟨#[]⟩, .int .u8 0, .int .i64 0, .string ⟨#[]⟩, .slice Option.none 0 0, .int .i64 0]), 6, 80) := by kernel_rfl
theorem va_one {w : World} {R : Nat → Nat → Prop} {c0 c1 c2 c3 c4 : Value} {x : Va} (h : IsVaR w R (.agg #[c0, c1, c2, c3, c4]) x) : ∀ u ∈ [c0, c1, c2, c3, c4], u.oneCell' = true := by
  obtain ⟨k, n, s, A, len, cap, r, he⟩ := h.shape
  simp only [Value.agg.injEq, Array.mk.injEq, List.cons.injEq, and_true] at he
  obtain ⟨rfl, rfl, rfl, rfl, rfl⟩ := he
  intro u hu
  simp only [List.mem_cons, List.not_mem_nil, or_false] at hu
  rcases hu with rfl | rfl | rfl | rfl | rfl <;> rfl
set_option maxRecDepth 100000 in
set_option maxHeartbeats 1000000 in
theorem Clone41_any (l : List Va) (A : Option Addr) (cap : Nat) (w : World) (B : Nat) (hB : B ≤ w.heap.size) (hlen : l.length * 64 ≤ 140737488351232) (hcap : l.length ≤ cap) (h7 : l ≠ [] → ∃ b o, b < B ∧ A = some ⟨b, o, Option.none⟩ ∧ IsVas w B b o l) :
    Calls Try.prog 41 #[.slice A l.length cap] w fun e w' => ∃ v', e = .returned v' ∧ NRg 49 5 w' w.heap.size v' l.length (fun i cs => ∃ hi : i < l.length, RdV.P w' (fun b _ => b < B) cs l[i]) ∧ Below w.heap.size w w' := by
  obtain ⟨i0, hi, hz0, hz1, hz2⟩ := info_parts info34
  have HIN := Lib.hid hi
  clear hi
  cases A with
  | none =>
    have hl0 : l = [] := by
      cases l with
      | nil => rfl
      | cons x l => obtain ⟨_, _, _, hA, _⟩ := h7 (by simp); cases hA
    subst hl0
    have heq := fun w => Lib.run_eql_slice_nil (P := Try.prog) w 47 49 Option.none 0 cap 0 0 Try.underlying47
    go_enter Try.func41, Try.ntmps41
    go_wp2_with fail
    go_ret
    exact ⟨_, rfl, ⟨[], World.ownsRow_nil _ _ _ _, fun i hi => by simp at hi⟩, Below.refl _ _⟩
  | some ad =>
    have heq := fun w => Lib.run_eql_slice_nil (P := Try.prog) w 47 49 (some ad) l.length cap 0 0 Try.underlying47
    obtain ⟨xs, e1, e2, e3, e4⟩ : ∃ xs : List Value, xs.length = l.length * 5 ∧ (∀ q u, xs[q]? = some u → w.cell? (ad.add q) = some u) ∧ (∀ u ∈ xs, u.oneCell' = true) ∧ ∀ (i : Nat) (hi : i < l.length), ∃ cs : List Value, cs.length = 5 ∧ (∀ q u, cs[q]? = some u → xs[i * 5 + q]? = some u) ∧ RdV.P w (fun b _ => b < B) cs l[i] := by
      by_cases hl0 : l = []
      · subst hl0
        exact ⟨[], rfl, fun q u h => by simp at h, by simp, fun i hi => absurd hi (by simp)⟩
      · obtain ⟨b, o, hb, hA, hx⟩ := h7 hl0
        cases hA
        obtain ⟨xs, g1, g2, g3, g4⟩ := rows_cells (D := RdV) (R := fun b _ => b < B) l o (fun i hi => by
          obtain ⟨c0, c1, c2, c3, c4, h1, h2⟩ := hx.at i hi; exact ⟨[c0, c1, c2, c3, c4], rfl, h1, va_one h2, c0, c1, c2, c3, c4, rfl, h2⟩)
        exact ⟨xs, g1, fun q u hu => by
          rw [show (⟨b, o, Option.none⟩ : Addr).add q = ⟨b, o + q, Option.none⟩ from by unfold Addr.add; split <;> simp_all]
          exact g2 q u hu, g3, g4⟩
    have E2 := Lib.hid e2
    have E3 := Lib.hid e3
    have E4 := Lib.hid e4
    have E1 := Lib.hid e1
    have hba : Below w.heap.size w (w.alloc (.cells #[] 49)) := (Below.refl _ _).alloc (Nat.le_refl _) _
    have HBA := Lib.hid hba
    have hown : (w.alloc (.cells #[] 49)).ownsRow w.heap.size 49 5 (.slice (some ⟨w.heap.size, 0, Option.none⟩) 0 0) 0 [] := ⟨rfl, .inr ⟨w.heap.size, 0, #[], rfl, Nat.le_refl _, (BlkN.at_ (w := w) rfl 49 #[]), Nat.le_refl _, by unfold maxLen; omega, rfl, rfl⟩⟩
    have HOWN := Lib.hid hown
    clear e1 e2 e3 e4 hba hown h7
    go_enter Try.func41, Try.ntmps41
    go_wp2_with (refine wpList_append_row _ rfl (.tmp 5) (.tmp 6) 47 rfl w.heap.size 49 i0 _ 5 64 Try.underlying47 HIN.out hz0 hz1 hz2 rfl (by decide) (.slice (some ⟨w.heap.size, 0, Option.none⟩) 0 0) 0 [] rfl HOWN.out ad l.length cap xs rfl E1.out ?hy2 E3.out ?hy4 ?hy5 ?hy6 ?_)
    case hy2 =>
      intro j u hu
      have h1 := E2.out j u hu
      exact (HBA.out.cell (p := ad.add j) (block_lt_of_cell h1)).trans h1
    case hy4 => unfold maxLen; omega
    case hy5 => omega
    case hy6 => simp
    intro v' w3 hown' hgrow hor
    have hb3 : Below w.heap.size w w3 := HBA.out.grown hgrow (by simp) (fun g hg => by simp [Value.ownBlock] at hg; omega)
    have HB3 := Lib.hid hb3
    have HO := Lib.hid hown'
    clear hown' hgrow hor hb3
    go_wp2_with fail
    go_ret
    refine ⟨_, rfl, ⟨xs, by simpa using HO.out, fun i hi => ?_⟩, HB3.out⟩
    obtain ⟨cs, g1, g2, g3⟩ := E4.out i hi
    exact ⟨cs, g1, g2, hi, RdV.keep (fun b o hb => HB3.out.block b (by omega)) g3⟩

set_option maxRecDepth 100000 in
set_option maxHeartbeats 1000000 in
theorem Clone42_any (l : List (ByteArray × Va)) (A : Option Addr) (cap : Nat) (w : World) (B : Nat) (hB : B ≤ w.heap.size) (hlen : l.length * 80 ≤ 140737488351232) (hcap : l.length ≤ cap) (h7 : l ≠ [] → ∃ b o, b < B ∧ A = some ⟨b, o, Option.none⟩ ∧ IsNmsR w (fun b _ => b < B) b o l) :
    Calls Try.prog 42 #[.slice A l.length cap] w fun e w' => ∃ v', e = .returned v' ∧ NRg 81 6 w' w.heap.size v' l.length (fun i cs => ∃ hi : i < l.length, RdM.P w' (fun b _ => b < B) cs l[i]) ∧ Below w.heap.size w w' := by
  obtain ⟨i0, hi, hz0, hz1, hz2⟩ := info_parts info81
  have HIN := Lib.hid hi
  clear hi
  cases A with
  | none =>
    have hl0 : l = [] := by
      cases l with
      | nil => rfl
      | cons x l => obtain ⟨_, _, _, hA, _⟩ := h7 (by simp); cases hA
    subst hl0
    have heq := fun w => Lib.run_eql_slice_nil (P := Try.prog) w 51 81 Option.none 0 cap 0 0 Try.underlying51
    go_enter Try.func42, Try.ntmps42
    go_wp2_with fail
    go_ret
    exact ⟨_, rfl, ⟨[], World.ownsRow_nil _ _ _ _, fun i hi => by simp at hi⟩, Below.refl _ _⟩
  | some ad =>
    have heq := fun w => Lib.run_eql_slice_nil (P := Try.prog) w 51 81 (some ad) l.length cap 0 0 Try.underlying51
    obtain ⟨xs, e1, e2, e3, e4⟩ : ∃ xs : List Value, xs.length = l.length * 6 ∧ (∀ q u, xs[q]? = some u → w.cell? (ad.add q) = some u) ∧ (∀ u ∈ xs, u.oneCell' = true) ∧ ∀ (i : Nat) (hi : i < l.length), ∃ cs : List Value, cs.length = 6 ∧ (∀ q u, cs[q]? = some u → xs[i * 6 + q]? = some u) ∧ RdM.P w (fun b _ => b < B) cs l[i] := by
      by_cases hl0 : l = []
      · subst hl0
        exact ⟨[], rfl, fun q u h => by simp at h, by simp, fun i hi => absurd hi (by simp)⟩
      · obtain ⟨b, o, hb, hA, hx⟩ := h7 hl0
        cases hA
        obtain ⟨xs, g1, g2, g3, g4⟩ := rows_cells (D := RdM) (R := fun b _ => b < B) l o (fun i hi => by
          obtain ⟨c0, c1, c2, c3, c4, h0, h1, h2⟩ := hx.at i hi; exact ⟨[.string l[i].1, c0, c1, c2, c3, c4], rfl, h1, fun u hu => (List.mem_cons.1 hu).elim (fun e => by rw [e]; rfl) (va_one h2 u), c0, c1, c2, c3, c4, rfl, h0, h2⟩)
        exact ⟨xs, g1, fun q u hu => by
          rw [show (⟨b, o, Option.none⟩ : Addr).add q = ⟨b, o + q, Option.none⟩ from by unfold Addr.add; split <;> simp_all]
          exact g2 q u hu, g3, g4⟩
    have E2 := Lib.hid e2
    have E3 := Lib.hid e3
    have E4 := Lib.hid e4
    have E1 := Lib.hid e1
    have hba : Below w.heap.size w (w.alloc (.cells #[] 81)) := (Below.refl _ _).alloc (Nat.le_refl _) _
    have HBA := Lib.hid hba
    have hown : (w.alloc (.cells #[] 81)).ownsRow w.heap.size 81 6 (.slice (some ⟨w.heap.size, 0, Option.none⟩) 0 0) 0 [] := ⟨rfl, .inr ⟨w.heap.size, 0, #[], rfl, Nat.le_refl _, (BlkN.at_ (w := w) rfl 81 #[]), Nat.le_refl _, by unfold maxLen; omega, rfl, rfl⟩⟩
    have HOWN := Lib.hid hown
    clear e1 e2 e3 e4 hba hown h7
    go_enter Try.func42, Try.ntmps42
    go_wp2_with (refine wpList_append_row _ rfl (.tmp 5) (.tmp 6) 51 rfl w.heap.size 81 i0 _ 6 80 Try.underlying51 HIN.out hz0 hz1 hz2 rfl (by decide) (.slice (some ⟨w.heap.size, 0, Option.none⟩) 0 0) 0 [] rfl HOWN.out ad l.length cap xs rfl E1.out ?hy2 E3.out ?hy4 ?hy5 ?hy6 ?_)
    case hy2 =>
      intro j u hu
      have h1 := E2.out j u hu
      exact (HBA.out.cell (p := ad.add j) (block_lt_of_cell h1)).trans h1
    case hy4 => unfold maxLen; omega
    case hy5 => omega
    case hy6 => simp
    intro v' w3 hown' hgrow hor
    have hb3 : Below w.heap.size w w3 := HBA.out.grown hgrow (by simp) (fun g hg => by simp [Value.ownBlock] at hg; omega)
    have HB3 := Lib.hid hb3
    have HO := Lib.hid hown'
    clear hown' hgrow hor hb3
    go_wp2_with fail
    go_ret
    refine ⟨_, rfl, ⟨xs, by simpa using HO.out, fun i hi => ?_⟩, HB3.out⟩
    obtain ⟨cs, g1, g2, g3⟩ := E4.out i hi
    exact ⟨cs, g1, g2, hi, RdM.keep (fun b o hb => HB3.out.block b (by omega)) g3⟩

set_option maxRecDepth 100000 in
set_option maxHeartbeats 2000000 in
theorem wown_any {B : Nat} {v : Value} {x : Va} (w : World) (h : IsVa w B v x) (hB : B ≤ w.heap.size) :
    Calls Try.prog 40 #[v] w fun e w' => ∃ v', e = .returned v' ∧ IsVaR w' (Own34 w' w.heap.size) v' (ownX x) ∧ Below w.heap.size w w' := by
  obtain ⟨i0, hi0, hz0, hz1, hz2⟩ := info_parts info34
  have HH := Lib.hid h
  obtain ⟨k, n, s, A, len, cap, r, rfl⟩ := h.shape
  obtain ⟨W, hW⟩ : ∃ W, W = (w.alloc (.cells #[.int .u8 k, .int .i64 n, .string s, .slice A len cap, .int .i64 r] 49)).alloc (.cells #[.int .u8 0, .int .i64 0, .string ⟨#[]⟩, .slice Option.none 0 0, .int .i64 0] 49) := ⟨_, rfl⟩
  have hb : Below w.heap.size w W := by rw [hW]; exact ((Below.refl _ _).alloc (Nat.le_refl _) _).alloc (by simp) _
  have HB := Lib.hid hb
  have HZ : Hid (BlkN W (w.heap.size + 1) 49 #[.int .u8 0, .int .i64 0, .string ⟨#[]⟩, .slice Option.none 0 0, .int .i64 0]) := Lib.hid (by rw [hW]; exact BlkN.at_ (by simp) _ _)
  have h0 : BlkN W w.heap.size 49 #[.int .u8 k, .int .i64 n, .string s, .slice A len cap, .int .i64 r] := by rw [hW]; exact (BlkN.at_ rfl _ _).alloc _
  have g0 := h0.cell 0 rfl
  have g1 := h0.cell 1 rfl
  have g2 := h0.cell 2 rfl
  have g3 := h0.cell 3 rfl
  have g4 := h0.cell 4 rfl
  have C61 := Lib.hid (Own_any (B := B) W (HH.out.keep fun b h => hb.block b (by omega)) (Nat.le_trans hB hb.size))
  clear h hb h0
  go_enter Try.func40, Try.ntmps40
  go_upto_region 1 with fail
  rw [← hW]
  clear hW
  go_wp2_with (first
    | (go_at_call 61; refine C61.out.mono ?_; rintro e w2 ⟨v2, rfl, hv2, hb2⟩; obtain ⟨k2, n2, s2, A2, len2, cap2, r2, rfl⟩ := hv2.shape; have HB2 := Lib.hid hb2; have HV2 := Lib.hid hv2; have HZ2 := Lib.hid (HZ.out.below hb2); clear hb2 hv2)
    | (refine wpList_store_blk rfl 49 (.tmp 2) (.tmp 10) rfl i0 hi0 (w.heap.size + 1) #[.int .u8 k2, .int .i64 n2, .string s2, .slice A2 len2 cap2, .int .i64 r2] rfl rfl 49 #[.int .u8 0, .int .i64 0, .string ⟨#[]⟩, .slice Option.none 0 0, .int .i64 0] (HZ2.out.alloc _) (by rw [hz1]; rfl) rfl (by simp [Value.oneCell']) ?_
       intro V hV hbut
       have HV := Lib.hid hV
       have HBut := Lib.hid hbut
       clear hV hbut))
  refine bodyPost_ret (results_cell1 (s := 2) (b := w.heap.size + 1) rfl Try.underlying49 hi0 rfl HV.out (by rw [hz1]; rfl)) rfl ⟨_, rfl, ?_, ?_⟩
  · have hWs : w.heap.size + 1 < W.heap.size := HZ.out.lt
    have hk : ∀ b o, Own34 w2 W.heap.size b o → V.heap[b]? = w2.heap[b]? := fun b o hr => (HBut.out.other b (by have := hr.1; omega)).trans (Below.heap_alloc _ _ _ hr.lt)
    exact (HV2.out.keep hk).mono fun b o hr => ⟨by have := hr.1; omega, hr.2.1, let ⟨cur, hc⟩ := hr.2.2; ⟨cur, (hk b o hr).trans hc⟩⟩
  · exact HBut.out.below (by omega) (bnext HB.out (HB2.out.alloc HB2.out.size _))
end Go.Proofs.Ythafojadcodkoaa
