/- The program's comparison of expressions, and of texts, walked. -/
import Derived.Test.YtnknefdpglnbnaaCt
namespace Go.Proofs.Ytnknefdpglnbnaa
open Go.RowKit

def SameX130C (x : Ex) : Prop := ∀ (y : Ex) (w : World) (B C : Nat) (v u : Value), IsEx w B v x → IsEx w C u y → B ≤ w.heap.size → C ≤ w.heap.size →
  Calls Try.prog 130 #[v, u] w fun e w' => e = .returned (.bool (sameX x y)) ∧ Below w.heap.size w w'
def ExRow (w : World) (B : Nat) (A : Option Addr) (l : List Ex) : Prop := l ≠ [] → ∃ b o, b < B ∧ A = some ⟨b, o, Option.none⟩ ∧ IsExs w B b o l
theorem ExRow.keep {w w' : World} {B : Nat} {A : Option Addr} {l : List Ex} (h : ExRow w B A l) (hk : ∀ b, b < B → w'.heap[b]? = w.heap[b]?) : ExRow w' B A l := fun hne => by
  obtain ⟨b, o, h1, h2, h3⟩ := h hne
  exact ⟨b, o, h1, h2, IsExs.keep hk h1 h3⟩
set_option maxRecDepth 100000 in
set_option maxHeartbeats 1000000 in
theorem equal150 (l : List Ex) (IH : ∀ x ∈ l, SameX130C x) (m : List Ex) (w : World) (B C : Nat) (A : Option Addr) (cap : Nat) (A' : Option Addr) (cap' : Nat) (hB : B ≤ w.heap.size) (hC : C ≤ w.heap.size) (hn : l.length ≤ 140737488351232) (hn' : m.length ≤ 140737488351232) (hc : l.length ≤ cap) (hc' : m.length ≤ cap') (h7 : ExRow w B A l) (h7' : ExRow w C A' m) :
    Calls Try.prog 150 #[.slice A l.length cap, .slice A' m.length cap', .func (.func 130) #[] #[]] w fun e w' => e = .returned (.bool (sameXs l m)) ∧ Below w.heap.size w w' := by
  have H7 := Lib.hid h7
  have H7' := Lib.hid h7'
  have HI := Lib.hid IH
  obtain ⟨T, hT⟩ : ∃ T, T = sameXs l m := ⟨_, rfl⟩
  rw [← hT]
  have HT := Lib.hid hT
  clear h7 h7' IH hT
  by_cases hll : l.length = m.length
  rotate_left
  · have hll' : ((l.length : Int) != m.length) = true := by simp; omega
    have HF : Hid (T = false) := Lib.hid (by
      rw [HT.out]
      cases h : sameXs l m
      · rfl
      · exact absurd (sameXs_len l m h) hll)
    clear hll
    go_enter Try.func150, Try.ntmps150
    go_wp2_with fail
    go_ret
    exact ⟨ret_bool HF.out.symm, Below.refl _ _⟩
  have hll' : ((l.length : Int) != m.length) = false := by rw [hll]; simp
  have HLL := Lib.hid hll
  clear hll
  go_enter Try.func150, Try.ntmps150
  go_wp2_with fail
  clear hll'
  go_loopw [17] (fun i wr => ∃ j : Nat, j ≤ l.length ∧ i = .int .i64 j ∧ sameXs (l.drop j) (m.drop j) = T ∧ Below w.heap.size w wr) (fun i _ => l.length - (intOf i).toNat)
  case atStart => exact ⟨0, by omega, rfl, HT.out.symm, Below.refl _ _⟩
  case round =>
    obtain ⟨j, hj, rfl, ht, hu⟩ := hrel
    have HTJ := Lib.hid ht
    have HU := Lib.hid hu
    have hus := hu.size
    clear ht hu
    by_cases hlt : j < l.length
    rotate_left
    · obtain rfl : j = l.length := by omega
      have HF : Hid (T = true) := Lib.hid (by rw [← HTJ.out, List.drop_length, HLL.out, List.drop_length]; rfl)
      go_wp2_with fail
      go_ret
      exact ⟨ret_bool HF.out.symm, HU.out⟩
    have hlt' : j < m.length := by have := HLL.out; omega
    obtain ⟨b, o, hbB, hA, hx⟩ := H7.out (by rintro rfl; simp at hlt)
    obtain ⟨b2, o2, hbC, hA', hx'⟩ := H7'.out (by rintro rfl; simp at hlt')
    subst hA hA'
    obtain ⟨k1, n1, s1, A1, len1, cap1, hat, hx1⟩ := hx.at2 j hlt
    obtain ⟨k2, n2, s2, A2, len2, cap2, hat2, hx2⟩ := hx'.at2 j hlt'
    have hat' := hat.keep hbB (fun b hb => HU.out.block b (by omega))
    have hat2' := hat2.keep hbC (fun b hb => HU.out.block b (by omega))
    obtain ⟨e0, e1, e2, e3⟩ := hat'.four
    obtain ⟨f0, f1, f2, f3⟩ := hat2'.four
    have HD1 := Lib.hid (List.drop_eq_getElem_cons hlt)
    have HD2 := Lib.hid (List.drop_eq_getElem_cons hlt')
    have hcall := fun w' (hb : Below w.heap.size w w') => HI.out l[j] (List.getElem_mem hlt) m[j] w' B C _ _ (IsEx.keep (fun b hb' => hb.block b (by omega)) hx1) (IsEx.keep (fun b hb' => hb.block b (by omega)) hx2) (Nat.le_trans hB hb.size) (Nat.le_trans hC hb.size)
    obtain ⟨pp, hpp⟩ : ∃ pp, pp = sameX l[j] m[j] := ⟨_, rfl⟩
    rw [← hpp] at hcall
    have HPP := Lib.hid hpp
    have HCALL := Lib.hid hcall
    have HAT2 := Lib.hid hat2'
    clear hat hat' hat2 hat2' hx hx1 hx' hx2 hcall hpp f0 f1 f2 f3
    go_upto_region 6 with (fail)
    obtain ⟨w1, hw1⟩ : ∃ w1, w1 = wr.alloc (.cells #[.int .u8 k1, .int .i64 n1, .string s1, .slice A1 len1 cap1] 26) := ⟨_, rfl⟩
    rw [← hw1]
    have hb1 : Below wr.heap.size wr w1 := by rw [hw1]; exact (Below.refl _ _).alloc (Nat.le_refl _) _
    have hp1 : BlkN w1 wr.heap.size 26 #[.int .u8 k1, .int .i64 n1, .string s1, .slice A1 len1 cap1] := by rw [hw1]; exact BlkN.at_ rfl _ _
    obtain ⟨f0, f1, f2, f3⟩ := (HAT2.out.keep (show b2 < wr.heap.size by omega) (fun b hb => hb1.block b hb)).four
    have hs1 := hb1.size
    have HD : Hid (Below w.heap.size w (w1.alloc (.cells #[.int .u8 k2, .int .i64 n2, .string s2, .slice A2 len2 cap2] 26))) := Lib.hid ((bnext HU.out hb1).alloc (by omega) _)
    have HP1 := Lib.hid (hp1.alloc (.cells #[.int .u8 k2, .int .i64 n2, .string s2, .slice A2 len2 cap2] 26))
    have p0 := HP1.out.cell 0 rfl
    have p1 := HP1.out.cell 1 rfl
    have p2 := HP1.out.cell 2 rfl
    have p3 := HP1.out.cell 3 rfl
    clear hw1 hb1 hp1 e0 e1 e2 e3
    cases pp
    · have HF : Hid (T = false) := Lib.hid (by rw [← HTJ.out, HD1.out, HD2.out, sameXs_cons, ← HPP.out]; rfl)
      go_wp2_with (go_at_call 130; refine (HCALL.out _ HD.out).mono ?_; rintro e w1 ⟨rfl, hb1⟩)
      go_ret
      exact ⟨ret_bool HF.out.symm, bnext HD.out hb1⟩
    · have HN : Hid (sameXs (l.drop (j + 1)) (m.drop (j + 1)) = T) := Lib.hid (by rw [← HTJ.out, HD1.out, HD2.out, sameXs_cons, ← HPP.out]; rfl)
      go_wp2_with (go_at_call 130; refine (HCALL.out _ HD.out).mono ?_; rintro e w1 ⟨rfl, hb1⟩)
      go_roundw
      case rel => exact ⟨j + 1, by omega, by go_num, HN.out, bnext HD.out hb1⟩
      case measure => simp [intOf]; omega
set_option maxRecDepth 100000 in
set_option maxHeartbeats 1000000 in
theorem sameExpr130_any (x : Ex) : SameX130C x := by
  induction x using Ex.ind with
  | h k n s l IH =>
  intro y w B C v u h hy hB hC
  obtain ⟨k', n', s', l'⟩ := y
  obtain ⟨h1, h2, h3, h4, A, cap, h5, rfl, h7⟩ := h.form
  obtain ⟨h1', h2', h3', h4', A', cap', h5', rfl, h7'⟩ := hy.form
  have HB0 := Lib.hid (((Below.refl w.heap.size w).alloc (Nat.le_refl _) (.cells #[.int .u8 k, .int .i64 n, .string s, .slice A l.length cap] 26)).alloc (by simp) (.cells #[.int .u8 k', .int .i64 n', .string s', .slice A' l'.length cap'] 26))
  have hln := h.len
  have hln' := hy.len
  have hcall := fun w' (hb : Below w.heap.size w w') => equal150 l IH l' w' B C A cap A' cap' (Nat.le_trans hB hb.size) (Nat.le_trans hC hb.size) (by omega) (by omega) h5 h5' (ExRow.keep h7 fun b hb' => hb.block b (by omega)) (ExRow.keep h7' fun b hb' => hb.block b (by omega))
  have HCALL := Lib.hid hcall
  clear h h7 hy h7' IH hcall
  obtain ⟨T, hT⟩ : ∃ T, T = sameX (.mk k n s l) (.mk k' n' s' l') := ⟨_, rfl⟩
  rw [← hT]
  have HTT : Hid (T = (k == k' && (n == n' && (s.toList == s'.toList && sameXs l l')))) := Lib.hid (by rw [hT]; simp only [sameX])
  clear hT
  cases gk : ((k : Int) == k')
  · have HF : Hid (T = false) := Lib.hid (by rw [HTT.out, gk]; simp)
    clear HCALL HTT
    go_enter Try.func130, Try.ntmps130
    go_wp2_with fail
    go_ret
    exact ⟨ret_bool HF.out.symm, HB0.out⟩
  cases gn : ((n : Int) == n')
  · have HF : Hid (T = false) := Lib.hid (by rw [HTT.out, gk, gn]; simp)
    clear HCALL HTT
    go_enter Try.func130, Try.ntmps130
    go_wp2_with fail
    go_ret
    exact ⟨ret_bool HF.out.symm, HB0.out⟩
  cases gs : (s.toList == s'.toList)
  · have HF : Hid (T = false) := Lib.hid (by rw [HTT.out, gk, gn, gs]; simp)
    clear HCALL HTT
    go_enter Try.func130, Try.ntmps130
    go_wp2_with fail
    go_ret
    exact ⟨ret_bool HF.out.symm, HB0.out⟩
  have HT2 : Hid (T = sameXs l l') := Lib.hid (by rw [HTT.out, gk, gn, gs]; simp)
  clear HTT
  go_enter Try.func130, Try.ntmps130
  go_wp2_with (go_at_call 150; refine (HCALL.out _ HB0.out).mono ?_; rintro e w1 ⟨rfl, hb1⟩)
  go_ret
  exact ⟨ret_bool HT2.out.symm, bnext HB0.out hb1⟩
set_option maxRecDepth 100000 in
set_option maxHeartbeats 1000000 in
theorem equal131 (l m : List ByteArray) (w : World) (B C : Nat) (v u : Value) (hv : IsSs w B v l) (hu : IsSs w C u m) :
    Calls Try.prog 131 #[v, u] w fun e w' => e = .returned (.bool (sameW l m)) ∧ Below w.heap.size w w' := by
  obtain ⟨h1, h2, A, cap, h3, rfl, h4⟩ := hv
  obtain ⟨h1', h2', A', cap', h3', rfl, h4'⟩ := hu
  have H4 := Lib.hid h4
  have H4' := Lib.hid h4'
  have hn : l.length ≤ 140737488351232 := by omega
  have hn' : m.length ≤ 140737488351232 := by omega
  obtain ⟨T, hT⟩ : ∃ T, T = sameW l m := ⟨_, rfl⟩
  rw [← hT]
  have HT := Lib.hid hT
  clear h4 h4' h2 h2' hT
  by_cases hll : l.length = m.length
  rotate_left
  · have hll' : ((l.length : Int) != m.length) = true := by simp; omega
    have HF : Hid (T = false) := Lib.hid (by
      rw [HT.out]
      cases h : sameW l m
      · rfl
      · exact absurd (sameW_len l m h) hll)
    clear hll
    go_enter Try.func131, Try.ntmps131
    go_wp2_with fail
    go_ret
    exact ⟨ret_bool HF.out.symm, Below.refl _ _⟩
  have hll' : ((l.length : Int) != m.length) = false := by rw [hll]; simp
  have HLL := Lib.hid hll
  clear hll
  go_enter Try.func131, Try.ntmps131
  go_wp2_with fail
  clear hll'
  go_loopw [13] (fun i wr => ∃ j : Nat, j ≤ l.length ∧ i = .int .i64 j ∧ sameW (l.drop j) (m.drop j) = T ∧ Below w.heap.size w wr ∧ (∀ b, b < B ∨ b < C → wr.heap[b]? = w.heap[b]?)) (fun i _ => l.length - (intOf i).toNat)
  case atStart => exact ⟨0, by omega, rfl, HT.out.symm, Below.refl _ _, fun _ _ => rfl⟩
  case round =>
    obtain ⟨j, hj, rfl, ht, hu, hk⟩ := hrel
    have HTJ := Lib.hid ht
    have HU := Lib.hid hu
    have HK := Lib.hid hk
    clear ht hu hk
    by_cases hlt : j < l.length
    rotate_left
    · obtain rfl : j = l.length := by omega
      have HF : Hid (T = true) := Lib.hid (by rw [← HTJ.out, List.drop_length, HLL.out, List.drop_length]; rfl)
      go_wp2_with fail
      go_ret
      exact ⟨ret_bool HF.out.symm, HU.out⟩
    have hlt' : j < m.length := by have := HLL.out; omega
    obtain ⟨b, o, hbB, hA, hx⟩ := H4.out (by rintro rfl; simp at hlt)
    obtain ⟨b2, o2, hbC, hA', hx'⟩ := H4'.out (by rintro rfl; simp at hlt')
    subst hA hA'
    have hc1 : wr.cell? ⟨b, o + j, Option.none⟩ = some (.string l[j]) := (World.cell?_of_block (w := w) (a := ⟨b, o + j, Option.none⟩) (HK.out b (.inl hbB))).trans (hx j hlt)
    have hc2 : wr.cell? ⟨b2, o2 + j, Option.none⟩ = some (.string m[j]) := (World.cell?_of_block (w := w) (a := ⟨b2, o2 + j, Option.none⟩) (HK.out b2 (.inr hbC))).trans (hx' j hlt')
    have HD1 := Lib.hid (List.drop_eq_getElem_cons hlt)
    have HD2 := Lib.hid (List.drop_eq_getElem_cons hlt')
    obtain ⟨sx, hsx⟩ : ∃ sx, sx = l[j] := ⟨_, rfl⟩
    obtain ⟨sy, hsy⟩ : ∃ sy, sy = m[j] := ⟨_, rfl⟩
    rw [← hsx] at hc1 HD1
    rw [← hsy] at hc2 HD2
    have HD : Hid (T = (sx.toList == sy.toList && sameW (l.drop (j + 1)) (m.drop (j + 1)))) := Lib.hid (by rw [← HTJ.out, HD1.out, HD2.out, sameW_cons])
    clear hx hx' hsx hsy HD1 HD2
    cases heq : (sx.toList == sy.toList)
    · have HF : Hid (T = false) := Lib.hid (by rw [HD.out, heq]; rfl)
      have heq' : (sx.toList != sy.toList) = true := by rw [bne, heq]; rfl
      go_wp2_with fail
      go_quiet (fail)
      go_wp2_with fail
      go_ret
      exact ⟨ret_bool HF.out.symm, belowN HU.out _⟩
    · have HN : Hid (sameW (l.drop (j + 1)) (m.drop (j + 1)) = T) := Lib.hid (by rw [HD.out, heq]; rfl)
      have heq' : (sx.toList != sy.toList) = false := by rw [bne, heq]; rfl
      go_wp2_with fail
      go_quiet (fail)
      go_wp2_with fail
      go_roundw
      case rel => exact ⟨j + 1, by omega, by go_num, HN.out, belowN HU.out _, HK.out⟩
      case measure => simp [intOf]; omega
end Go.Proofs.Ytnknefdpglnbnaa
