/- The law's own functions that write codes over, walked. -/
import Derived.Test.YtnknefdpglnbnaaDi
namespace Go.Proofs.Ytnknefdpglnbnaa
open Go.RowKit

def SpoilEC (x : Ex) : Prop := ∀ (lo hi : Nat) (w : World) (c0 c1 c2 c3 : Value), hi ≤ w.heap.size → ShE w lo hi x c3 → Calls Try.prog 94 #[.agg #[c0, c1, c2, c3]] w fun e w' => e = .returned (.tuple #[]) ∧ Spo lo hi w w'
def SpoilC (l : List St) : Prop := ∀ (lo hi : Nat) (w : World) (v : Value), hi ≤ w.heap.size → ShL w lo hi l v → Calls Try.prog 53 #[v] w fun e w' => e = .returned (.tuple #[]) ∧ Spo lo hi w w'
theorem BlkN.spo {lo hi p : Nat} {w w' : World} {T : TypeId} {cs : Array Value} (h : BlkN w p T cs) (hs : Spo lo hi w w') (hp : hi ≤ p) : BlkN w' p T cs := (hs.block p h.lt (.inr hp)).trans h
theorem shE_vr {w : World} {lo hi : Nat} {x : Ex} {v : Value} (h : ShE w lo hi x v) : VR v (.slice Option.none 0 0) := by
  obtain ⟨k, n, s, l⟩ := x
  unfold ShE at h
  exact h.vr
attribute [local irreducible] wpList
set_option maxRecDepth 100000 in
set_option maxHeartbeats 2000000 in
theorem spoilExpr94_any (x : Ex) : SpoilEC x := by
  induction x using Ex.ind with
  | h k n s l IH =>
  intro lo hi w c0 c1 c2 c3 hhi hsh
  unfold ShE at hsh
  have HI := Lib.hid IH
  obtain ⟨i0, hi', hz0, hz1, hz2⟩ := info_parts info26
  have HIN := Lib.hid hi'
  have HB0 : Hid (BlkN (w.alloc (.cells #[c0, c1, c2, c3] 26)) w.heap.size 26 #[c0, c1, c2, c3]) := Lib.hid (BlkN.at_ rfl _ _)
  have HS0 : Hid (Spo lo hi w (w.alloc (.cells #[c0, c1, c2, c3] 26))) := Lib.hid (Spo.of_below ((Below.refl _ _).alloc (Nat.le_refl _) _))
  clear IH hi'
  rcases hsh with rfl | ⟨A, cap, hcap, hby, rfl, h7⟩
  · go_enter Try.func94, Try.ntmps94
    go_wp2_with fail
    go_loopw [2] (fun i wr => i = .int .i64 0 ∧ Spo lo hi w wr ∧ BlkN wr w.heap.size 26 #[c0, c1, c2, .slice Option.none 0 0]) (fun i _ => 0)
    case atStart => exact ⟨rfl, HS0.out, HB0.out⟩
    case round =>
      obtain ⟨rfl, hs, hb⟩ := hrel
      have e3 := hb.cell 3 rfl
      go_wp2_with fail
      go_end0
      exact ⟨rfl, hs⟩
  have H7 := Lib.hid h7
  have hll : l.length ≤ 140737488351232 := by omega
  clear h7
  go_enter Try.func94, Try.ntmps94
  go_wp2_with fail
  go_loopw [2] (fun i wr => ∃ j : Nat, j ≤ l.length ∧ i = .int .i64 j ∧ Spo lo hi w wr ∧ BlkN wr w.heap.size 26 #[c0, c1, c2, .slice A l.length cap]) (fun i _ => l.length - (intOf i).toNat)
  case atStart => exact ⟨0, by omega, rfl, HS0.out, HB0.out⟩
  case round =>
    obtain ⟨j, hj, rfl, hs, hb⟩ := hrel
    have e3 := hb.cell 3 rfl
    have HS := Lib.hid hs
    have HB := Lib.hid hb
    have hbl := hb.lt
    clear hs hb
    by_cases hlt : j < l.length
    rotate_left
    · obtain rfl : j = l.length := by omega
      go_wp2_with fail
      go_end0
      exact ⟨rfl, HS.out⟩
    obtain ⟨b, o, hlo, hhb, hA, T, cs, hB, hE⟩ := H7.out (by rintro rfl; simp at hlt)
    subst hA
    have HEL : Hid (∀ wr, Spo lo hi w wr → ∃ cs', BlkN wr b T cs' ∧ ShEs wr lo hi cs' o l) := Lib.hid fun wr hs => by
      obtain ⟨cs', h1, h2⟩ := hs.cells b T cs hlo hhb hB
      exact ⟨cs', h1, ShEs.keep hs l cs cs' o hE h2⟩
    clear hE hB cs
    obtain ⟨cs, hB, hE⟩ := HEL.out wr HS.out
    obtain ⟨d0, d1, d2, d3, f0, f1, f2, f3, _, _, _, hx⟩ := hE.at j hlt
    have g0 : wr.cell? ⟨b, o + j * 4, Option.none⟩ = some d0 := by rw [hB.cell_eq]; exact f0
    have g1 : wr.cell? ⟨b, o + j * 4 + 1, Option.none⟩ = some d1 := by rw [hB.cell_eq]; exact f1
    have g2 : wr.cell? ⟨b, o + j * 4 + 2, Option.none⟩ = some d2 := by rw [hB.cell_eq]; exact f2
    have g3 : wr.cell? ⟨b, o + j * 4 + 3, Option.none⟩ = some d3 := by rw [hB.cell_eq]; exact f3
    have HC : Hid (Calls Try.prog 94 #[.agg #[d0, d1, d2, d3]] wr fun e w' => e = .returned (.tuple #[]) ∧ Spo lo hi wr w') := Lib.hid (HI.out l[j] (List.getElem_mem hlt) lo hi wr d0 d1 d2 d3 (Nat.le_trans hhi HS.out.size) hx)
    clear hE hB f0 f1 f2 f3 hx
    go_upto_region 5 with (go_at_call 94; refine HC.out.mono ?_; rintro e w1 ⟨rfl, hs1⟩)
    have hb1 : BlkN w1 w.heap.size 26 #[c0, c1, c2, .slice (some ⟨b, o, Option.none⟩) l.length cap] := HB.out.spo hs1 hhi
    have e31 := hb1.cell 3 rfl
    have HS1 := Lib.hid (HS.out.trans hs1)
    have HBB1 := Lib.hid hb1
    obtain ⟨cs1, hB1, hE1⟩ := HEL.out w1 HS1.out
    have HBB := Lib.hid hB1
    have HE1 := Lib.hid hE1
    have hsz : o + j * 4 + 4 ≤ cs1.size := by
      obtain ⟨d0, d1, d2, d3, f0, f1, f2, f3, _⟩ := hE1.at j hlt
      have := (Array.getElem?_eq_some_iff.1 f3).1
      omega
    have hbl1 := hB1.lt
    clear g0 g1 g2 g3 e3 hs1 hb1 hB1 hE1 HC HB
    go_wp2_with (refine wpList_store_part rfl 26 (.tmp 20) (.tmp 19) rfl i0 HIN.out b (o + j * 4) (.agg #[.int .u8 77, .int .i64 0, .string ⟨#[]⟩, .slice Option.none 0 0]) [.int .u8 77, .int .i64 0, .string ⟨#[]⟩, .slice Option.none 0 0] rfl rfl rfl T cs1 (cs1.toList.take (o + j * 4) ++ ([.int .u8 77, .int .i64 0, .string ⟨#[]⟩, .slice Option.none 0 0] : List Value) ++ cs1.toList.drop (o + j * 4 + 4)).toArray HBB.out (by rw [hz1]; rfl) hsz (by intro u hu; simp only [List.mem_cons, List.not_mem_nil, or_false] at hu; rcases hu with rfl | rfl | rfl | rfl <;> rfl) rfl ?_; intro w2 hB2 hbut)
    have hs2 : Spo lo hi w1 w2 := by
      refine Spo.store HBB.out hB2 hbut hlo hhb hsz rfl fun q u hu => ?_
      obtain ⟨d0, d1, d2, d3, f0, f1, f2, f3, n0, n1, n2, hx⟩ := HE1.out.at j hlt
      have hq : q = 0 ∨ q = 1 ∨ q = 2 ∨ q = 3 := by have := (List.getElem?_eq_some_iff.1 hu).1; simp at this; omega
      rcases hq with rfl | rfl | rfl | rfl
      · simp at hu; subst hu; exact ⟨d0, f0, VR.no n0 trivial⟩
      · simp at hu; subst hu; exact ⟨d1, f1, VR.no n1 trivial⟩
      · simp at hu; subst hu; exact ⟨d2, f2, VR.no n2 trivial⟩
      · simp at hu; subst hu
        refine ⟨d3, f3, ?_⟩
        exact shE_vr hx
    have HS2 := Lib.hid (HS1.out.trans hs2)
    have HB2 := Lib.hid (HBB1.out.spo hs2 hhi)
    clear hs2 hbut hB2
    go_wp2_with fail
    go_roundw
    case rel => exact ⟨j + 1, by omega, by go_num, HS2.out, HB2.out⟩
    case measure => simp [intOf]; omega
def DnP : St → Prop
  | .mk _ _ _ _ _ _ _ t e c _ => SpoilC t ∧ SpoilC e ∧ SpoilC c
def svN : SV := { SV.zero with op := 77 }
theorem info58z : True := trivial
attribute [local go_sem] SV.g0 SV.g1 SV.g2 SV.g3 SV.g4 SV.g5 SV.g6 SV.g7 SV.g8 SV.g9 SV.g10 SV.g11 SV.g12 SV.g13 SV.g14 SV.g15 SV.g16
set_option maxRecDepth 100000 in
set_option maxHeartbeats 4000000 in
theorem spoil53_step (l : List St) (IH : ∀ x ∈ l, DnP x) : SpoilC l := by
  intro lo hi w v hhi hsh
  have HI := Lib.hid IH
  obtain ⟨i0, hi', hz0, hz1, hz2⟩ := info_parts info58
  obtain ⟨i9, hi9', hz9, hi9, _⟩ := info_parts info9
  have HIN := Lib.hid hi'
  have HI9 := Lib.hid hi9'
  clear IH hi' hi9'
  rcases hsh with rfl | ⟨A, cap, hcap, hby, rfl, h7⟩
  · go_enter Try.func53, Try.ntmps53
    go_wp2_with fail
    go_loopw [2] (fun i wr => i = .int .i64 0 ∧ Spo lo hi w wr) (fun i _ => 0)
    case atStart => exact ⟨rfl, Spo.refl _ _ _⟩
    case round =>
      obtain ⟨rfl, hs⟩ := hrel
      go_wp2_with fail
      go_end0
      exact ⟨rfl, hs⟩
  have H7 := Lib.hid h7
  have hll : l.length ≤ 140737488351232 := by omega
  clear h7
  go_enter Try.func53, Try.ntmps53
  go_wp2_with fail
  go_loopw [2] (fun i wr => ∃ j : Nat, j ≤ l.length ∧ i = .int .i64 j ∧ Spo lo hi w wr) (fun i _ => l.length - (intOf i).toNat)
  case atStart => exact ⟨0, by omega, rfl, Spo.refl _ _ _⟩
  case round =>
    obtain ⟨j, hj, rfl, hs⟩ := hrel
    have HS := Lib.hid hs
    clear hs
    by_cases hlt : j < l.length
    rotate_left
    · obtain rfl : j = l.length := by omega
      go_wp2_with fail
      go_end0
      exact ⟨rfl, HS.out⟩
    obtain ⟨b, o, hlo, hhb, hA, T, cs, hB, hE⟩ := H7.out (by rintro rfl; simp at hlt)
    subst hA
    have hDn : DnP l[j] := HI.out _ (List.getElem_mem hlt)
    have hEj := hE.at j hlt
    obtain ⟨x, hxe⟩ : ∃ x, x = l[j] := ⟨_, rfl⟩
    rw [← hxe] at hDn hEj
    obtain ⟨op, nm, sec, ab, wh, xa, xb, xt, xe, xc, xw⟩ := x
    have HEL : Hid (∀ wr, Spo lo hi w wr → ∃ (cs' : Array Value) (u : Nat → Value), BlkN wr b T cs' ∧ (∀ k, k < 17 → cs'[o + j * 17 + k]? = some (u k)) ∧ (∀ k, k < 17 → slK k = false → NoSl (u k)) ∧ ShE wr lo hi xa (u 8) ∧ ShE wr lo hi xb (u 12) ∧
        ShL wr lo hi xt (u 13) ∧ ShL wr lo hi xe (u 14) ∧ ShL wr lo hi xc (u 15) ∧ ShR wr lo hi 16 xw (fun cs o => ShW xw cs o) (u 16)) := Lib.hid fun wr hs => by
      obtain ⟨cs', h1, h2⟩ := hs.cells b T cs hlo hhb hB
      have h3 := ShS.keep hs _ cs cs' (o + j * 17) hEj h2
      unfold ShS at h3
      obtain ⟨u, h4⟩ := h3
      exact ⟨cs', u, h1, h4⟩
    obtain ⟨it, ie, ic⟩ := hDn
    have HT := Lib.hid it
    have HE' := Lib.hid ie
    have HC := Lib.hid ic
    clear hE hEj hB cs hxe it ie ic H7
    obtain ⟨cs, u, hB, hu, _, _, _, ht, _⟩ := HEL.out wr HS.out
    have g13 : wr.cell? ⟨b, o + j * 17 + 13, Option.none⟩ = some (u 13) := by rw [hB.cell_eq]; exact hu 13 (by decide)
    have HCT : Hid (Calls Try.prog 53 #[u 13] wr fun e w' => e = .returned (.tuple #[]) ∧ Spo lo hi wr w') := Lib.hid (HT.out lo hi wr (u 13) (Nat.le_trans hhi HS.out.size) ht)
    clear hB hu ht HT
    go_upto_region 4 with (go_at_call 53; refine HCT.out.mono ?_; rintro e w1 ⟨rfl, hs1⟩)
    have HS1 := Lib.hid (HS.out.trans hs1)
    clear hs1 g13 HCT
    obtain ⟨cs, u, hB, hu, _, _, _, _, ht, _⟩ := HEL.out w1 HS1.out
    have g14 : w1.cell? ⟨b, o + j * 17 + 14, Option.none⟩ = some (u 14) := by rw [hB.cell_eq]; exact hu 14 (by decide)
    have HCT : Hid (Calls Try.prog 53 #[u 14] w1 fun e w' => e = .returned (.tuple #[]) ∧ Spo lo hi w1 w') := Lib.hid (HE'.out lo hi w1 (u 14) (Nat.le_trans hhi HS1.out.size) ht)
    clear hB hu ht HE'
    go_upto_region 5 with (go_at_call 53; refine HCT.out.mono ?_; rintro e w2 ⟨rfl, hs2⟩)
    have HS2 := Lib.hid (HS1.out.trans hs2)
    clear hs2 g14 HCT
    obtain ⟨cs, u, hB, hu, _, _, _, _, _, ht, _⟩ := HEL.out w2 HS2.out
    have g15 : w2.cell? ⟨b, o + j * 17 + 15, Option.none⟩ = some (u 15) := by rw [hB.cell_eq]; exact hu 15 (by decide)
    have HCT : Hid (Calls Try.prog 53 #[u 15] w2 fun e w' => e = .returned (.tuple #[]) ∧ Spo lo hi w2 w') := Lib.hid (HC.out lo hi w2 (u 15) (Nat.le_trans hhi HS2.out.size) ht)
    clear hB hu ht HC
    go_upto_region 6 with (go_at_call 53; refine HCT.out.mono ?_; rintro e w3 ⟨rfl, hs3⟩)
    have HS3 := Lib.hid (HS2.out.trans hs3)
    clear hs3 g15 HCT
    go_wp2_with fail
    obtain ⟨wo, rfl⟩ : ∃ wo : World, wo = wr := ⟨_, rfl⟩
    go_loopw [3] (fun i wr => ∃ k : Nat, k ≤ xw.length ∧ i = .int .i64 k ∧ Spo lo hi w wr) (fun i _ => xw.length - (intOf i).toNat)
    case atStart => exact ⟨0, by omega, rfl, HS3.out⟩
    case round =>
      obtain ⟨k, hk, rfl, hsk⟩ := hrel
      have HSK := Lib.hid hsk
      clear hsk
      obtain ⟨cs, u, hB, hu, _, hea, _, _, _, _, hw⟩ := HEL.out wr HSK.out
      have g16 : wr.cell? ⟨b, o + j * 17 + 16, Option.none⟩ = some (u 16) := by rw [hB.cell_eq]; exact hu 16 (by decide)
      by_cases hgo : ∃ Aw capw, u 16 = .slice Aw xw.length capw ∧ k < xw.length
      · obtain ⟨Aw, capw, hu16, hkl⟩ := hgo
        rcases hw with h0 | ⟨A', cap', hcw, hbw, hv, hne⟩
        · rw [h0] at hu16
          simp only [Value.slice.injEq] at hu16
          omega
        rw [hv] at hu16
        simp only [Value.slice.injEq, true_and] at hu16
        obtain ⟨rfl, rfl⟩ := hu16
        obtain ⟨bw, ow, h1, h2, rfl, Tw, cw, hBw, hW⟩ := hne (by rintro rfl; simp at hkl)
        rw [hv] at g16
        obtain ⟨u0, hu0, hn0⟩ := hW k hkl
        have hsz : ow + k + 1 ≤ cw.size := by have := (Array.getElem?_eq_some_iff.1 hu0).1; omega
        have HBW := Lib.hid hBw
        have hbwl := hBw.lt
        have hwl : xw.length ≤ 140737488351232 := by omega
        have HU0 := Lib.hid hu0
        have HN0 := Lib.hid hn0
        clear hB hu hea hW hne hBw hu0 hn0 hv
        go_wp2_with (refine wpList_store_part rfl 9 (.tmp 44) (.const (.string ⟨#[115, 112, 111, 105, 108, 116]⟩)) rfl i9 HI9.out bw (ow + k) (.string ⟨#[115, 112, 111, 105, 108, 116]⟩) [.string ⟨#[115, 112, 111, 105, 108, 116]⟩] rfl rfl rfl Tw cw (cw.toList.take (ow + k) ++ ([.string ⟨#[115, 112, 111, 105, 108, 116]⟩] : List Value) ++ cw.toList.drop (ow + k + 1)).toArray HBW.out (by rw [hi9]; rfl) hsz (by intro u hu; simp only [List.mem_cons, List.not_mem_nil, or_false] at hu; rcases hu with rfl; rfl) rfl ?_; intro w4 hB4 hbut)
        have hs4 : Spo lo hi wr w4 := by
          refine Spo.store HBW.out hB4 hbut h1 h2 hsz rfl fun q v hq => ?_
          have hq0 : q = 0 := by have := (List.getElem?_eq_some_iff.1 hq).1; simp at this; omega
          subst hq0
          simp at hq
          subst hq
          exact ⟨u0, HU0.out, VR.no HN0.out trivial⟩
        have HS4 := Lib.hid (HSK.out.trans hs4)
        clear hs4 hbut hB4
        go_wp2_with fail
        go_roundw
        case rel => exact ⟨k + 1, by omega, by go_num, HS4.out⟩
        case measure => simp [intOf]; omega
      · have hu16 : ∃ A' n' cap', u 16 = .slice A' n' cap' ∧ n' ≤ k := by
          rcases hw with h0 | ⟨A', cap', hcw, hbw, hv, hne⟩
          · exact ⟨_, _, _, h0, by omega⟩
          · refine ⟨_, _, _, hv, ?_⟩
            by_cases hkl : k < xw.length
            · exact absurd ⟨A', cap', hv, hkl⟩ hgo
            · omega
        obtain ⟨A', n', cap', hu16, hnk⟩ := hu16
        rw [hu16] at g16
        have g5 : wr.cell? ⟨b, o + j * 17 + 5, Option.none⟩ = some (u 5) := by rw [hB.cell_eq]; exact hu 5 (by decide)
        have g6 : wr.cell? ⟨b, o + j * 17 + 5 + 1, Option.none⟩ = some (u 6) := by rw [hB.cell_eq]; exact hu 6 (by decide)
        have g7 : wr.cell? ⟨b, o + j * 17 + 5 + 2, Option.none⟩ = some (u 7) := by rw [hB.cell_eq]; exact hu 7 (by decide)
        have g8 : wr.cell? ⟨b, o + j * 17 + 5 + 3, Option.none⟩ = some (u 8) := by rw [hB.cell_eq]; exact hu 8 (by decide)
        have HCA : Hid (Calls Try.prog 94 #[.agg #[u 5, u 6, u 7, u 8]] wr fun e w' => e = .returned (.tuple #[]) ∧ Spo lo hi wr w') := Lib.hid (spoilExpr94_any xa lo hi wr (u 5) (u 6) (u 7) (u 8) (Nat.le_trans hhi HSK.out.size) hea)
        clear hB hu hea hw hgo
        go_upto_region 11 with (go_at_call 94; refine HCA.out.mono ?_; rintro e w5 ⟨rfl, hs5⟩)
        have HS5 := Lib.hid (HSK.out.trans hs5)
        clear hs5 g5 g6 g7 g8 g16 HCA
        obtain ⟨cs5, u5, hB, hu, _, _, heb, _⟩ := HEL.out w5 HS5.out
        have g9 : w5.cell? ⟨b, o + j * 17 + 9, Option.none⟩ = some (u5 9) := by rw [hB.cell_eq]; exact hu 9 (by decide)
        have g10 : w5.cell? ⟨b, o + j * 17 + 9 + 1, Option.none⟩ = some (u5 10) := by rw [hB.cell_eq]; exact hu 10 (by decide)
        have g11 : w5.cell? ⟨b, o + j * 17 + 9 + 2, Option.none⟩ = some (u5 11) := by rw [hB.cell_eq]; exact hu 11 (by decide)
        have g12 : w5.cell? ⟨b, o + j * 17 + 9 + 3, Option.none⟩ = some (u5 12) := by rw [hB.cell_eq]; exact hu 12 (by decide)
        have HCB : Hid (Calls Try.prog 94 #[.agg #[u5 9, u5 10, u5 11, u5 12]] w5 fun e w' => e = .returned (.tuple #[]) ∧ Spo lo hi w5 w') := Lib.hid (spoilExpr94_any xb lo hi w5 (u5 9) (u5 10) (u5 11) (u5 12) (Nat.le_trans hhi HS5.out.size) heb)
        clear hB hu heb
        go_upto_region 12 with (go_at_call 94; refine HCB.out.mono ?_; rintro e w6 ⟨rfl, hs6⟩)
        have HS6 := Lib.hid (HS5.out.trans hs6)
        clear hs6 g9 g10 g11 g12 HCB
        obtain ⟨cs6, u6, hB, hu, hno, hea, heb, ht, he, hc, hw⟩ := HEL.out w6 HS6.out
        have HBB := Lib.hid hB
        have hbl6 := hB.lt
        have hsz : o + j * 17 + 17 ≤ cs6.size := by have := (Array.getElem?_eq_some_iff.1 (hu 16 (by decide))).1; omega
        have HV : Hid (∀ (q : Nat) (v : Value), svN.arr.toList[q]? = some v → ∃ v0, cs6[o + j * 17 + q]? = some v0 ∧ VR v0 v) := Lib.hid fun q v hq => by
          have hq17 : q < 17 := by have := (List.getElem?_eq_some_iff.1 hq).1; simpa [SV.size] using this
          refine ⟨u6 q, hu q hq17, ?_⟩
          have hcs : q = 0 ∨ q = 1 ∨ q = 2 ∨ q = 3 ∨ q = 4 ∨ q = 5 ∨ q = 6 ∨ q = 7 ∨ q = 8 ∨ q = 9 ∨ q = 10 ∨ q = 11 ∨ q = 12 ∨ q = 13 ∨ q = 14 ∨ q = 15 ∨ q = 16 := by omega
          rcases hcs with rfl | rfl | rfl | rfl | rfl | rfl | rfl | rfl | rfl | rfl | rfl | rfl | rfl | rfl | rfl | rfl | rfl
          · cases hq; exact VR.no (hno 0 (by decide) rfl) trivial
          · cases hq; exact VR.no (hno 1 (by decide) rfl) trivial
          · cases hq; exact VR.no (hno 2 (by decide) rfl) trivial
          · cases hq; exact VR.no (hno 3 (by decide) rfl) trivial
          · cases hq; exact VR.no (hno 4 (by decide) rfl) trivial
          · cases hq; exact VR.no (hno 5 (by decide) rfl) trivial
          · cases hq; exact VR.no (hno 6 (by decide) rfl) trivial
          · cases hq; exact VR.no (hno 7 (by decide) rfl) trivial
          · cases hq; exact shE_vr hea
          · cases hq; exact VR.no (hno 9 (by decide) rfl) trivial
          · cases hq; exact VR.no (hno 10 (by decide) rfl) trivial
          · cases hq; exact VR.no (hno 11 (by decide) rfl) trivial
          · cases hq; exact shE_vr heb
          · cases hq; exact ht.vr
          · cases hq; exact he.vr
          · cases hq; exact hc.vr
          · cases hq; exact hw.vr
        clear hB hu hno hea heb ht he hc hw
        go_wp2_with (refine wpList_store_part rfl 58 (.tmp 60) (.tmp 59) rfl i0 HIN.out b (o + j * 17) (.agg svN.arr) svN.arr.toList rfl rfl rfl T cs6 (cs6.toList.take (o + j * 17) ++ svN.arr.toList ++ cs6.toList.drop (o + j * 17 + svN.arr.toList.length)).toArray HBB.out (by rw [hz1]; rfl) hsz (SV.one _) rfl ?_; intro w7 hB7 hbut)
        have hs7 : Spo lo hi w6 w7 := Spo.store HBB.out hB7 hbut hlo hhb hsz rfl HV.out
        have HS7 := Lib.hid (HS6.out.trans hs7)
        clear hs7 hbut hB7
        go_wp2_with fail
        go_roundw
        case rel => exact ⟨j + 1, by omega, by go_num, HS7.out⟩
        case measure => simp [intOf]; omega
theorem spoil53_any : ∀ l : List St, SpoilC l := by
  have h : ∀ x : St, DnP x := fun x => by
    induction x using St.ind with
    | h op nm sec ab wh a b t e c ws IHt IHe IHc => exact ⟨spoil53_step _ fun x hx => IHt x hx, spoil53_step _ fun x hx => IHe x hx, spoil53_step _ fun x hx => IHc x hx⟩
  exact fun l => spoil53_step l fun x _ => h x
end Go.Proofs.Ytnknefdpglnbnaa
