/- world.ownWhat. -/
import Derived.Test.YthafojadcodkoaaTs
import Derived.Test.YthafojadcodkoaaTh
namespace Go.Proofs.Ythafojadcodkoaa
open Go.RowKit

theorem info47 : (Try.prog.info? 47).map (fun i => (i.zero, i.size, i.bytes)) = some (some (.slice Option.none 0 0), 1, 24) := by kernel_rfl
theorem info51 : (Try.prog.info? 51).map (fun i => (i.zero, i.size, i.bytes)) = some (some (.slice Option.none 0 0), 1, 24) := by kernel_rfl
/-- The blocks of a range. -/
def RR (lo hi : Nat) (b _o : Nat) : Prop := lo ≤ b ∧ b < hi
/-- Done elements are of the call's own (turned by f), the others as they came. -/
def OwnF {α : Type} (D : Rd α) (f : α → α) (w : World) (lo B : Nat) (v : Value) (l : List α) (j i : Nat) (cs : List Value) : Prop :=
  ∃ hi : i < l.length, if i < j then D.P w (fun b o => OwnU lo w b o ∧ v.ownBlock ≠ some b) cs (f l[i]) else D.P w (fun b _ => b < B) cs l[i]
theorem OwnF.below {α : Type} {D : Rd α} {f : α → α} {w w' : World} {lo B : Nat} {v : Value} {l : List α} {j i : Nat} {cs : List Value} (h : OwnF D f w lo B v l j i cs) (hB : B ≤ w.heap.size) (hb : Below w.heap.size w w') : OwnF D f w' lo B v l j i cs := by
  obtain ⟨hi, hp⟩ := h
  refine ⟨hi, ?_⟩
  by_cases hc : i < j
  · rw [if_pos hc] at hp ⊢
    exact D.mono (fun b o hr => ⟨hr.1.below hb, hr.2⟩) (D.keep (fun b o hr => hb.block b hr.1.lt) hp)
  · rw [if_neg hc] at hp ⊢
    exact D.keep (fun b o hr => hb.block b (Nat.lt_of_lt_of_le hr hB)) hp
theorem OwnF.but {α : Type} {D : Rd α} {f : α → α} {w w' : World} {lo B g : Nat} {v : Value} {l : List α} {j i : Nat} {cs : List Value} (h : OwnF D f w lo B v l j i cs) (hg : v.ownBlock = some g) (hB : B ≤ g) (hb : But g w w') : OwnF D f w' lo B v l j i cs := by
  obtain ⟨hi, hp⟩ := h
  refine ⟨hi, ?_⟩
  have hne : ∀ b, v.ownBlock ≠ some b → b ≠ g := fun b hv e => hv (by rw [hg, e])
  by_cases hc : i < j
  · rw [if_pos hc] at hp ⊢
    exact D.mono (fun b o hr => ⟨hr.1.of (hb.other b (hne b hr.2)), hr.2⟩) (D.keep (fun b o hr => hb.other b (hne b hr.2)) hp)
  · rw [if_neg hc] at hp ⊢
    exact D.keep (fun b o hr => hb.other b (by omega)) hp
theorem OwnF.next {α : Type} {D : Rd α} {f : α → α} {w : World} {lo B : Nat} {v : Value} {l : List α} {j i : Nat} {cs : List Value} (h : OwnF D f w lo B v l j i cs) (hij : i ≠ j) : OwnF D f w lo B v l (j + 1) i cs := by
  obtain ⟨hi, hp⟩ := h
  refine ⟨hi, ?_⟩
  by_cases hc : i < j
  · rw [if_pos hc] at hp
    rw [if_pos (by omega)]
    exact hp
  · rw [if_neg hc] at hp
    rw [if_neg (by omega)]
    exact hp
/-- A row whose elements are all done, as a slice's data. -/
theorem OwnF.row {α : Type} {D : Rd α} {f : α → α} {E : TypeId} {sz bz : Nat} {w : World} {lo B : Nat} {A : Option Addr} {cap : Nat} {l : List α} {p : Nat → Nat → Prop} (h : NRg E sz w lo (.slice A l.length cap) l.length (OwnF D f w lo B (.slice A l.length cap) l l.length)) (hbz : l.length * bz ≤ 140737488351232)
    (hp : ∀ b, (∀ (i : Nat) (hi : i < (l.map f).length), ∃ cs : List Value, cs.length = sz ∧ At w b (0 + i * sz) cs ∧ D.P w (RR lo w.heap.size) cs (l.map f)[i]) → p b 0) : LR (RR lo w.heap.size) bz A l.length cap (l.map f) p := by
  obtain ⟨A', cap', he, hcap⟩ := h.val
  simp only [Value.slice.injEq, true_and] at he
  obtain ⟨rfl, rfl⟩ := he
  refine ⟨by simp, by simpa using hcap, by simpa using hbz, fun hne => ?_⟩
  have hpos : 0 < l.length := List.length_pos_iff.2 fun e => hne (by rw [e]; rfl)
  obtain ⟨g, cap', cur, he, hlo, hcur, hcapc, hcs, hel⟩ := h.open hpos
  simp only [Value.slice.injEq, true_and] at he
  obtain ⟨rfl, rfl⟩ := he
  refine ⟨g, 0, ⟨hlo, hcur.lt⟩, rfl, hp g fun i hi => ?_⟩
  have hi' : i < l.length := by simpa using hi
  obtain ⟨cs, hcl, hat, hi2, hq⟩ := hel i hi'
  rw [if_pos hi'] at hq
  refine ⟨cs, hcl, by rw [Nat.zero_add]; exact hat, ?_⟩
  rw [List.getElem_map]
  exact D.mono (fun b o hr => ⟨hr.1.1, hr.1.lt⟩) hq
theorem bnextN {n : Nat} {w W W' : World} (h : Below n w W) (h2 : Below W.heap.size W W') (hn : n ≤ W.heap.size) : Below n w W' := h.trans (h2.mono hn)
def ownM (x : ByteArray × Va) : ByteArray × Va := (x.1, ownX x.2)
theorem take_part {α : Type} (l : List α) (o : Nat) (x : α) (cs : List α) (hx : l[o]? = some x) : l.take (o + 1) ++ cs ++ l.drop (o + 1 + cs.length) = l.take o ++ (x :: cs) ++ l.drop (o + (x :: cs).length) := by
  rw [List.take_add_one, hx]
  simp [Nat.add_assoc, Nat.add_comm 1]
section
attribute [local irreducible] RegT.seqT RegT.seqM wpList
set_option maxRecDepth 100000 in
set_option maxHeartbeats 8000000 in
theorem ownWhat_full (w : World) (R : Nat → Nat → Prop) (s : WV) (x : Pt) (hR : ∀ b o, R b o → b < w.heap.size) (hx : IsWh w R s x) :
    Calls Try.prog 16 #[.agg s.arr] w fun e w' => Below w.heap.size w w' ∧ ∃ t : WV, e = .returned (.agg t.arr) ∧ SameN s t ∧ IsWh w' (fun b _ => w.heap.size ≤ b ∧ b < w'.heap.size) t ⟨ownX x.v, x.vs.map ownX, x.cd, x.nm.map ownM⟩ := by
  obtain ⟨⟨hk0, hk1, hset⟩, hv, hvs, hcd, hnm⟩ := hx.mono (R' := fun b _ => b < w.heap.size) hR
  clear hx hR
  obtain ⟨i53, hi53', hz530, hz53, hz532⟩ := info_parts info53
  obtain ⟨i49, hi49', hz490, hz49, hz492⟩ := info_parts info34
  obtain ⟨i47, hi47', hz470, hz47, hz472⟩ := info_parts info47
  obtain ⟨i51, hi51', hz510, hz51, hz512⟩ := info_parts info51
  obtain ⟨i42, hi42', hz420, hz42, hz422⟩ := info_parts info42
  obtain ⟨i81, hi81', hz810, hz81, hz812⟩ := info_parts info81
  have HI53 := Lib.hid hi53'
  have HI49 := Lib.hid hi49'
  have HI47 := Lib.hid hi47'
  have HI51 := Lib.hid hi51'
  have HI42 := Lib.hid hi42'
  have HI81 := Lib.hid hi81'
  clear hi53' hi49' hi47' hi51' hi42' hi81'
  obtain ⟨n, hn⟩ : ∃ n, n = w.heap.size := ⟨_, rfl⟩
  obtain ⟨W, hW⟩ : ∃ W, W = (w.alloc (.cells s.arr 53)).alloc (.cells #[.int .u8 0, .int .i64 0, .int .u8 0, .int .i64 0, .string ⟨#[]⟩, .slice Option.none 0 0, .int .i64 0, .slice Option.none 0 0, .int .i64 0, .int .i64 0, .int .i64 0, .int .i64 0, .int .u8 0, .bool false, .slice Option.none 0 0, .slice Option.none 0 0] 53) := ⟨_, rfl⟩
  have hB0 : Below n w W := by rw [hW, hn]; exact ((Below.refl _ _).alloc (Nat.le_refl _) _).alloc (by simp) _
  have hWs : W.heap.size = n + 2 := by rw [hW, hn]; simp
  have HQ : Hid (BlkN W n 53 s.arr) := Lib.hid (by rw [hW, hn]; exact (BlkN.at_ rfl _ _).alloc _)
  have HR : Hid (BlkN W (n + 1) 53 WV.zero.arr) := Lib.hid (by rw [hW, hn]; exact BlkN.at_ (by simp) _ _)
  have HB0 := Lib.hid hB0
  have HWS := Lib.hid hWs
  have HVS := Lib.hid hvs
  have HCD := Lib.hid hcd
  have HNM := Lib.hid hnm
  have HSET := Lib.hid (And.intro hk0 (And.intro hk1 hset))
  rw [← hn] at HVS HCD HNM hv
  have C40 : Hid (Calls Try.prog 40 #[.agg #[.int .u8 s.v0, .int .i64 s.v1, .string s.v2, .slice s.vA s.vl s.vc, .int .i64 s.v4]] W fun e w' => ∃ v', e = .returned v' ∧ IsVaR w' (Own34 w' W.heap.size) v' (ownX x.v) ∧ Below W.heap.size W w') := Lib.hid (wown_any W (hv.keep fun b o h => hB0.block b h) (by omega))
  clear hv hvs hcd hnm hB0 hWs hk0 hk1 hset
  have q2 := HQ.out.cell 2 s.at2
  have q3 := HQ.out.cell 3 s.at3
  have q4 := HQ.out.cell 4 s.at4
  have q5 := HQ.out.cell 5 s.at5
  have q6 := HQ.out.cell 6 s.at6
  go_enter Try.func16, Try.ntmps16
  go_upto_region 1 with fail
  rw [← hW, ← hn]
  have HN := Lib.hid hn
  have hnw : n ≤ w.heap.size ∧ w.heap.size ≤ n := by omega
  have hwsz : w.heap.size ≤ W.heap.size := HB0.out.size
  clear hW hn
  go_upto_region 2 with (first
    | (go_at_call 40; refine C40.out.mono ?_; rintro e w1 ⟨v1, rfl, hv1, hb1⟩; obtain ⟨k1, n1, z1, A1, len1, cap1, r1, rfl⟩ := hv1.shape; have HB1 := Lib.hid hb1; have HV1 := Lib.hid hv1; clear hb1 hv1)
    | (refine wpList_store_part rfl 49 (.tmp 10) (.tmp 9) rfl i49 HI49.out n 2 (.agg #[.int .u8 k1, .int .i64 n1, .string z1, .slice A1 len1 cap1, .int .i64 r1]) [.int .u8 k1, .int .i64 n1, .string z1, .slice A1 len1 cap1, .int .i64 r1] rfl rfl rfl 53 s.arr ({ s with v0 := k1, v1 := n1, v2 := z1, vA := A1, vl := len1, vc := cap1, v4 := r1 } : WV).arr (HQ.out.below HB1.out) (by rw [hz49]; rfl) (show _ ≤ 16 by simp) (by intro u hu; simp only [List.mem_cons, List.not_mem_nil, or_false] at hu; rcases hu with rfl | rfl | rfl | rfl | rfl <;> rfl) rfl ?_
       intro w2 hq2 hbut2))
  have hs1 : W.heap.size ≤ w1.heap.size := HB1.out.size
  have hs2 : w2.heap.size ≤ w1.heap.size ∧ w1.heap.size ≤ w2.heap.size := by have := hbut2.size; omega
  have hU2 : Below n w w2 := hbut2.below (Nat.le_refl _) (bnextN HB0.out HB1.out (by omega))
  have hws := HWS.out
  have HU2 := Lib.hid hU2
  have HR2 : Hid (BlkN w2 (n + 1) 53 WV.zero.arr) := Lib.hid ((hbut2.other _ (by omega)).trans (HR.out.below HB1.out))
  obtain ⟨m1, hm1'⟩ : ∃ m1, m1 = w2.heap.size := ⟨_, rfl⟩
  have hm1 : m1 ≤ w2.heap.size ∧ w2.heap.size ≤ m1 := by omega
  have HM1 := Lib.hid hm1'
  clear hm1'
  have hn1 : n + 2 ≤ m1 := by omega
  have HVa : Hid (IsVaR w2 (RR (n + 2) m1) (.agg #[.int .u8 k1, .int .i64 n1, .string z1, .slice A1 len1 cap1, .int .i64 r1]) (ownX x.v)) := Lib.hid ((HV1.out.keep fun b o hr => hbut2.other b (by have := hr.1; omega)).mono fun b o hr => ⟨by have := hr.1; omega, by have := hr.lt; omega⟩)
  have C41 : Calls Try.prog 41 #[.slice s.sA s.sl s.sc] w2 fun e w' => ∃ v', e = .returned v' ∧ NRg 49 5 w' w2.heap.size v' x.vs.length (fun i cs => ∃ hi : i < x.vs.length, RdV.P w' (fun b _ => b < n) cs x.vs[i]) ∧ Below w2.heap.size w2 w' := by
    obtain ⟨g1, g2, g3, g4⟩ := HVS.out
    rw [g1]
    exact Clone41_any x.vs s.sA s.sc w2 n (by omega) g3 g2 fun hne => by
      obtain ⟨b, o, hb, hA, hp⟩ := g4 hne
      exact ⟨b, o, hb, hA, IsVasR.keep (fun b o hb => hU2.block b hb) (hU2.block b hb) hp⟩
  have q7 : w2.cell? ⟨n, 7, Option.none⟩ = some (.slice s.sA s.sl s.sc) := hq2.cell 7 rfl
  have C41 := Lib.hid C41
  have HQ2 := Lib.hid hq2
  clear hq2 hbut2 hU2 HV1 HB1 HR HQ C40 hs1 q2 q3 q4 q5 q6
  go_upto_region 3 with (first
    | (go_at_call 41; refine C41.out.mono ?_; rintro e w3 ⟨v3, rfl, hv3, hb3⟩; obtain ⟨A3, cap3, rfl, hcap3⟩ := hv3.val; have HB3 := Lib.hid hb3; have HV3 := Lib.hid hv3; clear hb3 hv3)
    | (refine wpList_store_part rfl 47 (.tmp 14) (.tmp 13) rfl i47 HI47.out n 7 (.slice A3 x.vs.length cap3) [.slice A3 x.vs.length cap3] rfl rfl rfl 53 _ ({ s with v0 := k1, v1 := n1, v2 := z1, vA := A1, vl := len1, vc := cap1, v4 := r1, sA := A3, sl := x.vs.length, sc := cap3 } : WV).arr (HQ2.out.below HB3.out) (by rw [hz47]; rfl) (show _ ≤ 16 by simp) (by intro u hu; simp only [List.mem_cons, List.not_mem_nil, or_false] at hu; rcases hu with rfl; rfl) rfl ?_
       intro w4 hq4 hbut4))
  have hs3 : w2.heap.size ≤ w3.heap.size := HB3.out.size
  have hs4 : w4.heap.size ≤ w3.heap.size ∧ w3.heap.size ≤ w4.heap.size := by have := hbut4.size; omega
  have HU4 : Hid (Below n w w4) := Lib.hid (hbut4.below (Nat.le_refl _) (bnextN HU2.out HB3.out (by omega)))
  have HR4 : Hid (BlkN w4 (n + 1) 53 WV.zero.arr) := Lib.hid ((hbut4.other _ (by omega)).trans (HR2.out.below HB3.out))
  have HVa4 : Hid (IsVaR w4 (RR (n + 2) m1) (.agg #[.int .u8 k1, .int .i64 n1, .string z1, .slice A1 len1 cap1, .int .i64 r1]) (ownX x.v)) := Lib.hid (HVa.out.keep fun b o hr => (hbut4.other b (by have := hr.1; omega)).trans (HB3.out.block b (by have := hr.2; omega)))
  have HN4 : Hid (NRg 49 5 w4 m1 (.slice A3 x.vs.length cap3) x.vs.length (OwnF RdV ownX w4 m1 n (.slice A3 x.vs.length cap3) x.vs 0)) := by
    have h0 := HV3.out
    rw [← HM1.out] at h0
    exact Lib.hid ((h0.upd hbut4.toUpd (by omega)).imp fun i cs hi ⟨hi', hp⟩ => ⟨hi', by rw [if_neg (by omega)]; exact RdV.keep (fun b o hr => hbut4.other b (by omega)) hp⟩)
  have hm4 : m1 ≤ w4.heap.size := by omega
  have q7 : w4.cell? ⟨n, 7, Option.none⟩ = some (.slice A3 x.vs.length cap3) := hq4.cell 7 rfl
  have HQ4 := Lib.hid hq4
  clear hq4 hbut4 HB3 HV3 HQ2 C41 HVa HR2 HU2 hs3 hs4 hs2
  go_wp2_with fail
  go_loopw [18] (fun i wr => ∃ j : Nat, j ≤ x.vs.length ∧ i = .int .i64 j ∧ NRg 49 5 wr m1 (.slice A3 x.vs.length cap3) x.vs.length (OwnF RdV ownX wr m1 n (.slice A3 x.vs.length cap3) x.vs j) ∧ Below n w wr ∧ BlkN wr n 53 ({ s with v0 := k1, v1 := n1, v2 := z1, vA := A1, vl := len1, vc := cap1, v4 := r1, sA := A3, sl := x.vs.length, sc := cap3 } : WV).arr ∧ BlkN wr (n + 1) 53 WV.zero.arr ∧ m1 ≤ wr.heap.size ∧ IsVaR wr (RR (n + 2) m1) (.agg #[.int .u8 k1, .int .i64 n1, .string z1, .slice A1 len1 cap1, .int .i64 r1]) (ownX x.v)) (fun i _ => x.vs.length - (intOf i).toNat)
  case atStart => exact ⟨0, by omega, rfl, HN4.out, HU4.out, HQ4.out, HR4.out, hm4, HVa4.out⟩
  case round =>
    obtain ⟨j, hj, rfl, hv, hu, hbq, hbr, hmr, hva⟩ := hrel
    clear HN4 HU4 HQ4 HR4 hm4 HVa4 q7
    have HV := Lib.hid hv
    have HU := Lib.hid hu
    have HQ := Lib.hid hbq
    have HR := Lib.hid hbr
    have HVa := Lib.hid hva
    have hus := hu.size
    have hlen : x.vs.length ≤ 140737488351232 := by have := HVS.out.2.2.1; omega
    by_cases hlt : j < x.vs.length
    · obtain ⟨g, cap', cur, he, hlo, hcur, hcapc, hcs, hel⟩ := hv.open (by omega)
      simp only [Value.slice.injEq] at he
      obtain ⟨rfl, _, rfl⟩ := he
      obtain ⟨cs, hcl, hat, hi', hp⟩ := hel j hlt
      rw [if_neg (by omega)] at hp
      obtain ⟨c0, c1, c2, c3, c4, rfl, hx⟩ := hp
      obtain ⟨k', n', s', A', len', cap'', r', hsh⟩ := hx.shape
      simp only [Value.agg.injEq, Array.mk.injEq, List.cons.injEq, and_true] at hsh
      obtain ⟨rfl, rfl, rfl, rfl, rfl⟩ := hsh
      have e0 := hat 0 _ rfl
      have e1 := hat 1 _ rfl
      have e2 := hat 2 _ rfl
      have e3 := hat 3 _ rfl
      have e4 := hat 4 _ rfl
      rw [Nat.add_zero] at e0
      have hcu : x.vs.length * 5 ≤ cur.size := by rw [hcs]; exact Nat.mul_le_mul_right 5 hcapc
      have hgl := hcur.lt
      have hB2 : n ≤ wr.heap.size := by omega
      have C40 := Lib.hid (fun w' (hb : Below wr.heap.size wr w') => wown_any (B := n) w' (hx.keep fun b o hb' => hb.block b (Nat.lt_of_lt_of_le hb' hB2)) (Nat.le_trans hB2 hb.size))
      have HCU := Lib.hid hcur
      clear hv hu hel hat hx hcur hbq hbr hva
      go_upto_region 6 with (fail)
      obtain ⟨w1, hw1⟩ : ∃ w1, w1 = wr.alloc (.cells #[.int .u8 k', .int .i64 n', .string s', .slice A' len' cap'', .int .i64 r'] 49) := ⟨_, rfl⟩
      rw [← hw1]
      have hb1 : Below wr.heap.size wr w1 := by rw [hw1]; exact (Below.refl _ _).alloc (Nat.le_refl _) _
      have hbp : BlkN w1 wr.heap.size 49 #[.int .u8 k', .int .i64 n', .string s', .slice A' len' cap'', .int .i64 r'] := by rw [hw1]; exact BlkN.at_ rfl _ _
      have HB1 := Lib.hid hb1
      have HBP := Lib.hid hbp
      have HC1 := Lib.hid (HQ.out.below hb1)
      have hs1 := hb1.size
      clear hw1 hb1 hbp e0 e1 e2 e3 e4
      refine RegT.region_mix (fun i => Nat.ble i 4) (fun W => BlkN W n 53 ({ s with v0 := k1, v1 := n1, v2 := z1, vA := A1, vl := len1, vc := cap1, v4 := r1, sA := (some ⟨g, 0, Option.none⟩), sl := x.vs.length, sc := cap3 } : WV).arr ∧ BlkN W wr.heap.size 49 #[.int .u8 k', .int .i64 n', .string s', .slice A' len' cap'', .int .i64 r']) [(true, 0), (true, 1), (true, 2), (true, 3), (false, 4), (false, 5), (false, 6)] rfl (by kernel_rfl) (by kernel_rfl) (by decide) ?_
      have hS0 : BlkN w1.drew n 53 ({ s with v0 := k1, v1 := n1, v2 := z1, vA := A1, vl := len1, vc := cap1, v4 := r1, sA := (some ⟨g, 0, Option.none⟩), sl := x.vs.length, sc := cap3 } : WV).arr ∧ BlkN w1.drew wr.heap.size 49 #[.int .u8 k', .int .i64 n', .string s', .slice A' len' cap'', .int .i64 r'] := ⟨HC1.out, HBP.out⟩
      refine RegT.seqM_quiet hS0 rfl (fun _ _ _ h => h) (by kernel_rfl) (v := .pointer (some ⟨n, 7, Option.none⟩)) (fun w' hS => ?_) ?_
      · go_simp
      refine RegT.seqM_quiet hS0 rfl (fun _ _ _ h => h) (by kernel_rfl) (v := .slice (some ⟨g, 0, Option.none⟩) x.vs.length cap3) (fun w' hS => ?_) ?_
      · have t3 : w'.cell? ⟨n, 7, Option.none⟩ = some (.slice (some ⟨g, 0, Option.none⟩) x.vs.length cap3) := hS.1.cell 7 rfl; go_simp
      refine RegT.seqM_quiet hS0 rfl (fun _ _ _ h => h) (by kernel_rfl) (v := .int .i64 j) (fun w' hS => ?_) ?_
      · go_simp
      refine RegT.seqM_quiet hS0 rfl (fun _ _ _ h => h) (by kernel_rfl) (v := .agg #[.int .u8 k', .int .i64 n', .string s', .slice A' len' cap'', .int .i64 r']) (fun w' hS => ?_) ?_
      · have t0 := hS.2.cell 0 rfl; have t1 := hS.2.cell 1 rfl; have t2 := hS.2.cell 2 rfl; have t3 := hS.2.cell 3 rfl; have t4 := hS.2.cell 4 rfl; go_simp
      refine RegT.seqM_held rfl ?_
      have HD : Hid (Below wr.heap.size wr w1.drew) := Lib.hid HB1.out.drew
      go_wp2_with (go_at_call 40; refine (C40.out _ HD.out).mono ?_; rintro e w3 ⟨v3, rfl, hx3, hb3⟩; obtain ⟨k2, n2, s2, A2, len2, cap2, r2, rfl⟩ := hx3.shape)
      have hb13 : Below wr.heap.size wr w3 := bnext HD.out hb3
      have hs3 := hb13.size
      have hgc : BlkN w3 g 49 cur := HCU.out.below hb13
      have hg3 := hgc.lt
      have hX3 : IsVaR w3 (Own34 w3 wr.heap.size) (.agg #[.int .u8 k2, .int .i64 n2, .string s2, .slice A2 len2 cap2, .int .i64 r2]) (ownX x.vs[j]) := hx3.low hs1
      have HX3 := Lib.hid hX3
      have HB13 := Lib.hid hb13
      have HGC := Lib.hid hgc
      refine ⟨⟨HQ.out.below hb13, (HBP.out.below (Below.refl _ _).drew).below hb3⟩, RegT.seqM_free rfl rfl ?_⟩
      clear hx3 hb3 hX3 hb13 hgc hS0 HCU HC1 HBP HB1 HD
      go_wp2_with fail
      refine RegT.seqM_free rfl rfl ?_
      refine wpList_store_part rfl 49 (.tmp 28) (.tmp 27) rfl i49 HI49.out g (j * 5) (.agg #[.int .u8 k2, .int .i64 n2, .string s2, .slice A2 len2 cap2, .int .i64 r2]) [.int .u8 k2, .int .i64 n2, .string s2, .slice A2 len2 cap2, .int .i64 r2] rfl rfl rfl 49 cur (cur.toList.take (j * 5) ++ ([.int .u8 k2, .int .i64 n2, .string s2, .slice A2 len2 cap2, .int .i64 r2] : List Value) ++ cur.toList.drop (j * 5 + 5)).toArray HGC.out (by rw [hz49]; rfl) (show j * 5 + 5 ≤ cur.size by omega) (by intro u hu; simp only [List.mem_cons, List.not_mem_nil, or_false] at hu; rcases hu with rfl | rfl | rfl | rfl | rfl <;> rfl) rfl ?_
      intro w4 hB4 hbut
      have hgB : n ≤ g := by omega
      have hV4 : NRg 49 5 w4 m1 (.slice (some ⟨g, 0, Option.none⟩) x.vs.length cap3) x.vs.length (OwnF RdV ownX w4 m1 n (.slice (some ⟨g, 0, Option.none⟩) x.vs.length cap3) x.vs (j + 1)) := by
        refine NRg.store ((HV.out.below HB13.out).imp fun i cs hi hp => hp.below hB2 HB13.out) j hlt rfl HGC.out hB4 rfl (fun i ds hij hi hp => (hp.but rfl hgB hbut).next hij) ⟨hlt, ?_⟩
        rw [if_pos (by omega)]
        refine ⟨_, _, _, _, _, rfl, ?_⟩
        exact (HX3.out.keep fun b o hr => hbut.other b (by have := hr.1; omega)).mono fun b o hr => ⟨⟨by have := hr.1; omega, let ⟨cur, hc⟩ := hr.2.2; ⟨cur, 49, (hbut.other b (by have := hr.1; omega)).trans hc⟩⟩, fun e => by have := hr.1; simp [Value.ownBlock] at e; omega⟩
      have HV4 := Lib.hid hV4
      have HU4 := Lib.hid (hbut.below (show n ≤ g by omega) (bnextN HU.out HB13.out (by omega)))
      have HQ4 := Lib.hid ((hbut.other n (by omega)).trans (HQ.out.below HB13.out))
      have HR4 := Lib.hid ((hbut.other (n + 1) (by omega)).trans (HR.out.below HB13.out))
      have hm4 : m1 ≤ w4.heap.size := by have := hbut.size; omega
      have HVa4 : Hid (IsVaR w4 (RR (n + 2) m1) (.agg #[.int .u8 k1, .int .i64 n1, .string z1, .slice A1 len1 cap1, .int .i64 r1]) (ownX x.v)) := Lib.hid (HVa.out.keep fun b o hr => (hbut.other b (by have := hr.2; omega)).trans (HB13.out.block b (by have := hr.2; omega)))
      refine RegT.wpList_end (RegT.seqM_end ?_)
      simp only [RegT.NP]
      clear hV4 hbut hB4 HX3 HB13 HGC hg3 hs3 hs1 C40
      go_wp2_with fail
      go_roundw
      case rel => exact ⟨j + 1, by omega, by go_num, HV4.out, HU4.out, HQ4.out, HR4.out, hm4, HVa4.out⟩
      case measure => simp [intOf]; omega
    · obtain rfl : j = x.vs.length := by omega
      have hrow := OwnF.row (bz := 64) (p := fun b o => IsVasR wr (RR m1 wr.heap.size) b o (x.vs.map ownX)) hv HVS.out.2.2.1 fun b h => RdV.list h
      obtain ⟨w5, hw5⟩ : ∃ w5, w5 = wr := ⟨_, rfl⟩
      obtain ⟨m2, hm2'⟩ : ∃ m2, m2 = w5.heap.size := ⟨_, rfl⟩
      have hm2 : m2 ≤ w5.heap.size ∧ w5.heap.size ≤ m2 := by omega
      have HM2 := Lib.hid hm2'
      clear hm2'
      rw [← hw5] at HU HQ HR HVa hrow hmr hus hbq hu hbr ⊢
      rw [← HM2.out] at hrow hmr hus
      have HL := Lib.hid hrow
      have C42 : Calls Try.prog 42 #[.slice s.nA s.nl s.nc] w5 fun e w' => ∃ v', e = .returned v' ∧ NRg 81 6 w' w5.heap.size v' x.nm.length (fun i cs => ∃ hi : i < x.nm.length, RdM.P w' (fun b _ => b < n) cs x.nm[i]) ∧ Below w5.heap.size w5 w' := by
        obtain ⟨g1, g2, g3, g4⟩ := HNM.out
        rw [g1]
        exact Clone42_any x.nm s.nA s.nc w5 n (by omega) g3 g2 fun hne => by
          obtain ⟨b, o, hb, hA, hp⟩ := g4 hne
          exact ⟨b, o, hb, hA, hp.keep (fun b o hb => hu.block b hb) (hu.block b hb)⟩
      have q15 : w5.cell? ⟨n, 15, Option.none⟩ = some (.slice s.nA s.nl s.nc) := hbq.cell 15 rfl
      have C42 := Lib.hid C42
      clear hrow hv hu hbq hbr hva HV hw5
      go_upto_region 9 with (first
        | (go_at_call 42; refine C42.out.mono ?_; rintro e w6 ⟨v6, rfl, hv6, hb6⟩; obtain ⟨A6, cap6, rfl, hcap6⟩ := hv6.val; have HB6 := Lib.hid hb6; have HV6 := Lib.hid hv6; clear hb6 hv6)
        | (refine wpList_store_part rfl 51 (.tmp 33) (.tmp 32) rfl i51 HI51.out n 15 (.slice A6 x.nm.length cap6) [.slice A6 x.nm.length cap6] rfl rfl rfl 53 _ ({ s with v0 := k1, v1 := n1, v2 := z1, vA := A1, vl := len1, vc := cap1, v4 := r1, sA := A3, sl := x.vs.length, sc := cap3, nA := A6, nl := x.nm.length, nc := cap6 } : WV).arr (HQ.out.below HB6.out) (by rw [hz51]; rfl) (show _ ≤ 16 by simp) (by intro u hu; simp only [List.mem_cons, List.not_mem_nil, or_false] at hu; rcases hu with rfl; rfl) rfl ?_
           intro w7 hq7 hbut7))
      have hs6 : w5.heap.size ≤ w6.heap.size := HB6.out.size
      have hs7 : w7.heap.size ≤ w6.heap.size ∧ w6.heap.size ≤ w7.heap.size := by have := hbut7.size; omega
      have HU7 : Hid (Below n w w7) := Lib.hid (hbut7.below (Nat.le_refl _) (bnextN HU.out HB6.out (by omega)))
      have HR7 : Hid (BlkN w7 (n + 1) 53 WV.zero.arr) := Lib.hid ((hbut7.other _ (by omega)).trans (HR.out.below HB6.out))
      have hk57 : ∀ b, b ≠ n → b < m2 → w7.heap[b]? = w5.heap[b]? := fun b h1 h2 => (hbut7.other b h1).trans (HB6.out.block b (by omega))
      have HVa7 : Hid (IsVaR w7 (RR (n + 2) m1) (.agg #[.int .u8 k1, .int .i64 n1, .string z1, .slice A1 len1 cap1, .int .i64 r1]) (ownX x.v)) := Lib.hid (HVa.out.keep fun b o hr => hk57 b (by have := hr.1; omega) (by have := hr.2; omega))
      have HL7 : Hid (LR (RR m1 m2) 64 A3 x.vs.length cap3 (x.vs.map ownX) (fun b o => IsVasR w7 (RR m1 m2) b o (x.vs.map ownX))) := Lib.hid (HL.out.imp fun b o hr hp => ⟨hr, IsVasR.keep (fun b o hr => hk57 b (by have := hr.1; omega) hr.2) (hk57 b (by have := hr.1; omega) hr.2) hp⟩)
      have HN7 : Hid (NRg 81 6 w7 m2 (.slice A6 x.nm.length cap6) x.nm.length (OwnF RdM ownM w7 m2 n (.slice A6 x.nm.length cap6) x.nm 0)) := by
        have h0 := HV6.out
        rw [← HM2.out] at h0
        exact Lib.hid ((h0.upd hbut7.toUpd (by omega)).imp fun i cs hi ⟨hi', hp⟩ => ⟨hi', by rw [if_neg (by omega)]; exact RdM.keep (fun b o hr => hbut7.other b (by omega)) hp⟩)
      have hm7 : m2 ≤ w7.heap.size := by omega
      have q15 : w7.cell? ⟨n, 15, Option.none⟩ = some (.slice A6 x.nm.length cap6) := hq7.cell 15 rfl
      have HQ7 := Lib.hid hq7
      clear hq7 hbut7 HB6 HV6 HQ C42 HVa HR HU hs6 hs7 hk57 HL
      go_wp2_with fail
      go_loopw [37] (fun i wr => ∃ j : Nat, j ≤ x.nm.length ∧ i = .int .i64 j ∧ NRg 81 6 wr m2 (.slice A6 x.nm.length cap6) x.nm.length (OwnF RdM ownM wr m2 n (.slice A6 x.nm.length cap6) x.nm j) ∧ Below n w wr ∧ BlkN wr n 53 ({ s with v0 := k1, v1 := n1, v2 := z1, vA := A1, vl := len1, vc := cap1, v4 := r1, sA := A3, sl := x.vs.length, sc := cap3, nA := A6, nl := x.nm.length, nc := cap6 } : WV).arr ∧ BlkN wr (n + 1) 53 WV.zero.arr ∧ m2 ≤ wr.heap.size ∧ IsVaR wr (RR (n + 2) m1) (.agg #[.int .u8 k1, .int .i64 n1, .string z1, .slice A1 len1 cap1, .int .i64 r1]) (ownX x.v) ∧ LR (RR m1 m2) 64 A3 x.vs.length cap3 (x.vs.map ownX) (fun b o => IsVasR wr (RR m1 m2) b o (x.vs.map ownX))) (fun i _ => x.nm.length - (intOf i).toNat)
      case atStart => exact ⟨0, by omega, rfl, HN7.out, HU7.out, HQ7.out, HR7.out, hm7, HVa7.out, HL7.out⟩
      case round =>
        obtain ⟨j, hj, rfl, hv, hu, hbq, hbr, hmr2, hva, hlr⟩ := hrel
        clear HN7 HU7 HQ7 HR7 hm7 HVa7 HL7 q15
        have HV := Lib.hid hv
        have HU := Lib.hid hu
        have HQ := Lib.hid hbq
        have HR := Lib.hid hbr
        have HVa := Lib.hid hva
        have HL := Lib.hid hlr
        have hus2 := hu.size
        have hlen2 : x.nm.length ≤ 140737488351232 := by have := HNM.out.2.2.1; omega
        by_cases hlt : j < x.nm.length
        · obtain ⟨g, cap', cur, he, hlo, hcur, hcapc, hcs, hel⟩ := hv.open (by omega)
          simp only [Value.slice.injEq] at he
          obtain ⟨rfl, _, rfl⟩ := he
          obtain ⟨cs, hcl, hat, hi', hp⟩ := hel j hlt
          rw [if_neg (by omega)] at hp
          obtain ⟨c0, c1, c2, c3, c4, rfl, hnz, hx⟩ := hp
          obtain ⟨k', n', s', A', len', cap'', r', hsh⟩ := hx.shape
          simp only [Value.agg.injEq, Array.mk.injEq, List.cons.injEq, and_true] at hsh
          obtain ⟨rfl, rfl, rfl, rfl, rfl⟩ := hsh
          obtain ⟨nmj, hnmj⟩ : ∃ z, z = x.nm[j].1 := ⟨_, rfl⟩
          rw [← hnmj] at hat hnz
          have HNMJ := Lib.hid hnmj
          clear hnmj
          have e0 := hat 0 _ rfl
          have e1 := hat 1 _ rfl
          have e2 := hat 2 _ rfl
          have e3 := hat 3 _ rfl
          have e4 := hat 4 _ rfl
          have e5 := hat 5 _ rfl
          rw [Nat.add_zero] at e0
          have hcu : x.nm.length * 6 ≤ cur.size := by rw [hcs]; exact Nat.mul_le_mul_right 6 hcapc
          have hgl := hcur.lt
          have hB2 : n ≤ wr.heap.size := by omega
          have C40 := Lib.hid (fun w' (hb : Below wr.heap.size wr w') => wown_any (B := n) w' (hx.keep fun b o hb' => hb.block b (Nat.lt_of_lt_of_le hb' hB2)) (Nat.le_trans hB2 hb.size))
          have HCU := Lib.hid hcur
          have hcj : cur.toList[j * 6]? = some (.string nmj) := by
            have := e0
            rw [hcur.cell_eq] at this
            simpa using this
          clear hv hu hel hat hx hcur hbq hbr hva hlr
          go_upto_region 12 with (fail)
          obtain ⟨w1, hw1⟩ : ∃ w1, w1 = wr.alloc (.cells #[.string nmj, .int .u8 k', .int .i64 n', .string s', .slice A' len' cap'', .int .i64 r'] 81) := ⟨_, rfl⟩
          rw [← hw1]
          have hb1 : Below wr.heap.size wr w1 := by rw [hw1]; exact (Below.refl _ _).alloc (Nat.le_refl _) _
          have hbp : BlkN w1 wr.heap.size 81 #[.string nmj, .int .u8 k', .int .i64 n', .string s', .slice A' len' cap'', .int .i64 r'] := by rw [hw1]; exact BlkN.at_ rfl _ _
          have HB1 := Lib.hid hb1
          have HBP := Lib.hid hbp
          have HC1 := Lib.hid (HQ.out.below hb1)
          have hs1 := hb1.size
          clear hw1 hb1 hbp e0 e1 e2 e3 e4 e5
          refine RegT.region_mix (fun i => Nat.ble i 5) (fun W => BlkN W n 53 ({ s with v0 := k1, v1 := n1, v2 := z1, vA := A1, vl := len1, vc := cap1, v4 := r1, sA := A3, sl := x.vs.length, sc := cap3, nA := (some ⟨g, 0, Option.none⟩), nl := x.nm.length, nc := cap6 } : WV).arr ∧ BlkN W wr.heap.size 81 #[.string nmj, .int .u8 k', .int .i64 n', .string s', .slice A' len' cap'', .int .i64 r']) [(true, 0), (true, 1), (true, 2), (true, 3), (true, 4), (false, 5), (false, 6), (false, 7), (false, 8)] rfl (by kernel_rfl) (by kernel_rfl) (by decide) ?_
          have hS0 : BlkN w1.drew n 53 ({ s with v0 := k1, v1 := n1, v2 := z1, vA := A1, vl := len1, vc := cap1, v4 := r1, sA := A3, sl := x.vs.length, sc := cap3, nA := (some ⟨g, 0, Option.none⟩), nl := x.nm.length, nc := cap6 } : WV).arr ∧ BlkN w1.drew wr.heap.size 81 #[.string nmj, .int .u8 k', .int .i64 n', .string s', .slice A' len' cap'', .int .i64 r'] := ⟨HC1.out, HBP.out⟩
          refine RegT.seqM_quiet hS0 rfl (fun _ _ _ h => h) (by kernel_rfl) (v := .pointer (some ⟨n, 15, Option.none⟩)) (fun w' hS => ?_) ?_
          · go_simp
          refine RegT.seqM_quiet hS0 rfl (fun _ _ _ h => h) (by kernel_rfl) (v := .slice (some ⟨g, 0, Option.none⟩) x.nm.length cap6) (fun w' hS => ?_) ?_
          · have t3 : w'.cell? ⟨n, 15, Option.none⟩ = some (.slice (some ⟨g, 0, Option.none⟩) x.nm.length cap6) := hS.1.cell 15 rfl; go_simp
          refine RegT.seqM_quiet hS0 rfl (fun _ _ _ h => h) (by kernel_rfl) (v := .int .i64 j) (fun w' hS => ?_) ?_
          · go_simp
          refine RegT.seqM_quiet hS0 rfl (fun _ _ _ h => h) (by kernel_rfl) (v := .pointer (some ⟨wr.heap.size, 1, Option.none⟩)) (fun w' hS => ?_) ?_
          · go_simp
          refine RegT.seqM_quiet hS0 rfl (fun _ _ _ h => h) (by kernel_rfl) (v := .agg #[.int .u8 k', .int .i64 n', .string s', .slice A' len' cap'', .int .i64 r']) (fun w' hS => ?_) ?_
          · have t1 := hS.2.cell 1 rfl; have t2 := hS.2.cell 2 rfl; have t3 := hS.2.cell 3 rfl; have t4 := hS.2.cell 4 rfl; have t5 := hS.2.cell 5 rfl; go_simp
          refine RegT.seqM_held rfl ?_
          have HD : Hid (Below wr.heap.size wr w1.drew) := Lib.hid HB1.out.drew
          go_wp2_with (go_at_call 40; refine (C40.out _ HD.out).mono ?_; rintro e w3 ⟨v3, rfl, hx3, hb3⟩; obtain ⟨k2, n2, s2, A2, len2, cap2, r2, rfl⟩ := hx3.shape)
          have hb13 : Below wr.heap.size wr w3 := bnext HD.out hb3
          have hs3 := hb13.size
          have hgc : BlkN w3 g 81 cur := HCU.out.below hb13
          have hg3 := hgc.lt
          have hX3 : IsVaR w3 (Own34 w3 wr.heap.size) (.agg #[.int .u8 k2, .int .i64 n2, .string s2, .slice A2 len2 cap2, .int .i64 r2]) (ownX x.nm[j].2) := hx3.low hs1
          have HX3 := Lib.hid hX3
          have HB13 := Lib.hid hb13
          have HGC := Lib.hid hgc
          refine ⟨⟨HQ.out.below hb13, (HBP.out.below (Below.refl _ _).drew).below hb3⟩, RegT.seqM_free rfl rfl ?_⟩
          clear hx3 hb3 hX3 hb13 hgc hS0 HCU HC1 HBP HB1 HD
          go_wp2_with fail
          refine RegT.seqM_free rfl rfl ?_
          go_wp2_with fail
          refine RegT.seqM_free rfl rfl ?_
          refine wpList_store_part rfl 49 (.tmp 49) (.tmp 47) rfl i49 HI49.out g (j * 6 + 1) (.agg #[.int .u8 k2, .int .i64 n2, .string s2, .slice A2 len2 cap2, .int .i64 r2]) [.int .u8 k2, .int .i64 n2, .string s2, .slice A2 len2 cap2, .int .i64 r2] rfl rfl rfl 81 cur (cur.toList.take (j * 6) ++ ([.string nmj, .int .u8 k2, .int .i64 n2, .string s2, .slice A2 len2 cap2, .int .i64 r2] : List Value) ++ cur.toList.drop (j * 6 + 6)).toArray HGC.out (by rw [hz49]; rfl) (show j * 6 + 1 + 5 ≤ cur.size by omega) (by intro u hu; simp only [List.mem_cons, List.not_mem_nil, or_false] at hu; rcases hu with rfl | rfl | rfl | rfl | rfl <;> rfl) (take_part _ _ _ _ hcj) ?_
          intro w4 hB4 hbut
          have hgB : n ≤ g := by omega
          have hV4 : NRg 81 6 w4 m2 (.slice (some ⟨g, 0, Option.none⟩) x.nm.length cap6) x.nm.length (OwnF RdM ownM w4 m2 n (.slice (some ⟨g, 0, Option.none⟩) x.nm.length cap6) x.nm (j + 1)) := by
            refine NRg.store ((HV.out.below HB13.out).imp fun i cs hi hp => hp.below hB2 HB13.out) j hlt rfl HGC.out hB4 rfl (fun i ds hij hi hp => (hp.but rfl hgB hbut).next hij) ⟨hlt, ?_⟩
            rw [if_pos (by omega)]
            refine ⟨_, _, _, _, _, by rw [HNMJ.out]; rfl, (by show x.nm[j].1.size ≤ _; rw [← HNMJ.out]; exact hnz), ?_⟩
            exact (HX3.out.keep fun b o hr => hbut.other b (by have := hr.1; omega)).mono fun b o hr => ⟨⟨by have := hr.1; omega, let ⟨cur, hc⟩ := hr.2.2; ⟨cur, 49, (hbut.other b (by have := hr.1; omega)).trans hc⟩⟩, fun e => by have := hr.1; simp [Value.ownBlock] at e; omega⟩
          have HV4 := Lib.hid hV4
          have HU4 := Lib.hid (hbut.below (show n ≤ g by omega) (bnextN HU.out HB13.out (by omega)))
          have HQ4 := Lib.hid ((hbut.other n (by omega)).trans (HQ.out.below HB13.out))
          have HR4 := Lib.hid ((hbut.other (n + 1) (by omega)).trans (HR.out.below HB13.out))
          have hm4 : m2 ≤ w4.heap.size := by have := hbut.size; omega
          have hk4 : ∀ b, b < m2 → w4.heap[b]? = wr.heap[b]? := fun b h2 => (hbut.other b (by omega)).trans (HB13.out.block b (by omega))
          have HVa4 : Hid (IsVaR w4 (RR (n + 2) m1) (.agg #[.int .u8 k1, .int .i64 n1, .string z1, .slice A1 len1 cap1, .int .i64 r1]) (ownX x.v)) := Lib.hid (HVa.out.keep fun b o hr => hk4 b (by have := hr.2; omega))
          have HL4 : Hid (LR (RR m1 m2) 64 A3 x.vs.length cap3 (x.vs.map ownX) (fun b o => IsVasR w4 (RR m1 m2) b o (x.vs.map ownX))) := Lib.hid (HL.out.imp fun b o hr hp => ⟨hr, IsVasR.keep (fun b o hr => hk4 b hr.2) (hk4 b hr.2) hp⟩)
          refine RegT.wpList_end (RegT.seqM_end ?_)
          simp only [RegT.NP]
          clear hV4 hbut hB4 HX3 HB13 HGC hg3 hs3 hs1 C40 hk4
          go_wp2_with fail
          go_roundw
          case rel => exact ⟨j + 1, by omega, by go_num, HV4.out, HU4.out, HQ4.out, HR4.out, hm4, HVa4.out, HL4.out⟩
          case measure => simp [intOf]; omega
        · obtain rfl : j = x.nm.length := by omega
          have hrow := OwnF.row (bz := 80) (p := fun b o => IsNmsR wr (RR m2 wr.heap.size) b o (x.nm.map ownM)) hv HNM.out.2.2.1 fun b h => RdM.list h
          obtain ⟨w8, hw8⟩ : ∃ w8, w8 = wr := ⟨_, rfl⟩
          obtain ⟨m3, hm3'⟩ : ∃ m3, m3 = w8.heap.size := ⟨_, rfl⟩
          have hm3 : m3 ≤ w8.heap.size ∧ w8.heap.size ≤ m3 := by omega
          have HM3 := Lib.hid hm3'
          clear hm3'
          rw [← hw8] at HU HQ HR HVa hrow hmr2 hus2 hbq hu hbr HL ⊢
          rw [← HM3.out] at hrow hmr2 hus2
          have HM := Lib.hid hrow
          have hcd' : LR (fun b _ => b < n) 256 s.cA s.cl s.cc x.cd (fun b o => IsSts w8 n b o x.cd) := HCD.out.imp fun b o hb hp => ⟨hb, IsStsR.keep (fun b o hb => hu.block b hb) (hu.block b hb) hp⟩
          have C43 := Lib.hid (ownCode_any x.cd w8 n s.cA s.cl s.cc hcd' (by omega))
          have q14 : w8.cell? ⟨n, 14, Option.none⟩ = some (.slice s.cA s.cl s.cc) := hbq.cell 14 rfl
          clear hrow hv hu hbq hbr hva hlr HV hw8 hcd'
          go_upto_region 15 with (first
            | (go_at_call 43; refine C43.out.mono ?_; rintro e w9 ⟨A9, cap9, rfl, hv9, hb9⟩; have HB9 := Lib.hid hb9; have HV9 := Lib.hid hv9; clear hb9 hv9)
            | (refine wpList_store_part rfl 50 (.tmp 54) (.tmp 53) rfl i42 HI42.out n 14 (.slice A9 x.cd.length cap9) [.slice A9 x.cd.length cap9] rfl rfl rfl 53 _ ({ s with v0 := k1, v1 := n1, v2 := z1, vA := A1, vl := len1, vc := cap1, v4 := r1, sA := A3, sl := x.vs.length, sc := cap3, nA := A6, nl := x.nm.length, nc := cap6, cA := A9, cl := x.cd.length, cc := cap9 } : WV).arr (HQ.out.below HB9.out) (by rw [hz42]; rfl) (show _ ≤ 16 by simp) (by intro u hu; simp only [List.mem_cons, List.not_mem_nil, or_false] at hu; rcases hu with rfl; rfl) rfl ?_
               intro w10 hq10 hbut10))
          have hs9 : w8.heap.size ≤ w9.heap.size := HB9.out.size
          have hs10 : w10.heap.size ≤ w9.heap.size ∧ w9.heap.size ≤ w10.heap.size := by have := hbut10.size; omega
          have hU10 : Below n w w10 := hbut10.below (Nat.le_refl _) (bnextN HU.out HB9.out (by omega))
          have hR10 : BlkN w10 (n + 1) 53 WV.zero.arr := (hbut10.other _ (by omega)).trans (HR.out.below HB9.out)
          refine wp_region_lit ?_
          refine wpList_load_blk rfl 53 (.tmp 1) rfl ⟨n, 0, Option.none⟩ rfl (.agg ({ s with v0 := k1, v1 := n1, v2 := z1, vA := A1, vl := len1, vc := cap1, v4 := r1, sA := A3, sl := x.vs.length, sc := cap3, nA := A6, nl := x.nm.length, nc := cap6, cA := A9, cl := x.cd.length, cc := cap9 } : WV).arr) (run_loadVar_blk Try.underlying53 HI53.out hq10 (by rw [hz53]; rfl)) ?_
          refine wpList_store_blk rfl 53 (.tmp 2) (.tmp 55) rfl i53 HI53.out (n + 1) ({ s with v0 := k1, v1 := n1, v2 := z1, vA := A1, vl := len1, vc := cap1, v4 := r1, sA := A3, sl := x.vs.length, sc := cap3, nA := A6, nl := x.nm.length, nc := cap6, cA := A9, cl := x.cd.length, cc := cap9 } : WV).arr rfl rfl 53 _ hR10 (by rw [hz53]; rfl) rfl (WV.one _) ?_
          intro w11 hq11 hbut11
          have hs11 : w11.heap.size ≤ w10.heap.size ∧ w10.heap.size ≤ w11.heap.size := by have := hbut11.size; omega
          have hk : ∀ b, n + 2 ≤ b → b < w9.heap.size → w11.heap[b]? = w9.heap[b]? := fun b h1 _ => (hbut11.other b (by omega)).trans (hbut10.other b (by omega))
          have hk8 : ∀ b, n + 2 ≤ b → b < m3 → w11.heap[b]? = w8.heap[b]? := fun b h1 h2 => (hk b h1 (by omega)).trans (HB9.out.block b (by omega))
          go_wp2_with fail
          refine bodyPost_ret (results_cell1 (s := 2) (b := n + 1) rfl Try.underlying53 HI53.out rfl hq11 (by rw [hz53]; rfl)) rfl ⟨?_, _, rfl, ⟨rfl, rfl, rfl, rfl, rfl, rfl, rfl, rfl⟩, HSET.out, ?_, ?_, ?_, ?_⟩
          · rw [← HN.out]; exact hbut11.below (by omega) hU10
          · exact (HVa.out.keep fun b o hr => hk8 b hr.1 (by have := hr.2; omega)).mono fun b o hr => ⟨by have := hr.1; omega, by have := hr.2; omega⟩
          · exact HL.out.imp fun b o hr hp => ⟨⟨by have := hr.1; omega, by have := hr.2; omega⟩, IsVasR.mono (fun b o hr => ⟨by have := hr.1; omega, by have := hr.2; omega⟩) (IsVasR.keep (fun b o hr => hk8 b (by have := hr.1; omega) (by have := hr.2; omega)) (hk8 b (by have := hr.1; omega) (by have := hr.2; omega)) hp)⟩
          · exact HV9.out.imp fun b o hr hp => ⟨⟨by have := hr.1; omega, by have := hr.lt; omega⟩, IsStsR.mono (fun b o hr => ⟨by have := hr.1; omega, by have := hr.lt; omega⟩) (IsStsR.keep (fun b o hr => hk b (by have := hr.1; omega) hr.lt) (hk b (by have := hr.1; omega) hr.lt) hp)⟩
          · exact HM.out.imp fun b o hr hp => ⟨⟨by have := hr.1; omega, by have := hr.2; omega⟩, (hp.keep (fun b o hr => hk8 b (by have := hr.1; omega) (by have := hr.2; omega)) (hk8 b (by have := hr.1; omega) (by have := hr.2; omega))).mono fun b o hr => ⟨by have := hr.1; omega, by have := hr.2; omega⟩⟩
theorem ownWhat_any : OwnWhatC := fun w R s x hR hx => (ownWhat_full w R s x hR hx).mono fun _e _w' ⟨hb, t, he, hs, hw⟩ => ⟨hb, t, _, he, hs, hw⟩
end
end Go.Proofs.Ythafojadcodkoaa
