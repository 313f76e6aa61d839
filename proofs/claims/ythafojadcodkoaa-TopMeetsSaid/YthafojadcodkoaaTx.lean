/- little, small: how great an expression, a code is. -/
import Derived.Test.YthafojadcodkoaaTs
namespace Go.Proofs.Ythafojadcodkoaa
open Go.RowKit

theorem BelowX.al {w W : World} {o : Obj} (h : Below w.heap.size w W) : Below w.heap.size w (W.alloc o) := h.alloc h.size _
theorem Upd.new {p q : Nat} {a w w' : World} (h : Upd p a w) (k : Upd q w w') (hq : a.heap.size ≤ q) : Upd p a w' :=
  ⟨k.os.trans h.os, k.tape.trans h.tape, k.output.trans h.output, Nat.le_trans h.size k.size, fun i hi hn => (k.block i (Nat.lt_of_lt_of_le hi h.size) (by omega)).trans (h.block i hi hn)⟩
theorem Upd.keepB {p b : Nat} {w w' : World} {T : TypeId} {cs : Array Value} (h : Upd p w w') (hb : BlkN w b T cs) (hn : b ≠ p) : BlkN w' b T cs := (h.block b hb.lt hn).trans hb
def LittleC (x : Ex) : Prop := ∀ (nest : Nat) (w : World) (B p : Nat) (v : Value) (m : Int), nest ≤ 1000 → IsEx w B v x → B ≤ p → BlkN w p 3 #[.int .i64 m] →
  Calls Try.prog 60 #[v, .pointer (some ⟨p, 0, Option.none⟩), .int .i64 nest] w fun e w' => ∃ (β : Bool) (m' : Int), e = .returned (.bool β) ∧ BlkN w' p 3 #[.int .i64 m'] ∧ Upd p w w'
section
attribute [local irreducible] wpList
set_option maxRecDepth 100000 in
set_option maxHeartbeats 1000000 in
theorem little1_any (x : Ex) (H : LittleC x) (nest : Nat) (w : World) (B p a4 a5 : Nat) (v : Value) (m : Int) (hn : nest ≤ 999) (h : IsEx w B v x) (hB : B ≤ p) (hp : BlkN w p 3 #[.int .i64 m]) (h4 : BlkN w a4 83 #[.pointer (some ⟨p, 0, Option.none⟩)]) (h5 : BlkN w a5 3 #[.int .i64 ((nest + 1 : Nat) : Int)]) :
    Calls Try.prog 73 #[v, .pointer (some ⟨a4, 0, Option.none⟩), .pointer (some ⟨a5, 0, Option.none⟩)] w fun e w' => ∃ (β : Bool) (m' : Int), e = .returned (.bool β) ∧ BlkN w' p 3 #[.int .i64 m'] ∧ Upd p w w' := by
  obtain ⟨k, n, s, A, len, cap, rfl⟩ := h.shape
  obtain ⟨W, hW⟩ : ∃ W, W = w.alloc (.cells #[.int .u8 k, .int .i64 n, .string s, .slice A len cap] 109) := ⟨_, rfl⟩
  have hb : Below w.heap.size w W := by rw [hW]; exact (Below.refl _ _).alloc (Nat.le_refl _) _
  have HB := Lib.hid hb
  have hpl := hp.lt
  have c4 := (h4.below hb).cell 0 rfl
  have c5 := (h5.below hb).cell 0 rfl
  have hg : BlkN W w.heap.size 109 #[.int .u8 k, .int .i64 n, .string s, .slice A len cap] := by rw [hW]; exact BlkN.at_ rfl _ _
  have g0 := hg.cell 0 rfl
  have g1 := hg.cell 1 rfl
  have g2 := hg.cell 2 rfl
  have g3 := hg.cell 3 rfl
  have C60 := Lib.hid (H nest W B p _ m (by omega) (h.keep fun b hb' => hb.block b (by omega)) hB (hp.below hb))
  have hsub : ((nest + 1 : Nat) : Int) - 1 = nest := by omega
  have hn63 : nest < 1000 := by omega
  clear h hp h4 h5 hg hb
  go_enter Try.func73, Try.ntmps73
  go_upto_region 1 with fail
  rw [← hW]
  clear hW
  go_wp2_with (first | (go_at_call 60; refine C60.out.mono ?_; rintro e w1 ⟨β, m', rfl, hm, hu⟩; have HM := Lib.hid hm; have HU := Lib.hid hu; clear hm hu))
  go_ret
  exact ⟨_, _, rfl, HM.out, (Upd.ofBelow HB.out p).trans HU.out⟩
set_option maxRecDepth 100000 in
set_option maxHeartbeats 1000000 in
theorem index78_any (l : List Ex) (IH : ∀ x ∈ l, LittleC x) (A : Option Addr) (cap nest : Nat) (w : World) (B p a4 a5 : Nat) (m : Int) (hn : nest ≤ 999) (hcap : l.length ≤ cap) (hl : l.length ≤ 140737488351232) (h7 : l ≠ [] → ∃ b o, b < B ∧ A = some ⟨b, o, Option.none⟩ ∧ IsExs w B b o l) (hB : B ≤ p) (hp : BlkN w p 3 #[.int .i64 m]) (hne : a4 ≠ p ∧ a5 ≠ p) (h4 : BlkN w a4 83 #[.pointer (some ⟨p, 0, Option.none⟩)]) (h5 : BlkN w a5 3 #[.int .i64 ((nest + 1 : Nat) : Int)]) :
    Calls Try.prog 78 #[.slice A l.length cap, .func (.func 73) #[] #[.pointer (some ⟨a4, 0, Option.none⟩), .pointer (some ⟨a5, 0, Option.none⟩)]] w fun e w' => ∃ (i m' : Int), e = .returned (.int .i64 i) ∧ BlkN w' p 3 #[.int .i64 m'] ∧ Upd p w w' := by
  have H7 := Lib.hid h7
  have HI := Lib.hid IH
  have HP := Lib.hid hp
  have H4 := Lib.hid h4
  have H5 := Lib.hid h5
  have hpl := hp.lt
  clear h7 IH hp h4 h5
  go_enter Try.func78, Try.ntmps78
  go_wp2_with fail
  go_loopw [8] (fun i wr => ∃ (k : Nat) (m' : Int), k ≤ l.length ∧ i = .int .i64 k ∧ BlkN wr p 3 #[.int .i64 m'] ∧ Upd p w wr)
    (fun i _ => l.length - (intOf i).toNat)
  case atStart => exact ⟨0, m, Nat.zero_le _, rfl, HP.out, Upd.refl _ _⟩
  case round =>
    obtain ⟨k, m', hk, rfl, hm, hu⟩ := hrel
    have HU := Lib.hid hu
    by_cases hlt : k < l.length
    · obtain ⟨b, o, hbB, hA, hx⟩ := H7.out (by rintro rfl; simp at hlt)
      subst hA
      have hx : IsExs wr B b o l := IsExs.keep (fun b hb' => hu.block b (by omega) (by omega)) hbB hx
      obtain ⟨k', n', s', A', len', cap', hat, hv⟩ := hx.at2 k hlt
      have e0 := hat 0 _ rfl
      have e1 := hat 1 _ rfl
      have e2 := hat 2 _ rfl
      have e3 := hat 3 _ rfl
      rw [Nat.add_zero] at e0
      have C73 := Lib.hid (little1_any l[k] (HI.out _ (List.getElem_mem hlt)) nest wr B p a4 a5 _ m' hn hv hB hm (hu.keepB H4.out hne.1) (hu.keepB H5.out hne.2))
      clear hx hv hat hm hu
      go_wp2_with (go_at_call 73; refine C73.out.mono ?_; rintro e w1 ⟨β, m2, rfl, hm, hu⟩; have HM := Lib.hid hm; have HU1 := Lib.hid (HU.out.trans hu); clear hm hu; cases β)
      · go_roundw
        case rel => exact ⟨k + 1, m2, by omega, by go_num, HM.out, HU1.out⟩
        case measure => simp [intOf]; omega
      · go_wp2_with fail
        go_ret
        exact ⟨_, m2, rfl, HM.out, HU1.out⟩
    · obtain rfl : k = l.length := by omega
      have HM := Lib.hid hm
      clear hm hu
      go_wp2_with fail
      go_ret
      exact ⟨_, m', rfl, HM.out, HU.out⟩
set_option maxRecDepth 100000 in
theorem contains72_any (l : List Ex) (IH : ∀ x ∈ l, LittleC x) (A : Option Addr) (cap nest : Nat) (w : World) (B p a4 a5 : Nat) (m : Int) (hn : nest ≤ 999) (hcap : l.length ≤ cap) (hl : l.length ≤ 140737488351232) (h7 : l ≠ [] → ∃ b o, b < B ∧ A = some ⟨b, o, Option.none⟩ ∧ IsExs w B b o l) (hB : B ≤ p) (hp : BlkN w p 3 #[.int .i64 m]) (hne : a4 ≠ p ∧ a5 ≠ p) (h4 : BlkN w a4 83 #[.pointer (some ⟨p, 0, Option.none⟩)]) (h5 : BlkN w a5 3 #[.int .i64 ((nest + 1 : Nat) : Int)]) :
    Calls Try.prog 72 #[.slice A l.length cap, .func (.func 73) #[] #[.pointer (some ⟨a4, 0, Option.none⟩), .pointer (some ⟨a5, 0, Option.none⟩)]] w fun e w' => ∃ (β : Bool) (m' : Int), e = .returned (.bool β) ∧ BlkN w' p 3 #[.int .i64 m'] ∧ Upd p w w' := by
  have C78 := Lib.hid (index78_any l IH A cap nest w B p a4 a5 m hn hcap hl h7 hB hp hne h4 h5)
  clear IH h7 hp h4 h5
  go_enter Try.func72, Try.ntmps72
  go_wp2_with (go_at_call 78; refine C78.out.mono ?_; rintro e w1 ⟨i, m', rfl, hm, hu⟩; have HM := Lib.hid hm; have HU := Lib.hid hu; clear hm hu)
  go_ret
  exact ⟨_, _, rfl, HM.out, HU.out⟩
set_option maxRecDepth 100000 in
set_option maxHeartbeats 2000000 in
theorem little_any (x : Ex) : LittleC x := by
  induction x using Ex.ind with
  | h k n s l IH =>
  intro nest w B p v m hn h hB hp
  obtain ⟨h1, h2, h3, h4, A, cap, h5, rfl, h7⟩ := h.form
  obtain ⟨W, hW⟩ : ∃ W, W = ((w.alloc (.cells #[.int .u8 k, .int .i64 n, .string s, .slice A l.length cap] 109)).alloc (.cells #[.pointer (some ⟨p, 0, Option.none⟩)] 83)).alloc (.cells #[.int .i64 nest] 3) := ⟨_, rfl⟩
  have hb : Below w.heap.size w W := by rw [hW]; exact BelowX.al (BelowX.al (BelowX.al (Below.refl _ _)))
  have HB := Lib.hid hb
  have hpl := hp.lt
  have hg3 : BlkN W w.heap.size 109 #[.int .u8 k, .int .i64 n, .string s, .slice A l.length cap] := by rw [hW]; exact ((BlkN.at_ rfl _ _).alloc _).alloc _
  have hg4 : BlkN W (w.heap.size + 1) 83 #[.pointer (some ⟨p, 0, Option.none⟩)] := by rw [hW]; exact (BlkN.at_ (by simp) _ _).alloc _
  have hg5 : BlkN W (w.heap.size + 1 + 1) 3 #[.int .i64 nest] := by rw [hW]; exact BlkN.at_ (by simp) _ _
  have hp1 := hp.below hb
  have dp := hp1.cell 0 rfl
  have fp := hp1.free 0
  have c4 := hg4.cell 0 rfl
  have HG3 := Lib.hid hg3
  have HG4 := Lib.hid hg4
  have HG5 := Lib.hid hg5
  have HP1 := Lib.hid hp1
  have HI := Lib.hid IH
  have H7 : Hid (l ≠ [] → ∃ b o, b < B ∧ A = some ⟨b, o, Option.none⟩ ∧ IsExs W B b o l) := Lib.hid fun hne => by
    obtain ⟨b, o, g1, g2, g3⟩ := h7 hne
    exact ⟨b, o, g1, g2, IsExs.keep (fun b hb' => hb.block b (by omega)) g1 g3⟩
  clear h hp hg3 hg4 hg5 hb hp1 IH h7
  go_enter Try.func60, Try.ntmps60
  go_upto_region 1 with fail
  rw [← hW]
  clear hW
  go_upto_region 2 with fail
  obtain ⟨V, hV⟩ : ∃ V, V = W.setCell ⟨p, 0, Option.none⟩ (.int .i64 (wrap64 (m + 1))) := ⟨_, rfl⟩
  rw [← hV]
  have hu : Upd p W V := by rw [hV]; exact (Upd.refl _ _).set 0 _
  have hpV : BlkN V p 3 #[.int .i64 (wrap64 (m + 1))] := by rw [hV]; exact HP1.out.set 0 _
  have HPV := Lib.hid hpV
  have HUV := Lib.hid hu
  have h3V := hu.keepB HG3.out (by omega)
  have h4V := hu.keepB HG4.out (by omega)
  have h5V := hu.keepB HG5.out (by omega)
  have H4V := Lib.hid h4V
  have H5V := Lib.hid h5V
  have c3 := h3V.cell 0 rfl
  have c33 := h3V.cell 3 rfl
  have c4 := h4V.cell 0 rfl
  have c5 := h5V.cell 0 rfl
  have dp := hpV.cell 0 rfl
  have hU : Upd p w V := (Upd.ofBelow HB.out p).trans hu
  have HU := Lib.hid hU
  have H7V : Hid (l ≠ [] → ∃ b o, b < B ∧ A = some ⟨b, o, Option.none⟩ ∧ IsExs V B b o l) := Lib.hid fun hne => by
    obtain ⟨b, o, g1, g2, g3⟩ := H7.out hne
    have hs := HB.out.size
    exact ⟨b, o, g1, g2, IsExs.keep (fun b hb' => hu.block b (by omega) (by omega)) g1 g3⟩
  clear hV hu hpV h3V h4V h5V hU fp
  cases nest with
  | zero =>
    go_wp2_with fail
    all_goals (go_ret; exact ⟨_, _, rfl, HPV.out, HU.out⟩)
  | succ nest =>
    have C72 := Lib.hid (contains72_any l HI.out A cap nest V B p (w.heap.size + 1) (w.heap.size + 1 + 1) _ (by omega) h5 h4 H7V.out hB HPV.out ⟨by omega, by omega⟩ H4V.out H5V.out)
    have hz : (((nest + 1 : Nat) : Int) == 0) = false := by rw [beq_eq_false_iff_ne]; omega
    go_wp2_with (go_at_call 72; refine C72.out.mono ?_; rintro e w1 ⟨β, m2, rfl, hm, hu⟩; have HM := Lib.hid hm; have HU1 := Lib.hid (HU.out.trans hu); clear hm hu)
    all_goals (go_ret; first | exact ⟨_, _, rfl, HM.out, HU1.out⟩ | exact ⟨_, _, rfl, HPV.out, HU.out⟩)
def SmallC (l : List St) : Prop := ∀ (w : World) (B p : Nat) (A : Option Addr) (len cap : Nat) (m : Int), LR (fun b _ => b < B) 256 A len cap l (fun b o => IsSts w B b o l) → B ≤ p → BlkN w p 3 #[.int .i64 m] →
  Calls Try.prog 38 #[.slice A len cap, .pointer (some ⟨p, 0, Option.none⟩)] w fun e w' => ∃ (β : Bool) (m' : Int), e = .returned (.bool β) ∧ BlkN w' p 3 #[.int .i64 m'] ∧ Upd p w w'
def SubS : St → Prop
  | .mk _ _ _ _ _ _ _ t e c _ => SmallC t ∧ SmallC e ∧ SmallC c
attribute [local go_sem] SV.g0 SV.g1 SV.g2 SV.g3 SV.g4 SV.g5 SV.g6 SV.g7 SV.g8 SV.g9 SV.g10 SV.g11 SV.g12 SV.g13 SV.g14 SV.g15 SV.g16
set_option maxRecDepth 100000 in
set_option maxHeartbeats 8000000 in
theorem small_step (l : List St) (IH : ∀ x ∈ l, SubS x) : SmallC l := by
  intro w B p A len cap m hl hB hp
  obtain ⟨rfl, hcap, hsz, h7⟩ := hl
  obtain ⟨i0, hi, hz0, hz1, hz2⟩ := info_parts info58
  have HIN := Lib.hid hi
  have H7 := Lib.hid h7
  have HI := Lib.hid IH
  have HP := Lib.hid hp
  have hpl := hp.lt
  have hll : l.length ≤ 140737488351232 := by omega
  clear h7 IH hp hi
  go_enter Try.func38, Try.ntmps38
  go_wp2_with fail
  go_loopw [11] (fun i wr => ∃ (k : Nat) (m' : Int), k ≤ l.length ∧ i = .int .i64 k ∧ BlkN wr p 3 #[.int .i64 m'] ∧ Upd p w wr)
    (fun i _ => l.length - (intOf i).toNat)
  case atStart => exact ⟨0, m, Nat.zero_le _, rfl, HP.out, Upd.refl _ _⟩
  case round =>
    obtain ⟨k, m', hk, rfl, hm, hu⟩ := hrel
    have HU := Lib.hid hu
    have hus := hu.size
    have HM := Lib.hid hm
    by_cases hlt : k < l.length
    · obtain ⟨b, o, hbB, hA, hx⟩ := H7.out (by rintro rfl; simp at hlt)
      subst hA
      have hx : IsSts wr B b o l := IsStsR.keep (fun b _ hb' => hu.block b (by omega) (by omega)) (hu.block b (by omega) (by omega)) hx
      obtain ⟨s, hat, hs⟩ := hx.at k hlt
      have HAT := Lib.hid hat
      have HSUB := HI.out l[k] (List.getElem_mem hlt)
      obtain ⟨X, hX⟩ : ∃ X, X = l[k] := ⟨_, rfl⟩
      rw [← hX] at hs HSUB
      obtain ⟨op, nm, sec, ab, wh, xa, xb, ct, ce, cc, ws⟩ := X
      obtain ⟨it, ie, ic⟩ := HSUB
      obtain ⟨-, -, hxa, hxb, hct, hce, hcc, hws⟩ := hs.form
      have K : ∀ w', Upd p wr w' → ∀ b, b < B → w'.heap[b]? = wr.heap[b]? := fun w' hu b hb => hu.block b (by omega) (by omega)
      have C60A : Hid (∀ w' q, Upd p wr w' → B ≤ q → BlkN w' q 3 #[.int .i64 0] → Calls Try.prog 60 #[.agg #[.int .u8 s.a0, .int .i64 s.a1, .string s.a2, .slice s.aA s.al s.ac], .pointer (some ⟨q, 0, Option.none⟩), .int .i64 16] w' fun e w'' => ∃ (β : Bool) (m' : Int), e = .returned (.bool β) ∧ BlkN w'' q 3 #[.int .i64 m'] ∧ Upd q w' w'') :=
        Lib.hid fun w' q hu hq hb => little_any xa 16 w' B q _ 0 (by omega) (IsEx.keep (B := B) (fun b hb' => K w' hu b hb') hxa) hq hb
      have C60B : Hid (∀ w' q, Upd p wr w' → B ≤ q → BlkN w' q 3 #[.int .i64 0] → Calls Try.prog 60 #[.agg #[.int .u8 s.b0, .int .i64 s.b1, .string s.b2, .slice s.bA s.bl s.bc], .pointer (some ⟨q, 0, Option.none⟩), .int .i64 16] w' fun e w'' => ∃ (β : Bool) (m' : Int), e = .returned (.bool β) ∧ BlkN w'' q 3 #[.int .i64 m'] ∧ Upd q w' w'') :=
        Lib.hid fun w' q hu hq hb => little_any xb 16 w' B q _ 0 (by omega) (IsEx.keep (B := B) (fun b hb' => K w' hu b hb') hxb) hq hb
      have C38T := Lib.hid (fun w' m' (hu : Upd p wr w') (hb : BlkN w' p 3 #[.int .i64 m']) => it w' B p s.tA s.tl s.tc m' (hct.imp fun b o hb' hp => ⟨hb', IsStsR.keep (fun b _ hb' => K w' hu b hb') (K w' hu b hb') hp⟩) hB hb)
      have C38E := Lib.hid (fun w' m' (hu : Upd p wr w') (hb : BlkN w' p 3 #[.int .i64 m']) => ie w' B p s.eA s.el s.ec m' (hce.imp fun b o hb' hp => ⟨hb', IsStsR.keep (fun b _ hb' => K w' hu b hb') (K w' hu b hb') hp⟩) hB hb)
      have C38C := Lib.hid (fun w' m' (hu : Upd p wr w') (hb : BlkN w' p 3 #[.int .i64 m']) => ic w' B p s.cA s.cl s.cc m' (hcc.imp fun b o hb' hp => ⟨hb', IsStsR.keep (fun b _ hb' => K w' hu b hb') (K w' hu b hb') hp⟩) hB hb)
      clear hx hat hs hX it ie ic hxa hxb hct hce hcc hws K hm hu
      go_upto_region 4 with (first | (refine wpList_load_blk rfl 112 (.tmp 13) rfl ⟨b, o + k * 17, Option.none⟩ rfl (.agg s.arr) (run_loadVar_at Try.underlying112 HIN.out HAT.out (by rw [hz1]; rfl)) ?_) | (refine wpList_store_blk rfl 112 (.tmp 6) (.tmp 14) rfl i0 HIN.out wr.heap.size s.arr rfl rfl 112 SV.zero.arr (BlkN.at_ rfl 112 SV.zero.arr) (by rw [hz1]; rfl) rfl (SV.one _) ?_; intro w2 hB2 hbut))
      have hpr : p < wr.heap.size := by omega
      have hb2 : Below wr.heap.size wr w2 := hbut.below (Nat.le_refl _) ((Below.refl _ _).alloc (Nat.le_refl _) _)
      have hp2 : BlkN w2 p 3 #[.int .i64 m'] := HM.out.below hb2
      have dp := hp2.cell 0 rfl
      have fp := hp2.free 0
      have HS2 := Lib.hid hB2
      have HU2 := Lib.hid (Upd.ofBelow hb2 p)
      have HP2 := Lib.hid hp2
      clear hbut hb2 hp2 hB2
      go_upto_region 5 with fail
      obtain ⟨V, hV⟩ : ∃ V, V = w2.setCell ⟨p, 0, Option.none⟩ (.int .i64 (wrap64 (m' + 1))) := ⟨_, rfl⟩
      rw [← hV]
      have hu3 : Upd p w2 V := by rw [hV]; exact (Upd.refl _ _).set 0 _
      have HP3 : Hid (BlkN V p 3 #[.int .i64 (wrap64 (m' + 1))]) := Lib.hid (by rw [hV]; exact HP2.out.set 0 _)
      have HS3 := Lib.hid (hu3.keepB HS2.out (by omega))
      have HU3 := Lib.hid (HU2.out.trans hu3)
      have hs3 : wr.heap.size < V.heap.size := HS3.out.lt
      clear hV hu3 dp fp HS2 HU2 HP2
      go_upto_region 6 with fail
      obtain ⟨w4, hw4⟩ : ∃ w4, w4 = (V.alloc (.cells #[.int .i64 0] 3)).alloc (.cells #[.int .i64 0] 3) := ⟨_, rfl⟩
      rw [← hw4]
      have hb4 : Below V.heap.size V w4 := by rw [hw4]; exact BelowX.al (BelowX.al (Below.refl _ _))
      have HT7 : Hid (BlkN w4 V.heap.size 3 #[.int .i64 0]) := Lib.hid (by rw [hw4]; exact (BlkN.at_ rfl _ _).alloc _)
      have HT8 : Hid (BlkN w4 (V.heap.size + 1) 3 #[.int .i64 0]) := Lib.hid (by rw [hw4]; exact BlkN.at_ (by simp) _ _)
      have HP4 := Lib.hid (HP3.out.below hb4)
      have HS4 := Lib.hid (HS3.out.below hb4)
      have HU4 := Lib.hid (HU3.out.below hb4)
      have dp := HP4.out.cell 0 rfl
      have s5 := HS4.out.cell 5 s.at5
      have s6 := HS4.out.cell 6 s.at6
      have s7 := HS4.out.cell 7 s.at7
      have s8 := HS4.out.cell 8 s.at8
      have s16 := HS4.out.cell 16 s.at16
      clear hw4 hb4 HP3 HS3 HU3
      go_wp2_with fail
      · refine (C60A.out _ _ HU4.out (by omega) HT7.out).mono ?_; rintro e w5 ⟨β5, m5, rfl, -, hu5⟩; have HU5 := Lib.hid (HU4.out.new hu5 (by omega)); have HP5 := Lib.hid (hu5.keepB HP4.out (by omega)); have hs5 := hu5.keepB HS4.out (by omega); have HS5 := Lib.hid hs5; have HT85 := Lib.hid (hu5.keepB HT8.out (by omega)); have r9 := hs5.cell 9 s.at9; have r10 := hs5.cell 10 s.at10; have r11 := hs5.cell 11 s.at11; have r12 := hs5.cell 12 s.at12; clear hu5 hs5 C60A HU4 HP4 HS4 HT8 HT7 s5 s6 s7 s8 s16 dp
        go_wp2_with fail
        · refine (C60B.out _ _ HU5.out (by omega) HT85.out).mono ?_; rintro e w6 ⟨β6, m6, rfl, -, hu6⟩; have HU6 := Lib.hid (HU5.out.new hu6 (by omega)); have HP6 := Lib.hid (hu6.keepB HP5.out (by omega)); have hs6 := hu6.keepB HS5.out (by omega); have HS6 := Lib.hid hs6; have r13 := hs6.cell 13 s.at13; clear hu6 hs6 C60B HU5 HP5 HS5 HT85 r9 r10 r11 r12
          go_wp2_with fail
          rotate_left
          · refine (C38T.out _ _ HU6.out HP6.out).mono ?_; rintro e w7 ⟨β7, m7, rfl, hp7, hu7⟩; have HU7 := Lib.hid (HU6.out.trans hu7); have HP7 := Lib.hid hp7; have hs7 := hu7.keepB HS6.out (by omega); have HS7 := Lib.hid hs7; have r14 := hs7.cell 14 s.at14; clear hu7 hs7 hp7 C38T HU6 HP6 HS6 r13
            go_wp2_with fail
            · refine (C38E.out _ _ HU7.out HP7.out).mono ?_; rintro e w8 ⟨β8, m8, rfl, hp8, hu8⟩; have HU8 := Lib.hid (HU7.out.trans hu8); have HP8 := Lib.hid hp8; have hs8 := hu8.keepB HS7.out (by omega); have r15 := hs8.cell 15 s.at15; clear hu8 hs8 hp8 C38E HU7 HP7 HS7 r14
              go_wp2_with fail
              · refine (C38C.out _ _ HU8.out HP8.out).mono ?_; rintro e w9 ⟨β9, m9, rfl, hp9, hu9⟩; have HU9 := Lib.hid (HU8.out.trans hu9); have HP9 := Lib.hid hp9; clear hu9 hp9 C38C HU8 HP8 r15
                go_wp2_with fail
                all_goals first
                  | (go_ret; first | exact ⟨_, _, rfl, HP9.out, HU.out.trans HU9.out⟩ | exact ⟨⟨_, HP9.out⟩, HU.out.trans HU9.out⟩ | exact ⟨.inl rfl, ⟨_, HP9.out⟩, HU.out.trans HU9.out⟩)
                  | (go_roundw
                     case rel => exact ⟨k + 1, _, by omega, by go_num, HP9.out, HU.out.trans HU9.out⟩
                     case measure => simp [intOf]; omega)
              all_goals (go_ret; first | exact ⟨_, _, rfl, HP8.out, HU.out.trans HU8.out⟩ | exact ⟨⟨_, HP8.out⟩, HU.out.trans HU8.out⟩ | exact ⟨.inl rfl, ⟨_, HP8.out⟩, HU.out.trans HU8.out⟩)
            all_goals (go_ret; first | exact ⟨_, _, rfl, HP7.out, HU.out.trans HU7.out⟩ | exact ⟨⟨_, HP7.out⟩, HU.out.trans HU7.out⟩ | exact ⟨.inl rfl, ⟨_, HP7.out⟩, HU.out.trans HU7.out⟩)
          all_goals (go_ret; first | exact ⟨_, _, rfl, HP6.out, HU.out.trans HU6.out⟩ | exact ⟨⟨_, HP6.out⟩, HU.out.trans HU6.out⟩ | exact ⟨.inl rfl, ⟨_, HP6.out⟩, HU.out.trans HU6.out⟩)
        all_goals (go_ret; first | exact ⟨_, _, rfl, HP5.out, HU.out.trans HU5.out⟩ | exact ⟨⟨_, HP5.out⟩, HU.out.trans HU5.out⟩ | exact ⟨.inl rfl, ⟨_, HP5.out⟩, HU.out.trans HU5.out⟩)
      all_goals (go_ret; first | exact ⟨_, _, rfl, HP4.out, HU.out.trans HU4.out⟩ | exact ⟨⟨_, HP4.out⟩, HU.out.trans HU4.out⟩ | exact ⟨.inl rfl, ⟨_, HP4.out⟩, HU.out.trans HU4.out⟩)
    · obtain rfl : k = l.length := by omega
      clear hm hu
      go_wp2_with fail
      go_ret
      exact ⟨_, m', rfl, HM.out, HU.out⟩
theorem small_sub (x : St) : SubS x := by
  induction x using St.ind with
  | h op nm sec ab wh a b t e c ws IHt IHe IHc => exact ⟨small_step t IHt, small_step e IHe, small_step c IHc⟩
theorem small_any (l : List St) : SmallC l := small_step l fun x _ => small_sub x
end
end Go.Proofs.Ythafojadcodkoaa
