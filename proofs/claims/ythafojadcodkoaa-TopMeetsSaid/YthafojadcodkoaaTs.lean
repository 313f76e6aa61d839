/- world.ownCode. -/
import Derived.Test.YthafojadcodkoaaTr
namespace Go.Proofs.Ythafojadcodkoaa
open Go.RowKit


theorem SV.g0 (s : SV) (h : 0 < s.arr.size) : s.arr[0]'h = .int .u8 s.op := rfl
theorem SV.g1 (s : SV) (h : 1 < s.arr.size) : s.arr[1]'h = .string s.nm := rfl
theorem SV.g2 (s : SV) (h : 2 < s.arr.size) : s.arr[2]'h = .string s.sec := rfl
theorem SV.g3 (s : SV) (h : 3 < s.arr.size) : s.arr[3]'h = .int .u8 s.ab := rfl
theorem SV.g4 (s : SV) (h : 4 < s.arr.size) : s.arr[4]'h = .int .u8 s.wh := rfl
theorem SV.g5 (s : SV) (h : 5 < s.arr.size) : s.arr[5]'h = .int .u8 s.a0 := rfl
theorem SV.g6 (s : SV) (h : 6 < s.arr.size) : s.arr[6]'h = .int .i64 s.a1 := rfl
theorem SV.g7 (s : SV) (h : 7 < s.arr.size) : s.arr[7]'h = .string s.a2 := rfl
theorem SV.g8 (s : SV) (h : 8 < s.arr.size) : s.arr[8]'h = .slice s.aA s.al s.ac := rfl
theorem SV.g9 (s : SV) (h : 9 < s.arr.size) : s.arr[9]'h = .int .u8 s.b0 := rfl
theorem SV.g10 (s : SV) (h : 10 < s.arr.size) : s.arr[10]'h = .int .i64 s.b1 := rfl
theorem SV.g11 (s : SV) (h : 11 < s.arr.size) : s.arr[11]'h = .string s.b2 := rfl
theorem SV.g12 (s : SV) (h : 12 < s.arr.size) : s.arr[12]'h = .slice s.bA s.bl s.bc := rfl
theorem SV.g13 (s : SV) (h : 13 < s.arr.size) : s.arr[13]'h = .slice s.tA s.tl s.tc := rfl
theorem SV.g14 (s : SV) (h : 14 < s.arr.size) : s.arr[14]'h = .slice s.eA s.el s.ec := rfl
theorem SV.g15 (s : SV) (h : 15 < s.arr.size) : s.arr[15]'h = .slice s.cA s.cl s.cc := rfl
theorem SV.g16 (s : SV) (h : 16 < s.arr.size) : s.arr[16]'h = .slice s.wA s.wl s.wc := rfl
theorem wpList_move {P : Program} {w : World} {ops : Array Oper} {rest : List Oper} {o : Oper} {a : Act} {Q : Exit → Act → World → Prop} (hg : o.guard = Option.none) (v : Operand) (hop : o.op = Op.move v) (h : wpList P ops Q rest (a.put o.dst (a.eval v)) w) : wpList P ops Q (o :: rest) a w := by
  refine wpList_plain hg fun K hK => ?_
  unfold Oper.wp
  simp [execOp, hop]
  exact hK _ _ h
theorem run_loadVar_at {P : Program} {w : World} {T : TypeId} {fs : Array Field} (ht : P.underlying T = some (.struct fs)) {i : TypeInfo} (hi : P.info? T = some i) {b o : Nat} {cs : Array Value} (hB : At w b o cs.toList) (hn : cs.size = i.size) :
    (loadVar T ⟨b, o, Option.none⟩).run P w = .ok (.agg cs) w := by
  have h := run_loadCells_list (P := P) w ⟨b, o, Option.none⟩ cs.toList (fun j v hv => by
    rw [show (⟨b, o, Option.none⟩ : Addr).add j = ⟨b, o + j, Option.none⟩ from by simp [Addr.add]]
    exact hB j v hv)
  rw [Array.length_toList, Array.toArray_toList, hn] at h
  unfold loadVar
  simp [isAgg, run_underlying ht, sizeOf, typeInfo, hi, h, Result.andThen]
theorem lrU {lo p len cap : Nat} {w w' : World} {A : Option Addr} {l : List St} (h : LR (OwnU lo w) 256 A len cap l (fun b o => IsStsR w (OwnU lo w) b o l)) (hu : Upd p w w') (hp : p < lo) : LR (OwnU lo w') 256 A len cap l (fun b o => IsStsR w' (OwnU lo w') b o l) :=
  h.imp fun b o hr hq => ⟨hr.of (hu.block b hr.lt (by have := hr.1; omega)), IsStsR.mono (fun b o hr => hr.of (hu.block b hr.lt (by have := hr.1; omega))) (IsStsR.keep (fun b o hr => hu.block b hr.lt (by have := hr.1; omega)) (hu.block b hr.lt (by have := hr.1; omega)) hq)⟩
theorem ssU {lo p : Nat} {w w' : World} {v : Value} {l : List ByteArray} (h : IsSsR w (OwnU lo w) v l) (hu : Upd p w w') (hp : p < lo) : IsSsR w' (OwnU lo w') v l :=
  IsSsR.mono (fun b o hr => hr.of (hu.block b hr.lt (by have := hr.1; omega))) (IsSsR.keep (fun b o hr => hu.block b hr.lt (by have := hr.1; omega)) h)
theorem lrU.low {lo lo' len cap : Nat} {w : World} {A : Option Addr} {l : List St} (h : LR (OwnU lo w) 256 A len cap l (fun b o => IsStsR w (OwnU lo w) b o l)) (hl : lo' ≤ lo) : LR (OwnU lo' w) 256 A len cap l (fun b o => IsStsR w (OwnU lo' w) b o l) :=
  h.imp fun _b _o hr hq => ⟨hr.low hl, IsStsR.mono (fun _b _o hr => hr.low hl) hq⟩
theorem info42 : (Try.prog.info? 50).map (fun i => (i.zero, i.size, i.bytes)) = some (some (.slice Option.none 0 0), 1, 24) := by kernel_rfl
theorem info56 : (Try.prog.info? 110).map (fun i => (i.zero, i.size, i.bytes)) = some (some (.slice Option.none 0 0), 1, 24) := by kernel_rfl
def WCodeC (l : List St) : Prop := ∀ (w : World) (B : Nat) (A : Option Addr) (len cap : Nat), LR (fun b _ => b < B) 256 A len cap l (fun b o => IsSts w B b o l) → B ≤ w.heap.size →
  Calls Try.prog 43 #[.slice A len cap] w fun e w' => ∃ A' cap', e = .returned (.slice A' l.length cap') ∧ LR (OwnU w.heap.size w') 256 A' l.length cap' l (fun b o => IsStsR w' (OwnU w.heap.size w') b o l) ∧ Below w.heap.size w w'
/-- The codes in a statement are copied. -/
def SubC : St → Prop
  | .mk _ _ _ _ _ _ _ t e c _ => WCodeC t ∧ WCodeC e ∧ WCodeC c
attribute [local go_sem] SV.g0 SV.g1 SV.g2 SV.g3 SV.g4 SV.g5 SV.g6 SV.g7 SV.g8 SV.g9 SV.g10 SV.g11 SV.g12 SV.g13 SV.g14 SV.g15 SV.g16
attribute [local irreducible] RegT.seqT RegT.seqM wpList
set_option maxRecDepth 100000 in
set_option maxHeartbeats 8000000 in
theorem ownCode_step (l : List St) (IH : ∀ x ∈ l, SubC x) : WCodeC l := by
  intro w B A len cap hl hB
  obtain ⟨rfl, hcap, hlen, h7⟩ := hl
  have HI := Lib.hid IH
  obtain ⟨i0, hi, hz0, hz1, hz2⟩ := info_parts info58
  have HIN := Lib.hid hi
  have C127 := Lib.hid (Clone127_any l A cap w B hB hlen hcap h7)
  have hll : l.length ≤ 140737488351232 := by omega
  clear IH hi h7
  go_enter Try.func43, Try.ntmps43
  go_wp2_with (go_at_call 62; refine C127.out.mono ?_; rintro e w1 ⟨v1, rfl, hv1, hb1⟩; obtain ⟨A1, cap1, rfl, hcap1⟩ := hv1.val)
  have HV0 : Hid (NRg 112 17 w1 w.heap.size (.slice A1 l.length cap1) l.length (OwnTo RdS w1 w.heap.size B (.slice A1 l.length cap1) l 0)) := Lib.hid (hv1.imp fun i cs hi ⟨hi', hp⟩ => ⟨hi', by rw [if_neg (by omega)]; exact hp⟩)
  have HB0 := Lib.hid hb1
  clear hv1 hb1 C127
  go_loopw [9] (fun i wr => ∃ j : Nat, j ≤ l.length ∧ i = .int .i64 j ∧ NRg 112 17 wr w.heap.size (.slice A1 l.length cap1) l.length (OwnTo RdS wr w.heap.size B (.slice A1 l.length cap1) l j) ∧ Below w.heap.size w wr) (fun i _ => l.length - (intOf i).toNat)
  case atStart => exact ⟨0, by omega, rfl, HV0.out, HB0.out⟩
  case round =>
    obtain ⟨j, hj, rfl, hv, hu⟩ := hrel
    have HV := Lib.hid hv
    have HU := Lib.hid hu
    have hus := hu.size
    by_cases hlt : j < l.length
    · obtain ⟨g, cap', cur, he, hlo, hcur, hcapc, hcs, hel⟩ := hv.open (by omega)
      simp only [Value.slice.injEq] at he
      obtain ⟨rfl, _, rfl⟩ := he
      obtain ⟨cs, hcl, hat, hi', hp⟩ := hel j hlt
      rw [if_neg (by omega)] at hp
      obtain ⟨s, rfl, hx⟩ := hp
      have HAT := Lib.hid hat
      have hcu : l.length * 17 ≤ cur.size := by rw [hcs]; exact Nat.mul_le_mul_right 17 hcapc
      have hgl := hcur.lt
      have hB2 : B ≤ wr.heap.size := Nat.le_trans hB hus
      have HS : Hid (IsSt wr B s l[j]) := Lib.hid (IsSt.keep (B := B) (fun b hb' => rfl) hx)
      have HSUB := HI.out l[j] (List.getElem_mem hlt)
      have HCU := Lib.hid hcur
      clear hv hu hel hat hx hcur
      go_upto_region 5 with (first | (refine wpList_load_blk rfl 112 (.tmp 12) rfl ⟨g, j * 17, Option.none⟩ rfl (.agg s.arr) (run_loadVar_at Try.underlying112 HIN.out HAT.out (by rw [hz1]; rfl)) ?_) | (refine wpList_store_blk rfl 112 (.tmp 4) (.tmp 13) rfl i0 HIN.out wr.heap.size s.arr rfl rfl 112 SV.zero.arr (BlkN.at_ rfl 112 SV.zero.arr) (by rw [hz1]; rfl) rfl (SV.one _) ?_; intro w2 hB1 hbut))
      have hb1 : Below wr.heap.size wr w2 := hbut.below (Nat.le_refl _) ((Below.refl _ _).alloc (Nat.le_refl _) _)
      obtain ⟨w1, hw1⟩ : ∃ w1, w1 = w2 := ⟨_, rfl⟩
      rw [← hw1] at hb1 hB1 ⊢
      obtain ⟨p, hp⟩ : ∃ p, p = wr.heap.size := ⟨_, rfl⟩
      rw [← hp] at hB1 ⊢
      have HP := Lib.hid hp
      have HB1 := Lib.hid hB1
      have HBR1 := Lib.hid hb1
      have hpw1 : p < w1.heap.size := hB1.lt
      have hqw1 : p + 1 ≤ w1.heap.size := by omega
      have hwr1 : wr.heap.size ≤ w1.heap.size := HBR1.out.size
      obtain ⟨i26, hi26', _, hi26, _⟩ := info_parts info26
      obtain ⟨i42, hi42', _, hi42, _⟩ := info_parts info42
      obtain ⟨i56, hi56', _, hi56, _⟩ := info_parts info56
      have HI26 := Lib.hid hi26'
      have HI42 := Lib.hid hi42'
      have HI56 := Lib.hid hi56'
      clear hB1 hbut hb1 hp hw1 HAT hi26' hi42' hi56'
      obtain ⟨X, hX⟩ : ∃ X, X = l[j] := ⟨_, rfl⟩
      have HX0 := Lib.hid hX
      rw [← hX] at HS HSUB
      clear hX
      obtain ⟨op, nm, sec, ab, wh, xa, xb, t, e, c, ws⟩ := X
      obtain ⟨it, ie, ic⟩ := HSUB
      have HT := Lib.hid it
      have HE := Lib.hid ie
      have HC := Lib.hid ic
      clear it ie ic
      have ca : ∀ w', Below w1.heap.size w1 w' → Calls Try.prog 63 #[.agg #[.int .u8 s.a0, .int .i64 s.a1, .string s.a2, .slice s.aA s.al s.ac]] w' fun e w'' => ∃ v', e = .returned v' ∧ IsExR w'' (OwnU w'.heap.size w'') v' xa ∧ Below w'.heap.size w' w'' :=
        fun w' hb => ownExpr125_any xa w' B _ (IsEx.keep (B := B) (fun b hb' => (bnext HBR1.out hb).block b (by omega)) HS.out.form.2.2.1) (by have := hb.size; omega)
      have cb : ∀ w', Below w1.heap.size w1 w' → Calls Try.prog 63 #[.agg #[.int .u8 s.b0, .int .i64 s.b1, .string s.b2, .slice s.bA s.bl s.bc]] w' fun e w'' => ∃ v', e = .returned v' ∧ IsExR w'' (OwnU w'.heap.size w'') v' xb ∧ Below w'.heap.size w' w'' :=
        fun w' hb => ownExpr125_any xb w' B _ (IsEx.keep (B := B) (fun b hb' => (bnext HBR1.out hb).block b (by omega)) HS.out.form.2.2.2.1) (by have := hb.size; omega)
      have HCA := Lib.hid ca
      have HCB := Lib.hid cb
      clear ca cb
      refine RegT.region_mix (fun i => Nat.ble i 5) (fun W => BlkN W p 112 s.arr) [(true, 0), (true, 1), (true, 3), (true, 4), (false, 2), (true, 6), (false, 5), (false, 7), (false, 8), (false, 9)] rfl (by kernel_rfl) (by kernel_rfl) (by decide) ?_
      have hS0 : BlkN w1.drew p 112 s.arr := HB1.out
      refine RegT.seqM_quiet hS0 rfl (fun _ _ _ h => h) (by kernel_rfl) (v := .pointer (some ⟨p, 5, Option.none⟩)) (fun w' hS => ?_) ?_
      · go_simp
      refine RegT.seqM_quiet hS0 rfl (fun _ _ _ h => h) (by kernel_rfl) (v := .agg #[.int .u8 s.a0, .int .i64 s.a1, .string s.a2, .slice s.aA s.al s.ac]) (fun w' hS => ?_) ?_
      · have hS : BlkN w' p 112 s.arr := hS; have t5 := hS.cell 5 s.at5; have t6 := hS.cell 6 s.at6; have t7 := hS.cell 7 s.at7; have t8 := hS.cell 8 s.at8; go_simp
      refine RegT.seqM_quiet hS0 rfl (fun _ _ _ h => h) (by kernel_rfl) (v := .pointer (some ⟨p, 9, Option.none⟩)) (fun w' hS => ?_) ?_
      · go_simp
      refine RegT.seqM_quiet hS0 rfl (fun _ _ _ h => h) (by kernel_rfl) (v := .agg #[.int .u8 s.b0, .int .i64 s.b1, .string s.b2, .slice s.bA s.bl s.bc]) (fun w' hS => ?_) ?_
      · have hS : BlkN w' p 112 s.arr := hS; have t9 := hS.cell 9 s.at9; have t10 := hS.cell 10 s.at10; have t11 := hS.cell 11 s.at11; have t12 := hS.cell 12 s.at12; go_simp
      refine RegT.seqM_held rfl ?_
      have HD : Hid (Below w1.heap.size w1 w1.drew) := Lib.hid ((Below.refl _ _).drew)
      go_wp2_with (go_at_call 63; refine (HCA.out _ HD.out).mono ?_; rintro e2 w2 ⟨v2, rfl, hx2, hb2⟩; obtain ⟨k2, n2, z2, A2, len2, cap2, rfl⟩ := hx2.shape)
      have hb12 : Below w1.heap.size w1 w2 := bnext HD.out hb2
      have hS2 : BlkN w2 p 112 s.arr := HB1.out.below hb12
      have HX2 : Hid (IsExR w2 (OwnU w1.heap.size w2) (.agg #[.int .u8 k2, .int .i64 n2, .string z2, .slice A2 len2 cap2]) xa) := Lib.hid hx2
      have HB12 := Lib.hid hb12
      clear hb2 hx2 hb12
      refine ⟨hS2, ?_⟩
      refine RegT.seqM_quiet hS2 rfl (fun _ _ _ h => h) (by kernel_rfl) (v := .pointer (some ⟨p, 5, Option.none⟩)) (fun w' hS => ?_) ?_
      · go_simp
      refine RegT.seqM_held rfl ?_
      go_wp2_with (go_at_call 63; refine (HCB.out _ HB12.out).mono ?_; rintro e3 w3 ⟨v3, rfl, hx3, hb3⟩; obtain ⟨k3, n3, z3, A3, len3, cap3, rfl⟩ := hx3.shape)
      have hS3 : BlkN w3 p 112 s.arr := hS2.below hb3
      have hw12 : w1.heap.size ≤ w2.heap.size := HB12.out.size
      have hw23 : w2.heap.size ≤ w3.heap.size := hb3.size
      have HX3 : Hid (IsExR w3 (OwnU w1.heap.size w3) (.agg #[.int .u8 k3, .int .i64 n3, .string z3, .slice A3 len3 cap3]) xb) := Lib.hid (exU.low hx3 hw12)
      have HX2' : Hid (IsExR w3 (OwnU w1.heap.size w3) (.agg #[.int .u8 k2, .int .i64 n2, .string z2, .slice A2 len2 cap2]) xa) := Lib.hid (exU HX2.out (Upd.ofBelow hb3 p) hpw1)
      have HB13 := Lib.hid (bnext HB12.out hb3)
      clear hb3 hx3 HX2 HB12 hS0 hS2 HD HCA HCB
      refine ⟨hS3, RegT.seqM_free rfl rfl ?_⟩
      refine wpList_store_part rfl 109 (.tmp 20) (.tmp 16) rfl i26 HI26.out p 5 (.agg #[.int .u8 k2, .int .i64 n2, .string z2, .slice A2 len2 cap2]) [.int .u8 k2, .int .i64 n2, .string z2, .slice A2 len2 cap2] rfl rfl rfl 112 s.arr ({ s with a0 := k2, a1 := n2, a2 := z2, aA := A2, al := len2, ac := cap2 } : SV).arr hS3 (by rw [hi26]; rfl) (show _ ≤ 17 by simp) (by intro u hu; simp only [List.mem_cons, List.not_mem_nil, or_false] at hu; rcases hu with rfl | rfl | rfl | rfl <;> rfl) rfl ?_
      intro w4 hB4 hbut4
      refine RegT.wpList_end (RegT.seqM_free rfl rfl ?_)
      go_wp2_with fail
      refine RegT.seqM_free rfl rfl ?_
      refine wpList_store_part rfl 109 (.tmp 21) (.tmp 19) rfl i26 HI26.out p 9 (.agg #[.int .u8 k3, .int .i64 n3, .string z3, .slice A3 len3 cap3]) [.int .u8 k3, .int .i64 n3, .string z3, .slice A3 len3 cap3] rfl rfl rfl 112 _ ({ s with a0 := k2, a1 := n2, a2 := z2, aA := A2, al := len2, ac := cap2, b0 := k3, b1 := n3, b2 := z3, bA := A3, bl := len3, bc := cap3 } : SV).arr hB4 (by rw [hi26]; rfl) (show _ ≤ 17 by simp) (by intro u hu; simp only [List.mem_cons, List.not_mem_nil, or_false] at hu; rcases hu with rfl | rfl | rfl | rfl <;> rfl) rfl ?_
      intro w5 hB5 hbut5
      refine RegT.wpList_end (RegT.seqM_end ?_)
      simp only [RegT.NP, Exit.then]
      obtain ⟨s5, hs5⟩ : ∃ s5 : SV, s5 = { s with a0 := k2, a1 := n2, a2 := z2, aA := A2, al := len2, ac := cap2, b0 := k3, b1 := n3, b2 := z3, bA := A3, bl := len3, bc := cap3 } := ⟨_, rfl⟩
      rw [← hs5] at hB5
      have hS5 : s5.tA = s.tA ∧ s5.tl = s.tl ∧ s5.tc = s.tc ∧ s5.eA = s.eA ∧ s5.el = s.el ∧ s5.ec = s.ec ∧ s5.cA = s.cA ∧ s5.cl = s.cl ∧ s5.cc = s.cc ∧ s5.wA = s.wA ∧ s5.wl = s.wl ∧ s5.wc = s.wc := by rw [hs5]; exact ⟨rfl, rfl, rfl, rfl, rfl, rfl, rfl, rfl, rfl, rfl, rfl, rfl⟩
      have hF5 : (s5.op = s.op ∧ s5.nm = s.nm ∧ s5.sec = s.sec ∧ s5.ab = s.ab ∧ s5.wh = s.wh) ∧ s5.a = .agg #[.int .u8 k2, .int .i64 n2, .string z2, .slice A2 len2 cap2] ∧ s5.b = .agg #[.int .u8 k3, .int .i64 n3, .string z3, .slice A3 len3 cap3] := by rw [hs5]; exact ⟨⟨rfl, rfl, rfl, rfl, rfl⟩, rfl, rfl⟩
      have HS5 := Lib.hid hS5
      have HF5 := Lib.hid hF5
      have hu35 : Upd p w3 w5 := hbut4.toUpd.trans hbut5.toUpd
      have HXA : Hid (IsExR w5 (OwnU w1.heap.size w5) s5.a xa) := Lib.hid (by rw [hF5.2.1]; exact exU HX2'.out hu35 hpw1)
      have HXB : Hid (IsExR w5 (OwnU w1.heap.size w5) s5.b xb) := Lib.hid (by rw [hF5.2.2]; exact exU HX3.out hu35 hpw1)
      have hb15 : Below wr.heap.size wr w5 := hbut5.below (by rw [HP.out]; exact Nat.le_refl _) (hbut4.below (by rw [HP.out]; exact Nat.le_refl _) (bnext HBR1.out HB13.out))
      have HBR5 := Lib.hid hb15
      have hw15 : w1.heap.size ≤ w5.heap.size := Nat.le_trans HB13.out.size hu35.size
      have HB5 := Lib.hid hB5
      have hpw5 := hB5.lt
      clear hs5 hS5 hF5 hbut4 hbut5 hB4 hB5 hu35 hb15 HX2' HX3 hS3 HB13 hw12 hw23
      have hk5 : ∀ w', Below w5.heap.size w5 w' → ∀ b, b < B → w'.heap[b]? = wr.heap[b]? := fun w' hb b hb' => (bnext HBR5.out hb).block b (by omega)
      have ct : ∀ w', Below w5.heap.size w5 w' → Calls Try.prog 43 #[.slice s5.tA s5.tl s5.tc] w' fun r w'' => ∃ A' cap', r = .returned (.slice A' t.length cap') ∧ LR (OwnU w'.heap.size w'') 256 A' t.length cap' t (fun b o => IsStsR w'' (OwnU w'.heap.size w'') b o t) ∧ Below w'.heap.size w' w'' := fun w' hb => by
        rw [HS5.out.1, HS5.out.2.1, HS5.out.2.2.1]
        exact HT.out w' B _ _ _ ((HS.out.form.2.2.2.2.1).imp fun b o hr hp => ⟨hr, IsSts.keep (hk5 w' hb) hr hp⟩) (by have := HBR5.out.size; have := hb.size; omega)
      have HCT := Lib.hid ct
      have ce : ∀ w', Below w5.heap.size w5 w' → Calls Try.prog 43 #[.slice s5.eA s5.el s5.ec] w' fun r w'' => ∃ A' cap', r = .returned (.slice A' e.length cap') ∧ LR (OwnU w'.heap.size w'') 256 A' e.length cap' e (fun b o => IsStsR w'' (OwnU w'.heap.size w'') b o e) ∧ Below w'.heap.size w' w'' := fun w' hb => by
        rw [HS5.out.2.2.2.1, HS5.out.2.2.2.2.1, HS5.out.2.2.2.2.2.1]
        exact HE.out w' B _ _ _ ((HS.out.form.2.2.2.2.2.1).imp fun b o hr hp => ⟨hr, IsSts.keep (hk5 w' hb) hr hp⟩) (by have := HBR5.out.size; have := hb.size; omega)
      have HCE := Lib.hid ce
      have cc : ∀ w', Below w5.heap.size w5 w' → Calls Try.prog 43 #[.slice s5.cA s5.cl s5.cc] w' fun r w'' => ∃ A' cap', r = .returned (.slice A' c.length cap') ∧ LR (OwnU w'.heap.size w'') 256 A' c.length cap' c (fun b o => IsStsR w'' (OwnU w'.heap.size w'') b o c) ∧ Below w'.heap.size w' w'' := fun w' hb => by
        rw [HS5.out.2.2.2.2.2.2.1, HS5.out.2.2.2.2.2.2.2.1, HS5.out.2.2.2.2.2.2.2.2.1]
        exact HC.out w' B _ _ _ ((HS.out.form.2.2.2.2.2.2.1).imp fun b o hr hp => ⟨hr, IsSts.keep (hk5 w' hb) hr hp⟩) (by have := HBR5.out.size; have := hb.size; omega)
      have HCC := Lib.hid cc
      clear ct ce cc hk5 HT HE HC
      go_upto_region 6 with (fail)
      refine RegT.region_mix (fun i => Nat.ble i 8) (fun W => BlkN W p 112 s5.arr) [(true, 0), (true, 1), (true, 3), (true, 4), (true, 6), (true, 7), (false, 2), (true, 9), (false, 5), (false, 8), (false, 10), (false, 11), (false, 12), (false, 13), (false, 14)] rfl (by kernel_rfl) (by kernel_rfl) (by decide) ?_
      have hS0 : BlkN w5.drew p 112 s5.arr := HB5.out
      refine RegT.seqM_quiet hS0 rfl (fun _ _ _ h => h) (by kernel_rfl) (v := .pointer (some ⟨p, 13, Option.none⟩)) (fun w' hS => ?_) ?_
      · go_simp
      refine RegT.seqM_quiet hS0 rfl (fun _ _ _ h => h) (by kernel_rfl) (v := .slice s5.tA s5.tl s5.tc) (fun w' hS => ?_) ?_
      · have hS : BlkN w' p 112 s5.arr := hS; have t13 := hS.cell 13 s5.at13; go_simp
      refine RegT.seqM_quiet hS0 rfl (fun _ _ _ h => h) (by kernel_rfl) (v := .pointer (some ⟨p, 14, Option.none⟩)) (fun w' hS => ?_) ?_
      · go_simp
      refine RegT.seqM_quiet hS0 rfl (fun _ _ _ h => h) (by kernel_rfl) (v := .slice s5.eA s5.el s5.ec) (fun w' hS => ?_) ?_
      · have hS : BlkN w' p 112 s5.arr := hS; have t14 := hS.cell 14 s5.at14; go_simp
      refine RegT.seqM_quiet hS0 rfl (fun _ _ _ h => h) (by kernel_rfl) (v := .pointer (some ⟨p, 15, Option.none⟩)) (fun w' hS => ?_) ?_
      · go_simp
      refine RegT.seqM_quiet hS0 rfl (fun _ _ _ h => h) (by kernel_rfl) (v := .slice s5.cA s5.cl s5.cc) (fun w' hS => ?_) ?_
      · have hS : BlkN w' p 112 s5.arr := hS; have t15 := hS.cell 15 s5.at15; go_simp
      have HD : Hid (Below w5.heap.size w5 w5.drew) := Lib.hid ((Below.refl _ _).drew)
      refine RegT.seqM_held rfl ?_
      go_wp2_with (go_at_call 43; with_reducible refine (HCT.out _ HD.out).mono ?_; rintro r6 w6 ⟨A6, cap6, rfl, hx6, hb6⟩)
      have hb56 : Below w5.heap.size w5 w6 := bnext HD.out hb6
      have hS6 : BlkN w6 p 112 s5.arr := HB5.out.below hb56
      have HX6 : Hid (LR (OwnU w5.heap.size w6) 256 A6 t.length cap6 t (fun b o => IsStsR w6 (OwnU w5.heap.size w6) b o t)) := Lib.hid hx6
      have HB56 := Lib.hid hb56
      have h56 := hb56.size
      clear hx6 hb6 hb56 hS0
      refine ⟨hS6, ?_⟩
      refine RegT.seqM_quiet hS6 rfl (fun _ _ _ h => h) (by kernel_rfl) (v := .pointer (some ⟨p, 13, Option.none⟩)) (fun w' hS => ?_) ?_
      · go_simp
      refine RegT.seqM_held rfl ?_
      go_wp2_with (go_at_call 43; with_reducible refine (HCE.out _ HB56.out).mono ?_; rintro r7 w7 ⟨A7, cap7, rfl, hx7, hb7⟩)
      have hS7 : BlkN w7 p 112 s5.arr := hS6.below hb7
      have HX7 : Hid (LR (OwnU w5.heap.size w7) 256 A7 e.length cap7 e (fun b o => IsStsR w7 (OwnU w5.heap.size w7) b o e)) := Lib.hid (lrU.low hx7 h56)
      have HX6' : Hid (LR (OwnU w5.heap.size w7) 256 A6 t.length cap6 t (fun b o => IsStsR w7 (OwnU w5.heap.size w7) b o t)) := Lib.hid (lrU HX6.out (Upd.ofBelow hb7 p) hpw5)
      have HB57 := Lib.hid (bnext HB56.out hb7)
      have h57 := HB57.out.size
      clear hx7 hb7 HX6 HB56 hS6 HCT
      refine ⟨hS7, ?_⟩
      refine RegT.seqM_held rfl ?_
      go_wp2_with (go_at_call 43; with_reducible refine (HCC.out _ HB57.out).mono ?_; rintro r8 w8 ⟨A8, cap8, rfl, hx8, hb8⟩)
      have hS8 : BlkN w8 p 112 s5.arr := hS7.below hb8
      have HX8 : Hid (LR (OwnU w5.heap.size w8) 256 A8 c.length cap8 c (fun b o => IsStsR w8 (OwnU w5.heap.size w8) b o c)) := Lib.hid (lrU.low hx8 h57)
      have HX7' : Hid (LR (OwnU w5.heap.size w8) 256 A7 e.length cap7 e (fun b o => IsStsR w8 (OwnU w5.heap.size w8) b o e)) := Lib.hid (lrU HX7.out (Upd.ofBelow hb8 p) hpw5)
      have HX6 : Hid (LR (OwnU w5.heap.size w8) 256 A6 t.length cap6 t (fun b o => IsStsR w8 (OwnU w5.heap.size w8) b o t)) := Lib.hid (lrU HX6'.out (Upd.ofBelow hb8 p) hpw5)
      have HB58 := Lib.hid (bnext HB57.out hb8)
      clear hx8 hb8 HX6' HX7 HB57 hS7 HCE HCC HD
      refine ⟨hS8, ?_⟩
      refine RegT.seqM_free rfl rfl ?_
      refine wpList_store_part rfl 50 (.tmp 31) (.tmp 24) rfl i42 HI42.out p 13 (.slice A6 t.length cap6) [.slice A6 t.length cap6] rfl rfl rfl 112 s5.arr ({ s5 with tA := A6, tl := t.length, tc := cap6 } : SV).arr hS8 (by rw [hi42]; rfl) (show _ ≤ 17 by simp) (by intro u hu; simp only [List.mem_cons, List.not_mem_nil, or_false] at hu; rcases hu with rfl; rfl) rfl ?_
      intro w9 hB9 hbut9
      refine RegT.wpList_end (RegT.seqM_free rfl rfl ?_)
      go_wp2_with fail
      refine RegT.seqM_free rfl rfl ?_
      refine wpList_store_part rfl 50 (.tmp 32) (.tmp 27) rfl i42 HI42.out p 14 (.slice A7 e.length cap7) [.slice A7 e.length cap7] rfl rfl rfl 112 _ ({ s5 with tA := A6, tl := t.length, tc := cap6, eA := A7, el := e.length, ec := cap7 } : SV).arr hB9 (by rw [hi42]; rfl) (show _ ≤ 17 by simp) (by intro u hu; simp only [List.mem_cons, List.not_mem_nil, or_false] at hu; rcases hu with rfl; rfl) rfl ?_
      intro w10 hB10 hbut10
      refine RegT.wpList_end (RegT.seqM_free rfl rfl ?_)
      go_wp2_with fail
      refine RegT.seqM_free rfl rfl ?_
      refine wpList_store_part rfl 50 (.tmp 33) (.tmp 30) rfl i42 HI42.out p 15 (.slice A8 c.length cap8) [.slice A8 c.length cap8] rfl rfl rfl 112 _ ({ s5 with tA := A6, tl := t.length, tc := cap6, eA := A7, el := e.length, ec := cap7, cA := A8, cl := c.length, cc := cap8 } : SV).arr hB10 (by rw [hi42]; rfl) (show _ ≤ 17 by simp) (by intro u hu; simp only [List.mem_cons, List.not_mem_nil, or_false] at hu; rcases hu with rfl; rfl) rfl ?_
      intro w11 hB11 hbut11
      refine RegT.wpList_end (RegT.seqM_end ?_)
      simp only [RegT.NP, Exit.then]
      obtain ⟨s11, hs11⟩ : ∃ s11 : SV, s11 = { s5 with tA := A6, tl := t.length, tc := cap6, eA := A7, el := e.length, ec := cap7, cA := A8, cl := c.length, cc := cap8 } := ⟨_, rfl⟩
      rw [← hs11] at hB11
      have hF11 : (s11.op = s.op ∧ s11.nm = s.nm ∧ s11.sec = s.sec ∧ s11.ab = s.ab ∧ s11.wh = s.wh) ∧ s11.a = s5.a ∧ s11.b = s5.b ∧ (s11.tA = A6 ∧ s11.tl = t.length ∧ s11.tc = cap6) ∧ (s11.eA = A7 ∧ s11.el = e.length ∧ s11.ec = cap7) ∧ (s11.cA = A8 ∧ s11.cl = c.length ∧ s11.cc = cap8) ∧ (s11.wA = s.wA ∧ s11.wl = s.wl ∧ s11.wc = s.wc) := by
        rw [hs11]; exact ⟨HF5.out.1, rfl, rfl, ⟨rfl, rfl, rfl⟩, ⟨rfl, rfl, rfl⟩, ⟨rfl, rfl, rfl⟩, HS5.out.2.2.2.2.2.2.2.2.2⟩
      have HF11 := Lib.hid hF11
      have hu811 : Upd p w8 w11 := (hbut9.toUpd.trans hbut10.toUpd).trans hbut11.toUpd
      have hu511 : Upd p w5 w11 := (Upd.ofBelow HB58.out p).trans hu811
      have HXA' : Hid (IsExR w11 (OwnU w1.heap.size w11) s5.a xa) := Lib.hid (exU HXA.out hu511 hpw1)
      have HXB' : Hid (IsExR w11 (OwnU w1.heap.size w11) s5.b xb) := Lib.hid (exU HXB.out hu511 hpw1)
      have HXT : Hid (LR (OwnU w1.heap.size w11) 256 A6 t.length cap6 t (fun b o => IsStsR w11 (OwnU w1.heap.size w11) b o t)) := Lib.hid (lrU.low (lrU HX6.out hu811 hpw5) hw15)
      have HXE' : Hid (LR (OwnU w1.heap.size w11) 256 A7 e.length cap7 e (fun b o => IsStsR w11 (OwnU w1.heap.size w11) b o e)) := Lib.hid (lrU.low (lrU HX7'.out hu811 hpw5) hw15)
      have HXC : Hid (LR (OwnU w1.heap.size w11) 256 A8 c.length cap8 c (fun b o => IsStsR w11 (OwnU w1.heap.size w11) b o c)) := Lib.hid (lrU.low (lrU HX8.out hu811 hpw5) hw15)
      have hb11 : Below wr.heap.size wr w11 := hbut11.below (by rw [HP.out]; exact Nat.le_refl _) (hbut10.below (by rw [HP.out]; exact Nat.le_refl _) (hbut9.below (by rw [HP.out]; exact Nat.le_refl _) (bnext HBR5.out HB58.out)))
      have HBR11 := Lib.hid hb11
      have hw111 : w1.heap.size ≤ w11.heap.size := Nat.le_trans hw15 hu511.size
      have HB11 := Lib.hid hB11
      have hpw11 := hB11.lt
      have q16 := hB11.cell 16 s11.at16
      have cw : Calls Try.prog 64 #[.slice s11.wA s11.wl s11.wc] w11 fun r w'' => ∃ A' cap', r = .returned (.slice A' ws.length cap') ∧ IsSsR w'' (OwnU w11.heap.size w'') (.slice A' ws.length cap') ws ∧ Below w11.heap.size w11 w'' := by
        rw [hF11.2.2.2.2.2.2.1, hF11.2.2.2.2.2.2.2.1, hF11.2.2.2.2.2.2.2.2]
        exact Clone126_any ws s.wA s.wl s.wc w11 B (by have := hb11.size; omega) (IsSsR.keep (fun b _ hl => hb11.block b (by omega)) HS.out.form.2.2.2.2.2.2.2)
      have HCW := Lib.hid cw
      clear hs11 hF11 hu811 hu511 hbut9 hbut10 hbut11 hB9 hB10 hB11 hb11 hS8 HX6 HX7' HX8 HB58 HXA HXB HB5 HS5 HF5 HBR5 hpw5 hw15 h56 h57 cw
      go_upto_region 8 with (first
        | (go_at_call 64; with_reducible refine HCW.out.mono ?_; rintro r12 w12 ⟨A12, cap12, rfl, hss12, hb12⟩)
        | (refine wpList_store_part rfl 110 (.tmp 37) (.tmp 36) rfl i56 HI56.out p 16 (.slice A12 ws.length cap12) [.slice A12 ws.length cap12] rfl rfl rfl 112 s11.arr ({ s11 with wA := A12, wl := ws.length, wc := cap12 } : SV).arr (HB11.out.below hb12) (by rw [hi56]; rfl) (show _ ≤ 17 by simp) (by intro u hu; simp only [List.mem_cons, List.not_mem_nil, or_false] at hu; rcases hu with rfl; rfl) rfl ?_; intro w13 hB13 hbut13))
      obtain ⟨s13, hs13⟩ : ∃ s13 : SV, s13 = { s11 with wA := A12, wl := ws.length, wc := cap12 } := ⟨_, rfl⟩
      rw [← hs13] at hB13
      have hu13 : Upd p w11 w13 := (Upd.ofBelow hb12 p).trans hbut13.toUpd
      have hb13 : Below wr.heap.size wr w13 := hbut13.below (by rw [HP.out]; exact Nat.le_refl _) (bnext HBR11.out hb12)
      have hst : IsStR w13 (OwnU w1.heap.size w13) s13 (.mk op nm sec ab wh xa xb t e c ws) := by
        have hf := HS.out.form
        have hF := HF11.out
        have e1 : s13.op = s11.op ∧ s13.nm = s11.nm ∧ s13.sec = s11.sec ∧ s13.ab = s11.ab ∧ s13.wh = s11.wh ∧ s13.a = s11.a ∧ s13.b = s11.b ∧ s13.tA = s11.tA ∧ s13.tl = s11.tl ∧ s13.tc = s11.tc ∧ s13.eA = s11.eA ∧ s13.el = s11.el ∧ s13.ec = s11.ec ∧ s13.cA = s11.cA ∧ s13.cl = s11.cl ∧ s13.cc = s11.cc ∧ s13.wA = A12 ∧ s13.wl = ws.length ∧ s13.wc = cap12 := by
          rw [hs13]; exact ⟨rfl, rfl, rfl, rfl, rfl, rfl, rfl, rfl, rfl, rfl, rfl, rfl, rfl, rfl, rfl, rfl, rfl, rfl, rfl⟩
        obtain ⟨f1, f2, f3, f4, f5, f6, f7, f8, f9, f10, f11, f12, f13, f14, f15, f16, f17, f18, f19⟩ := e1
        unfold IsStR
        refine ⟨?_, hf.2.1, ?_, ?_, ?_, ?_, ?_, ?_⟩
        · rw [f1, f2, f3, f4, f5, hF.1.1, hF.1.2.1, hF.1.2.2.1, hF.1.2.2.2.1, hF.1.2.2.2.2]; exact hf.1
        · rw [f6, hF.2.1]; exact exU HXA'.out hu13 hpw1
        · rw [f7, hF.2.2.1]; exact exU HXB'.out hu13 hpw1
        · rw [f8, f9, f10, hF.2.2.2.1.1, hF.2.2.2.1.2.1, hF.2.2.2.1.2.2]; exact lrU HXT.out hu13 hpw1
        · rw [f11, f12, f13, hF.2.2.2.2.1.1, hF.2.2.2.2.1.2.1, hF.2.2.2.2.1.2.2]; exact lrU HXE'.out hu13 hpw1
        · rw [f14, f15, f16, hF.2.2.2.2.2.1.1, hF.2.2.2.2.2.1.2.1, hF.2.2.2.2.2.1.2.2]; exact lrU HXC.out hu13 hpw1
        · rw [f17, f18, f19]; exact IsSsR.mono (fun b o hr => hr.low hw111) (ssU hss12 hbut13.toUpd hpw11)

      have hw113 : w1.heap.size ≤ w13.heap.size := Nat.le_trans hw111 hu13.size
      have HST := Lib.hid hst
      have HB13 := Lib.hid hB13
      have hgc0 : BlkN w13 g 112 cur := HCU.out.below hb13
      have HGC := Lib.hid hgc0
      have hg13 := hgc0.lt
      have HU13 := Lib.hid hb13
      clear hst hB13 hgc0 hu13 hb13 hbut13 hss12 hb12 hs13
      refine wp_region_lit ?_
      iterate 2 (refine wpList_move rfl _ rfl ?_)
      refine wpList_load_blk rfl 112 (.tmp 4) rfl ⟨p, 0, Option.none⟩ rfl (.agg s13.arr) (run_loadVar_blk Try.underlying112 HIN.out HB13.out (by rw [hz1]; rfl)) ?_
      go_wp2_with (refine wpList_store_part rfl 112 (.tmp 41) (.tmp 40) rfl i0 HIN.out g (j * 17) (.agg s13.arr) s13.arr.toList rfl rfl rfl 112 cur (cur.toList.take (j * 17) ++ s13.arr.toList ++ cur.toList.drop (j * 17 + s13.arr.toList.length)).toArray HGC.out (by rw [hz1]; rfl) (show j * 17 + 17 ≤ cur.size by omega) (SV.one _) rfl ?_; intro w14 hB14 hbut14)
      have hgB : B ≤ g := by omega
      have hV4 : NRg 112 17 w14 w.heap.size (.slice (some ⟨g, 0, Option.none⟩) l.length cap1) l.length (OwnTo RdS w14 w.heap.size B (.slice (some ⟨g, 0, Option.none⟩) l.length cap1) l (j + 1)) := by
        refine NRg.store ((HV.out.below HU13.out).imp fun i cs hi hp => hp.below hB2 HU13.out) j hlt rfl HGC.out hB14 rfl (fun i ds hij hi hp => (hp.but rfl hgB hbut14).next hij) ⟨hlt, ?_⟩
        rw [if_pos (by omega)]
        refine ⟨s13, rfl, ?_⟩
        rw [← HX0.out]
        have hgp : g < p := by rw [HP.out]; exact hgl
        exact IsStR.mono (fun b o hr => ⟨(hr.of (hbut14.other b (by have := hr.1; omega))).low (by have := HP.out; omega), fun e => by have := hr.1; simp [Value.ownBlock] at e; omega⟩) (IsStR.keep (fun b o hr => hbut14.other b (by have := hr.1; omega)) HST.out)
      exact ⟨⟨j + 1, by omega, by go_num, hV4, hbut14.below hlo (bnext HU.out HU13.out)⟩, by simp [intOf]; omega⟩
    · obtain rfl : j = l.length := by omega
      go_wp2_with fail
      go_ret
      refine ⟨A1, cap1, rfl, ⟨rfl, hcap1, hlen, fun hne => ?_⟩, HU.out⟩
      have hpos : 0 < l.length := List.length_pos_iff.2 hne
      obtain ⟨g, cap', cur, he, hlo, hcur, hcapc, hcs, hel⟩ := HV.out.open hpos
      simp only [Value.slice.injEq] at he
      obtain ⟨rfl, _, rfl⟩ := he
      refine ⟨g, 0, ⟨hlo, cur, 112, hcur⟩, rfl, RdS.list fun i hi => ?_⟩
      obtain ⟨cs, hcl, hat, hi', hp⟩ := hel i hi
      rw [if_pos hi] at hp
      exact ⟨cs, hcl, by rw [Nat.zero_add]; exact hat, RdS.mono (fun b o hr => hr.1) hp⟩
theorem sub_any (x : St) : SubC x := by
  induction x using St.ind with
  | h op nm sec ab wh a b t e c ws IHt IHe IHc => exact ⟨ownCode_step t IHt, ownCode_step e IHe, ownCode_step c IHc⟩
theorem ownCode_any (l : List St) : WCodeC l := ownCode_step l fun x _ => sub_any x
end Go.Proofs.Ythafojadcodkoaa
