/- held, names. -/
import Derived.Test.YthafojadcodkoaaTz
namespace Go.Proofs.Ythafojadcodkoaa
open Go.RowKit

theorem run_append_none {P : Program} (w : World) (t ty e : TypeId) (i : TypeInfo) (ht : P.underlying t = some (.slice e)) (hi : P.info? e = some i) (a : Option Addr) (n cap : Nat) (ha : ∀ b, a = some b → ∃ g o, b = ⟨g, o, Option.none⟩) (hn : n ≤ cap) :
    (Builtin.append_ #[t, t] ty #[.slice a n cap, .slice Option.none 0 0]).run P w = .ok (.slice a n cap) w := by
  have hst : ∀ b, (storeCells b []).run P w = .ok () w := fun b => by unfold storeCells; rfl
  cases a with
  | none => simp [Builtin.append_, run_underlying ht, sizeOf, typeInfo, hi, Builtin.lenOf, hn, Builtin.firstCells]
  | some b => simp [Builtin.append_, run_underlying ht, sizeOf, typeInfo, hi, Builtin.lenOf, hn, Builtin.firstCells, hst]
theorem wpList_append_irow (w : World) {ops : Array Oper} {rest : List Oper} {o : Oper} {a : Act} {Q : Exit → Act → World → Prop} (hgd : o.guard = Option.none) (s x : Operand)
    (ho : o.op = .call { callee := .builtin .append, args := #[s, x], argTypes := #[69, 69] })
    (lo : Nat) (v : Value) (xs : List Int) (hs : a.eval s = v) (hown : IRow w lo v xs) (lo2 : Nat) (v2 : Value) (ys : List Int) (hx : a.eval x = v2) (hown2 : IRow w lo2 v2 ys)
    (hlen : xs.length + ys.length ≤ 2000000) (hbase : lo ≤ w.heap.size)
    (h : ∀ v' w', IRow w' lo v' (xs ++ ys) → w.grownBy w' v.ownBlock → wpList Try.prog ops Q rest (a.put o.dst v') w') : wpList Try.prog ops Q (o :: rest) a w := by
  obtain ⟨i0, hi, hz0, hz1, hz2⟩ := info_parts info25
  rcases hown2.2 with ⟨rfl, h0⟩ | ⟨g, cap, cur, rfl, hb, hg, hc, h7, h8, h9⟩
  · have hy : ys = [] := List.length_eq_zero_iff.1 h0
    subst hy
    refine wpList_plain hgd fun K hK => ?_
    have hr : ∃ A cap, v = .slice A xs.length cap ∧ (∀ b, A = some b → ∃ g o, b = ⟨g, o, Option.none⟩) ∧ xs.length ≤ cap := by
      rcases hown.2 with ⟨rfl, h0⟩ | ⟨g, cap, cur, rfl, hb, hg, hc, h7, h8, h9⟩
      · exact ⟨_, _, by rw [h0], (fun b hb => by cases hb), by omega⟩
      · exact ⟨_, _, rfl, (fun b hb => by cases hb; exact ⟨_, _, rfl⟩), hc⟩
    obtain ⟨A, cap, rfl, ha, hn⟩ := hr
    have hrun := run_append_none (P := Try.prog) w 69 o.type 25 i0 Try.underlying69 hi A xs.length cap ha hn
    unfold Oper.wp execOp
    simp only [ho, resolve, invoke, builtin, Sem.run_bind, Sem.run_pure, Result.andThen_ok, List.map_toArray, List.map_cons, List.map_nil, hs, hx, hrun]
    refine hK _ _ (h _ w (by simpa using hown) ⟨rfl, rfl, rfl, Nat.le_refl _, fun _ _ _ => rfl⟩)
  · have hB : BlkN w g 25 cur := hg
    refine wpList_append_row w hgd s x 69 ho lo 25 i0 (.int .i64 0) 1 8 Try.underlying69 hi hz0 hz1 hz2 rfl (by decide) v xs.length (xs.map (Value.int .i64)) hs hown ⟨g, 0, Option.none⟩ ys.length cap (ys.map (Value.int .i64)) hx (by simp) (fun j u hu => ?_) (fun u hu => ?_) (by unfold maxLen; omega) (by omega) hbase ?_
    · rw [Addr.add_lit, Nat.zero_add]
      refine hB.cell j ?_
      have hj : j < ys.length * 1 := by
        rcases Nat.lt_or_ge j ys.length with h | h
        · omega
        · rw [List.getElem?_eq_none (by simpa using h)] at hu; cases hu
      rw [← h9, List.getElem?_take_of_lt hj] at hu
      simpa using hu
    · obtain ⟨y, _, rfl⟩ := List.mem_map.1 hu; rfl
    · intro v' w' h1 h2 h3
      refine h v' w' ?_ h2
      unfold IRow
      rw [List.map_append, List.length_append]
      exact h1
theorem bnextM {n : Nat} {w W W' : World} (h : Below n w W) (h2 : Below W.heap.size W W') (hn : n ≤ W.heap.size) : Below n w W' := h.trans (h2.mono hn)
def refNm : List (ByteArray × Va) → Nat
  | [] => 0
  | x :: l => refN x.2 + refNm l
theorem refNm_take : ∀ (l : List (ByteArray × Va)) (k : Nat) (h : k < l.length), refNm (l.take (k + 1)) = refNm (l.take k) + refN l[k].2
  | [], k, h => by simp at h
  | x :: l, 0, h => by simp [refNm]
  | x :: l, k + 1, h => by
    rw [List.take_succ_cons, List.take_succ_cons, refNm, refNm, refNm_take l k (by simpa using h)]
    simp; omega
section
attribute [local irreducible] wpList
set_option maxRecDepth 100000 in
set_option maxHeartbeats 16000000 in
theorem held_any (w : World) (s : WV) (x : Pt) {B : Nat} (hx : IsWh w (fun b _ => b < B) s x) (hB : B ≤ w.heap.size) (h5 : s.sl ≤ 512) (h6 : s.nl ≤ 64) :
    Calls Try.prog 52 #[.agg s.arr] w fun e w' => Below w.heap.size w w' ∧ ∃ rv xs, e = .returned rv ∧ IRow w' w.heap.size rv xs ∧ xs.length ≤ 300000 ∧ xs.length ≤ refN x.v + refNs x.vs + refNm x.nm := by
  obtain ⟨-, hv, hvs, -, hnm⟩ := hx
  obtain ⟨W, hW⟩ : ∃ W, W = w.alloc (.cells s.arr 53) := ⟨_, rfl⟩
  have hb : Below w.heap.size w W := by rw [hW]; exact (Below.refl _ _).alloc (Nat.le_refl _) _
  have hbx : BlkN W w.heap.size 53 s.arr := by rw [hW]; exact BlkN.at_ rfl _ _
  have HB := Lib.hid hb
  have HBX := Lib.hid hbx
  have HVS := Lib.hid hvs
  have HNM := Lib.hid hnm
  obtain ⟨hsl, hscap, -, -⟩ := hvs
  obtain ⟨hnl, hncap, -, -⟩ := hnm
  have HSL := Lib.hid hsl
  have HNL := Lib.hid hnl
  have hscap : s.sl ≤ s.sc := by omega
  have hncap : s.nl ≤ s.nc := by omega
  have C68 : Hid (∀ w', Below W.heap.size W w' → Calls Try.prog 68 #[.agg #[.int .u8 s.v0, .int .i64 s.v1, .string s.v2, .slice s.vA s.vl s.vc, .int .i64 s.v4]] w' fun e w2 => Below w'.heap.size w' w2 ∧ ∃ rv xs, e = .returned rv ∧ IRow w2 w'.heap.size rv xs ∧ xs.length ≤ 512 ∧ xs.length ≤ refN x.v) :=
    Lib.hid fun w' hb' => refs68_any w' (IsVaR.keep (fun b o hb2 => (hb'.block b (by have := hb.size; omega)).trans (hb.block b (Nat.lt_of_lt_of_le hb2 hB))) hv) (by have := hb.size; have := hb'.size; omega)
  have hWs : W.heap.size = w.heap.size + 1 := by rw [hW]; simp
  have HWS := Lib.hid hWs
  have hWl : w.heap.size < W.heap.size := by omega
  have q2 := hbx.cell (v := .int .u8 s.v0) 2 rfl
  have q3 := hbx.cell (v := .int .i64 s.v1) 3 rfl
  have q4 := hbx.cell (v := .string s.v2) 4 rfl
  have q5 := hbx.cell (v := .slice s.vA s.vl s.vc) 5 rfl
  have q6 := hbx.cell (v := .int .i64 s.v4) 6 rfl
  clear hv hb hbx hsl hnl hWs
  go_enter Try.func52, Try.ntmps52
  go_upto_region 1 with fail
  rw [← hW]
  clear hW
  go_upto_region 3 with (go_at_call 68; with_reducible refine (C68.out _ (Below.refl _ _)).mono ?_; rintro e w1 ⟨hb1, rv1, xs1, rfl, hr1, hx1, hy1⟩; have HB1 := Lib.hid hb1; have HR1 := Lib.hid hr1; have q7 := (HBX.out.below hb1).cell (v := .slice s.sA s.sl s.sc) 7 rfl; clear hb1 hr1)
  clear C68 q2 q3 q4 q5 q6
  go_loopw [14, 3] (fun i rv wr => ∃ (j : Nat) (xs : List Int), j ≤ s.sl ∧ i = .int .i64 j ∧ IRow wr W.heap.size rv xs ∧ xs.length ≤ 512 * (j + 1) ∧ xs.length ≤ refN x.v + refNs (x.vs.take j) ∧ Below W.heap.size W wr) (fun i _ _ => s.sl - (intOf i).toNat)
  case atStart => exact ⟨0, xs1, Nat.zero_le _, rfl, HR1.out, by omega, by simp only [List.take_zero, refNs]; omega, HB1.out⟩
  case round =>
    obtain ⟨j, xs, hj, rfl, hr, hx1', hx2, hbr⟩ := hrel
    have HR := Lib.hid hr
    have HBR := Lib.hid hbr
    have HX2 := Lib.hid hx2
    have hwr := hbr.size
    clear hr hbr HR1 HB1 hx2 q7
    by_cases hlt : j < s.sl
    · have hlt' : j < x.vs.length := by have := HSL.out; omega
      obtain ⟨b, o, hbB, hA, hx⟩ := HVS.out.2.2.2 (by rintro h; rw [h] at hlt'; simp at hlt')
      obtain ⟨k', n', s', A', len', cap', r', hat, hxv⟩ := hx.at2 j hlt'
      have hkw : ∀ b', b' < B → wr.heap[b']? = w.heap[b']? := fun b' hb' => (HBR.out.block b' (by omega)).trans (HB.out.block b' (by omega))
      have hat : At wr b (o + j * 5) [.int .u8 k', .int .i64 n', .string s', .slice A' len' cap', .int .i64 r'] := fun i v hi => (World.cell?_of_block (w := w) (hkw b hbB)).trans (hat i v hi)
      have hrt := refNs_take x.vs j hlt'
      obtain ⟨X, hX⟩ : ∃ X, X = x.vs[j] := ⟨_, rfl⟩
      rw [← hX] at hxv hrt
      have C68 : Hid (∀ w', Below wr.heap.size wr w' → Calls Try.prog 68 #[.agg #[.int .u8 k', .int .i64 n', .string s', .slice A' len' cap', .int .i64 r']] w' fun e w2 => Below w'.heap.size w' w2 ∧ ∃ rv xs, e = .returned rv ∧ IRow w2 w'.heap.size rv xs ∧ xs.length ≤ 512 ∧ xs.length ≤ refN X) :=
        Lib.hid fun w' hb' => refs68_any w' (IsVaR.keep (fun b o hb2 => (hb'.block b (by omega)).trans (hkw b hb2)) hxv) (by have := hb'.size; omega)
      have HRT := Lib.hid hrt
      have hA' : s.sA = some ⟨b, o, Option.none⟩ := hA
      have e0 := hat 0 _ rfl
      have e1 := hat 1 _ rfl
      have e2 := hat 2 _ rfl
      have e3 := hat 3 _ rfl
      have e4 := hat 4 _ rfl
      rw [Nat.add_zero] at e0
      clear hx hat hxv hkw hX hrt hA
      rw [hA']
      go_upto_region 5 with fail
      obtain ⟨V, hV⟩ : ∃ V, V = wr.alloc (.cells #[.int .u8 k', .int .i64 n', .string s', .slice A' len' cap', .int .i64 r'] 49) := ⟨_, rfl⟩
      have HBV : Hid (Below wr.heap.size wr V) := Lib.hid (by rw [hV]; exact (Below.refl _ _).alloc (Nat.le_refl _) _)
      have HVB : Hid (BlkN V wr.heap.size 49 #[.int .u8 k', .int .i64 n', .string s', .slice A' len' cap', .int .i64 r']) := Lib.hid (by rw [hV]; exact BlkN.at_ rfl _ _)
      rw [← hV]
      clear hV e0 e1 e2 e3 e4
      have t0 := HVB.out.cell (v := .int .u8 k') 0 rfl
      have t1 := HVB.out.cell (v := .int .i64 n') 1 rfl
      have t2 := HVB.out.cell (v := .string s') 2 rfl
      have t3 := HVB.out.cell (v := .slice A' len' cap') 3 rfl
      have t4 := HVB.out.cell (v := .int .i64 r') 4 rfl
      go_upto_region 6 with (first
        | (go_at_call 68; with_reducible refine (C68.out _ HBV.out).mono ?_; rintro e w2 ⟨hb2, rv2, xs2, rfl, hr2, hx2, hy2⟩; have HB2 := Lib.hid hb2; have HR2 := Lib.hid hr2; clear hb2 hr2)
        | (refine wpList_append_irow _ rfl (.tmp 18) (.tmp 20) rfl W.heap.size _ xs rfl ((HR.out.below HBV.out).below HB2.out) V.heap.size rv2 xs2 rfl HR2.out (by omega) (by have := HBV.out.size; have := HB2.out.size; omega) ?_
           intro v3 w3 hr3 hg3
           have HR3 := Lib.hid hr3
           have HG3 := Lib.hid hg3
           clear hr3 hg3))
      have hb3 : Below W.heap.size W w3 := ((bnextM (bnextM HBR.out HBV.out hwr) HB2.out (by have := HBV.out.size; omega))).grown HG3.out (by have := HBV.out.size; have := HB2.out.size; omega) (fun g hg => (HR.out.blk hg).1)
      have HB3 := Lib.hid hb3
      clear hb3 HG3
      go_wp2_with fail
      go_roundw
      case rel => exact ⟨j + 1, xs ++ xs2, by omega, by go_num, HR3.out, by simp; omega, by have := HRT.out; have := HX2.out; simp; omega, HB3.out⟩
      case measure => simp [intOf]; omega
    · obtain rfl : j = s.sl := by omega
      have hx3 : xs.length ≤ refN x.v + refNs x.vs := by
        have h1 := HX2.out
        rw [HSL.out, List.take_length] at h1
        exact h1
      have q15 := (HBX.out.below HBR.out).cell (v := .slice s.nA s.nl s.nc) 15 rfl
      go_upto_region 8 with fail
      clear q15
      go_loopw [26, 3] (fun i rv wr => ∃ (j : Nat) (ys : List Int), j ≤ s.nl ∧ i = .int .i64 j ∧ IRow wr W.heap.size rv ys ∧ ys.length ≤ 512 * (s.sl + j + 1) ∧ ys.length ≤ refN x.v + refNs x.vs + refNm (x.nm.take j) ∧ Below W.heap.size W wr) (fun i _ _ => s.nl - (intOf i).toNat)
      case atStart => exact ⟨0, xs, Nat.zero_le _, rfl, HR.out, by omega, by simp only [List.take_zero, refNm]; omega, HBR.out⟩
      case round =>
        obtain ⟨j, ys, hj, rfl, hr, hx1', hx2, hbr⟩ := hrel
        clear HR HBR
        have HR := Lib.hid hr
        have HBR := Lib.hid hbr
        have HX3 := Lib.hid hx2
        have hwr := hbr.size
        clear hr hbr hx2
        by_cases hlt : j < s.nl
        · have hlt' : j < x.nm.length := by have := HNL.out; omega
          obtain ⟨b, o, hbB, hA, hx⟩ := HNM.out.2.2.2 (by rintro h; rw [h] at hlt'; simp at hlt')
          obtain ⟨c0, c1, c2, c3, c4, hnz, hat, hxv⟩ := hx.at j hlt'
          obtain ⟨k', n', s', A', len', cap', r', hsh⟩ := hxv.shape
          simp only [Value.agg.injEq, Array.mk.injEq, List.cons.injEq, and_true] at hsh
          obtain ⟨rfl, rfl, rfl, rfl, rfl⟩ := hsh
          have hkw : ∀ b', b' < B → wr.heap[b']? = w.heap[b']? := fun b' hb' => (HBR.out.block b' (by omega)).trans (HB.out.block b' (by omega))
          have hat : At wr b (o + j * 6) [.string x.nm[j].1, .int .u8 k', .int .i64 n', .string s', .slice A' len' cap', .int .i64 r'] := fun i v hi => (World.cell?_of_block (w := w) (hkw b hbB)).trans (hat i v hi)
          have hrt := refNm_take x.nm j hlt'
          obtain ⟨X, hX⟩ : ∃ X, X = x.nm[j].2 := ⟨_, rfl⟩
          obtain ⟨nz, hnz'⟩ : ∃ nz, nz = x.nm[j].1 := ⟨_, rfl⟩
          rw [← hX] at hxv hrt
          rw [← hnz'] at hat
          have C68 : Hid (∀ w', Below wr.heap.size wr w' → Calls Try.prog 68 #[.agg #[.int .u8 k', .int .i64 n', .string s', .slice A' len' cap', .int .i64 r']] w' fun e w2 => Below w'.heap.size w' w2 ∧ ∃ rv xs, e = .returned rv ∧ IRow w2 w'.heap.size rv xs ∧ xs.length ≤ 512 ∧ xs.length ≤ refN X) :=
            Lib.hid fun w' hb' => refs68_any w' (IsVaR.keep (fun b o hb2 => (hb'.block b (by omega)).trans (hkw b hb2)) hxv) (by have := hb'.size; omega)
          have HRT := Lib.hid hrt
          have hA' : s.nA = some ⟨b, o, Option.none⟩ := hA
          have e0 := hat 0 _ rfl
          have e1 := hat 1 _ rfl
          have e2 := hat 2 _ rfl
          have e3 := hat 3 _ rfl
          have e4 := hat 4 _ rfl
          have e5 := hat 5 _ rfl
          rw [Nat.add_zero] at e0
          clear hx hat hxv hkw hX hrt hA hnz hnz'
          rw [hA']
          go_upto_region 10 with fail
          obtain ⟨V, hV⟩ : ∃ V, V = wr.alloc (.cells #[.string nz, .int .u8 k', .int .i64 n', .string s', .slice A' len' cap', .int .i64 r'] 81) := ⟨_, rfl⟩
          have HBV : Hid (Below wr.heap.size wr V) := Lib.hid (by rw [hV]; exact (Below.refl _ _).alloc (Nat.le_refl _) _)
          have HVB : Hid (BlkN V wr.heap.size 81 #[.string nz, .int .u8 k', .int .i64 n', .string s', .slice A' len' cap', .int .i64 r']) := Lib.hid (by rw [hV]; exact BlkN.at_ rfl _ _)
          rw [← hV]
          clear hV e0 e1 e2 e3 e4 e5
          have t0 := HVB.out.cell (v := .int .u8 k') 1 rfl
          have t1 := HVB.out.cell (v := .int .i64 n') 2 rfl
          have t2 := HVB.out.cell (v := .string s') 3 rfl
          have t3 := HVB.out.cell (v := .slice A' len' cap') 4 rfl
          have t4 := HVB.out.cell (v := .int .i64 r') 5 rfl
          go_upto_region 11 with (first
            | (go_at_call 68; with_reducible refine (C68.out _ HBV.out).mono ?_; rintro e w2 ⟨hb2, rv2, xs2, rfl, hr2, hx2, hy2⟩; have HB2 := Lib.hid hb2; have HR2 := Lib.hid hr2; clear hb2 hr2)
            | (refine wpList_append_irow _ rfl (.tmp 30) (.tmp 33) rfl W.heap.size _ ys rfl ((HR.out.below HBV.out).below HB2.out) V.heap.size rv2 xs2 rfl HR2.out (by omega) (by have := HBV.out.size; have := HB2.out.size; omega) ?_
               intro v3 w3 hr3 hg3
               have HR3 := Lib.hid hr3
               have HG3 := Lib.hid hg3
               clear hr3 hg3))
          have hb3 : Below W.heap.size W w3 := ((bnextM (bnextM HBR.out HBV.out hwr) HB2.out (by have := HBV.out.size; omega))).grown HG3.out (by have := HBV.out.size; have := HB2.out.size; omega) (fun g hg => (HR.out.blk hg).1)
          have HB3 := Lib.hid hb3
          clear hb3 HG3
          go_wp2_with fail
          go_roundw
          case rel => exact ⟨j + 1, ys ++ xs2, by omega, by go_num, HR3.out, by simp; omega, by have := HRT.out; have := HX3.out; simp; omega, HB3.out⟩
          case measure => simp [intOf]; omega
        · obtain rfl : j = s.nl := by omega
          have h1 := HX3.out
          rw [HNL.out, List.take_length] at h1
          have HX4 := Lib.hid h1
          clear h1
          go_wp2_with fail
          go_ret
          exact ⟨bnextM HB.out HBR.out (by omega), _, ys, rfl, HR.out.low (by omega), by omega, HX4.out⟩
variable {w : World} {hi p tm fm : Nat} {ps cs ms : Value} {L : List Ent} {FL : List ((Int × Nat) × Int)} {lt : Int}
set_option maxRecDepth 100000 in
theorem isb53_any (h : Wd w hi p tm fm ps cs ms L FL lt) (r : Int) (cw : Nat) (hc : BlkN w cw 30 #[.pointer (some ⟨p, 0, Option.none⟩)]) :
    Calls Try.prog 53 #[.int .i64 r, .pointer (some ⟨cw, 0, Option.none⟩)] w fun e w' => (∃ β : Bool, e = .returned (.bool β)) ∧ w = w' := by
  have C6 := Lib.hid (is_any h r)
  have d0 := hc.cell (v := .pointer (some ⟨p, 0, Option.none⟩)) 0 rfl
  clear h hc
  go_enter Try.func53, Try.ntmps53
  go_wp2_with (go_at_call 6; with_reducible refine C6.out.mono ?_; rintro e w' ⟨rfl, rfl⟩)
  go_ret
  exact ⟨⟨_, rfl⟩, by trivial⟩
set_option maxRecDepth 100000 in
set_option maxHeartbeats 2000000 in
theorem index67_any (h : Wd w hi p tm fm ps cs ms L FL lt) (cw : Nat) (hc : BlkN w cw 30 #[.pointer (some ⟨p, 0, Option.none⟩)]) (rv : Value) (xs : List Int) (lo : Nat) (hr : IRow w lo rv xs) (hl : xs.length ≤ 2000000) :
    Calls Try.prog 67 #[rv, .func (.func 53) #[] #[.pointer (some ⟨cw, 0, Option.none⟩)]] w fun e w' => (∃ i : Int, e = .returned (.int .i64 i) ∧ (xs = [] → i = -1)) ∧ w = w' := by
  obtain ⟨A, cap, rfl⟩ := hr.slice
  have HR := Lib.hid hr
  have C53 := Lib.hid (fun r => isb53_any h r cw hc)
  clear h hc hr
  go_enter Try.func67, Try.ntmps67
  go_wp2_with fail
  go_loopw [8] (fun i wr => ∃ k : Nat, k ≤ xs.length ∧ i = .int .i64 k ∧ w = wr) (fun i _ => xs.length - (intOf i).toNat)
  case atStart => exact ⟨0, Nat.zero_le _, rfl, by trivial⟩
  case round =>
    obtain ⟨k, hk, rfl, rfl⟩ := hrel
    by_cases hlt : k < xs.length
    · obtain ⟨g, cp, he, hcell⟩ := HR.out.get k hlt
      simp only [Value.slice.injEq] at he
      obtain ⟨rfl, -, rfl⟩ := he
      obtain ⟨y, hy⟩ : ∃ y, y = xs[k] := ⟨_, rfl⟩
      rw [← hy] at hcell
      have hne : Hid (xs ≠ []) := Lib.hid (by rintro h; rw [h] at hlt; simp at hlt)
      clear hy
      go_wp2_with (go_at_call 53; with_reducible refine (C53.out y).mono ?_; rintro e w1 ⟨⟨β, rfl⟩, rfl⟩)
      · go_ret
        exact ⟨⟨_, rfl, fun h => absurd h hne.out⟩, by trivial⟩
      · go_roundw
        case rel => exact ⟨k + 1, by omega, by go_num, by trivial⟩
        case measure => simp [intOf]; omega
    · obtain rfl : k = xs.length := by omega
      go_wp2_with fail
      go_ret
      exact ⟨⟨_, rfl, fun _ => by trivial⟩, by trivial⟩
set_option maxRecDepth 100000 in
theorem contains51_any (h : Wd w hi p tm fm ps cs ms L FL lt) (cw : Nat) (hc : BlkN w cw 30 #[.pointer (some ⟨p, 0, Option.none⟩)]) (rv : Value) (xs : List Int) (lo : Nat) (hr : IRow w lo rv xs) (hl : xs.length ≤ 2000000) :
    Calls Try.prog 51 #[rv, .func (.func 53) #[] #[.pointer (some ⟨cw, 0, Option.none⟩)]] w fun e w' => (∃ β : Bool, e = .returned (.bool β) ∧ (xs = [] → β = false)) ∧ w = w' := by
  have C67 := Lib.hid (index67_any h cw hc rv xs lo hr hl)
  clear h hc hr
  go_enter Try.func51, Try.ntmps51
  go_wp2_with (go_at_call 67; with_reducible refine C67.out.mono ?_; rintro e w' ⟨⟨i, rfl, hi⟩, rfl⟩)
  go_ret
  exact ⟨⟨_, rfl, fun h => by rw [hi h]; rfl⟩, by trivial⟩
set_option maxRecDepth 100000 in
set_option maxHeartbeats 2000000 in
theorem names27_any (h : Wd w hi p tm fm ps cs ms L FL lt) (s : WV) (x : Pt) {B : Nat} (hx : IsWh w (fun b _ => b < B) s x) (hB : B ≤ w.heap.size) (h5 : s.sl ≤ 512) (h6 : s.nl ≤ 64) :
    Calls Try.prog 27 #[.pointer (some ⟨p, 0, Option.none⟩), .agg s.arr] w fun e w' => Below w.heap.size w w' ∧ ∃ β : Bool, e = .returned (.bool β) ∧ (refN x.v + refNs x.vs + refNm x.nm = 0 → β = true) := by
  obtain ⟨W, hW⟩ : ∃ W, W = (w.alloc (.cells #[.pointer (some ⟨p, 0, Option.none⟩)] 30)).alloc (.cells s.arr 53) := ⟨_, rfl⟩
  have hb : Below w.heap.size w W := by rw [hW]; exact ((Below.refl _ _).alloc (Nat.le_refl _) _).alloc (by simp) _
  have hbp : BlkN W w.heap.size 30 #[.pointer (some ⟨p, 0, Option.none⟩)] := by rw [hW]; exact (BlkN.at_ rfl _ _).alloc _
  have hbx : BlkN W (w.heap.size + 1) 53 s.arr := by rw [hW]; exact BlkN.at_ (by simp) _ _
  have C52 := Lib.hid (held_any W s x (hx.keep fun b o hb' => hb.block b (Nat.lt_of_lt_of_le hb' hB)) (Nat.le_trans hB hb.size) h5 h6)
  have HW := Lib.hid (h.below hb)
  have HB := Lib.hid hb
  have HP := Lib.hid hbp
  have q0 := hbx.cell (v := .int .u8 s.k) 0 rfl
  have q1 := hbx.cell (v := .int .i64 s.home) 1 rfl
  have q2 := hbx.cell (v := .int .u8 s.v0) 2 rfl
  have q3 := hbx.cell (v := .int .i64 s.v1) 3 rfl
  have q4 := hbx.cell (v := .string s.v2) 4 rfl
  have q5 := hbx.cell (v := .slice s.vA s.vl s.vc) 5 rfl
  have q6 := hbx.cell (v := .int .i64 s.v4) 6 rfl
  have q7 := hbx.cell (v := .slice s.sA s.sl s.sc) 7 rfl
  have q8 := hbx.cell (v := .int .i64 s.n) 8 rfl
  have q9 := hbx.cell (v := .int .i64 s.lost) 9 rfl
  have q10 := hbx.cell (v := .int .i64 s.of_) 10 rfl
  have q11 := hbx.cell (v := .int .i64 s.by_) 11 rfl
  have q12 := hbx.cell (v := .int .u8 s.set) 12 rfl
  have q13 := hbx.cell (v := .bool s.full) 13 rfl
  have q14 := hbx.cell (v := .slice s.cA s.cl s.cc) 14 rfl
  have q15 := hbx.cell (v := .slice s.nA s.nl s.nc) 15 rfl
  clear h hx hb hbp
  go_enter Try.func27, Try.ntmps27
  go_upto_region 1 with fail
  rw [← hW]
  clear hW hbx
  go_wp2_with (first
    | (go_at_call 52; refine C52.out.mono ?_; rintro e w1 ⟨hb1, rv, xs, rfl, hr, hx1, hx2⟩; have HB1 := Lib.hid hb1; have HR := Lib.hid hr; have HX2 := Lib.hid hx2; clear hb1 hr hx2)
    | (go_at_call 51; refine (contains51_any (HW.out.below HB1.out) w.heap.size (HP.out.below HB1.out) rv xs _ HR.out (by omega)).mono ?_; rintro e w2 ⟨⟨β, rfl, hβ⟩, rfl⟩; have HE := Lib.hid hβ; clear hβ))
  go_ret
  refine ⟨bnext HB.out HB1.out, _, rfl, fun h0 => ?_⟩
  have h1 := HX2.out
  rw [h0] at h1
  rw [HE.out (List.length_eq_zero_iff.1 (by omega))]
  rfl
end
end Go.Proofs.Ythafojadcodkoaa
