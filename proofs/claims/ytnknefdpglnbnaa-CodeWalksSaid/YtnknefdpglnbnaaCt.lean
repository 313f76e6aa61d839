/- The document's comparison of expressions, walked. The document's comparison of codes: the statement that takes the two statements, in every order. -/
import Derived.Test.YtnknefdpglnbnaaLl
import Derived.Test.YtnknefdpglnbnaaZb
import Derived.Test.YtnknefdpglnbnaaZf
import Derived.Test.YtnknefdpglnbnaaNd
import Derived.Test.YtnknefdpglnbnaaRg
namespace Go.Proofs.Ytnknefdpglnbnaa
open Go.RowKit

def sameW : List ByteArray → List ByteArray → Bool
  | [], [] => true
  | x :: l, y :: m => x.toList == y.toList && sameW l m
  | _, _ => false
theorem sameW_len : ∀ (l m : List ByteArray), sameW l m = true → l.length = m.length
  | [], [], _ => rfl
  | x :: l, y :: m, h => by simp only [sameW, Bool.and_eq_true] at h; simp [sameW_len l m h.2]
  | [], _ :: _, h => by simp [sameW] at h
  | _ :: _, [], h => by simp [sameW] at h
theorem sameW_refl : ∀ (l : List ByteArray), sameW l l = true
  | [] => rfl
  | x :: l => by simp [sameW, sameW_refl l]
theorem sameW_cons (x y : ByteArray) (l m : List ByteArray) : sameW (x :: l) (y :: m) = (x.toList == y.toList && sameW l m) := by simp [sameW]
mutual
def sameX : Ex → Ex → Bool
  | .mk k n s l, .mk k' n' s' l' => k == k' && (n == n' && (s.toList == s'.toList && sameXs l l'))
def sameXs : List Ex → List Ex → Bool
  | [], [] => true
  | x :: l, y :: m => sameX x y && sameXs l m
  | _, _ => false
end
theorem sameXs_len : ∀ (l m : List Ex), sameXs l m = true → l.length = m.length
  | [], [], _ => rfl
  | x :: l, y :: m, h => by simp only [sameXs, Bool.and_eq_true] at h; simp [sameXs_len l m h.2]
  | [], _ :: _, h => by simp [sameXs] at h
  | _ :: _, [], h => by simp [sameXs] at h
mutual
theorem sameX_eq : ∀ (x y : Ex), sameX x y = true → x = y
  | .mk k n s l, .mk k' n' s' l', h => by
    simp only [sameX, Bool.and_eq_true, beq_iff_eq] at h
    obtain ⟨h1, h2, h3, h5⟩ := h
    have := sameXs_eq l l' h5
    have hs : s = s' := by rw [ByteArray.toList_eq, ByteArray.toList_eq] at h3; obtain ⟨⟨a⟩⟩ := s; obtain ⟨⟨b⟩⟩ := s'; simp at h3; rw [h3]
    rw [h1, h2, hs, this]
theorem sameXs_eq : ∀ (l m : List Ex), sameXs l m = true → l = m
  | [], [], _ => rfl
  | x :: l, y :: m, h => by simp only [sameXs, Bool.and_eq_true] at h; rw [sameX_eq x y h.1, sameXs_eq l m h.2]
  | [], _ :: _, h => by simp [sameXs] at h
  | _ :: _, [], h => by simp [sameXs] at h
end
mutual
theorem sameX_refl : ∀ (x : Ex), sameX x x = true
  | .mk k n s l => by simp [sameX, sameXs_refl l]
theorem sameXs_refl : ∀ (l : List Ex), sameXs l l = true
  | [] => rfl
  | x :: l => by simp [sameXs, sameX_refl x, sameXs_refl l]
end
theorem sameXs_cons (x y : Ex) (l m : List Ex) : sameXs (x :: l) (y :: m) = (sameX x y && sameXs l m) := by simp [sameXs]
def SameXC (x : Ex) : Prop := ∀ (y : Ex) (w : World) (B C : Nat) (v u : Value), IsEx w B v x → IsEx w C u y → B ≤ w.heap.size → C ≤ w.heap.size →
  Calls Try.prog 80 #[v, u] w fun e w' => e = .returned (.bool (sameX x y)) ∧ Below w.heap.size w w'
set_option maxRecDepth 100000 in
set_option maxHeartbeats 1000000 in
theorem sameExpr80_any (x : Ex) : SameXC x := by
  induction x using Ex.ind with
  | h k n s l IH =>
  intro y w B C v u h hy hB hC
  obtain ⟨k', n', s', l'⟩ := y
  obtain ⟨h1, h2, h3, h4, A, cap, h5, rfl, h7⟩ := h.form
  obtain ⟨h1', h2', h3', h4', A', cap', h5', rfl, h7'⟩ := hy.form
  have H7 := Lib.hid h7
  have H7' := Lib.hid h7'
  have HI := Lib.hid IH
  have HB0 := Lib.hid (((Below.refl w.heap.size w).alloc (Nat.le_refl _) (.cells #[.int .u8 k, .int .i64 n, .string s, .slice A l.length cap] 26)).alloc (by simp) (.cells #[.int .u8 k', .int .i64 n', .string s', .slice A' l'.length cap'] 26))
  have HQ : Hid (BlkN ((w.alloc (.cells #[.int .u8 k, .int .i64 n, .string s, .slice A l.length cap] 26)).alloc (.cells #[.int .u8 k', .int .i64 n', .string s', .slice A' l'.length cap'] 26)) w.heap.size 26 #[.int .u8 k, .int .i64 n, .string s, .slice A l.length cap]) := Lib.hid ((BlkN.at_ rfl _ _).alloc _)
  have HQ' : Hid (BlkN ((w.alloc (.cells #[.int .u8 k, .int .i64 n, .string s, .slice A l.length cap] 26)).alloc (.cells #[.int .u8 k', .int .i64 n', .string s', .slice A' l'.length cap'] 26)) (w.heap.size + 1) 26 #[.int .u8 k', .int .i64 n', .string s', .slice A' l'.length cap']) := Lib.hid (BlkN.at_ (by simp) _ _)
  clear h h7 hy h7' IH
  obtain ⟨T, hT⟩ : ∃ T, T = sameX (.mk k n s l) (.mk k' n' s' l') := ⟨_, rfl⟩
  rw [← hT]
  have HTT : Hid (T = (k == k' && (n == n' && (s.toList == s'.toList && sameXs l l')))) := Lib.hid (by rw [hT]; simp only [sameX])
  clear hT
  cases gk : ((k : Int) == k')
  · have gk' : ((k : Int) != k') = true := by rw [bne, gk]; rfl
    have HF : Hid (T = false) := Lib.hid (by rw [HTT.out, gk]; simp)
    clear H7 H7' HI HQ HQ' HTT
    go_enter Try.func80, Try.ntmps80
    go_wp2_with fail
    go_ret
    rw [HF.out]
    exact ⟨rfl, HB0.out⟩
  · have gk' : ((k : Int) != k') = false := by rw [bne, gk]; rfl
    cases gn : ((n : Int) == n')
    · have gn' : ((n : Int) != n') = true := by rw [bne, gn]; rfl
      have HF : Hid (T = false) := Lib.hid (by rw [HTT.out, gk, gn]; simp)
      clear H7 H7' HI HQ HQ' HTT
      go_enter Try.func80, Try.ntmps80
      go_wp2_with fail
      go_ret
      rw [HF.out]
      exact ⟨rfl, HB0.out⟩
    · have gn' : ((n : Int) != n') = false := by rw [bne, gn]; rfl
      cases gs : (s.toList == s'.toList)
      · have gs' : (s.toList != s'.toList) = true := by rw [bne, gs]; rfl
        have HF : Hid (T = false) := Lib.hid (by rw [HTT.out, gk, gn, gs]; simp)
        clear H7 H7' HI HQ HQ' HTT
        go_enter Try.func80, Try.ntmps80
        go_wp2_with fail
        go_ret
        rw [HF.out]
        exact ⟨rfl, HB0.out⟩
      · have gs' : (s.toList != s'.toList) = false := by rw [bne, gs]; rfl
        by_cases gl : l.length = l'.length
        · have HLL := Lib.hid gl
          have gl' : ((l.length : Int) != l'.length) = false := by rw [gl]; simp
          have HT2 : Hid (T = sameXs l l') := Lib.hid (by rw [HTT.out, gk, gn, gs]; simp)
          clear gl HTT
          go_enter Try.func80, Try.ntmps80
          go_wp2_with fail
          clear gk gk' gn gn' gs gs' gl'
          go_loopw [5] (fun i wr => ∃ j : Nat, j ≤ l.length ∧ i = .int .i64 j ∧ sameXs (l.drop j) (l'.drop j) = T ∧ Below w.heap.size w wr ∧ BlkN wr w.heap.size 26 #[.int .u8 k, .int .i64 n, .string s, .slice A l.length cap] ∧ BlkN wr (w.heap.size + 1) 26 #[.int .u8 k', .int .i64 n', .string s', .slice A' l'.length cap']) (fun i _ => l.length - (intOf i).toNat)
          case atStart => exact ⟨0, by omega, rfl, HT2.out.symm, HB0.out, HQ.out, HQ'.out⟩
          case round =>
            obtain ⟨j, hj, rfl, ht, hu, hb0, hb1⟩ := hrel
            have HT := Lib.hid ht
            have HU := Lib.hid hu
            have HC := Lib.hid hb0
            have HC' := Lib.hid hb1
            have hsz := hb1.lt
            have y3 := hb0.cell 3 rfl
            have y3' := hb1.cell 3 rfl
            clear ht hu hb0 hb1
            by_cases hlt : j < l.length
            · have hlt' : j < l'.length := by have := HLL.out; omega
              obtain ⟨b, o, hbB, hA, hx⟩ := H7.out (by rintro rfl; simp at hlt)
              obtain ⟨b', o', hbB', hA', hx'⟩ := H7'.out (by rintro rfl; simp at hlt')
              subst hA hA'
              obtain ⟨k1, n1, s1, A1, len1, cap1, hat, hx1⟩ := hx.at2 j hlt
              obtain ⟨k2, n2, s2, A2, len2, cap2, hat2, hx2⟩ := hx'.at2 j hlt'
              have hat' := hat.keep hbB (fun b hb => HU.out.block b (by omega))
              have hat2' := hat2.keep hbB' (fun b hb => HU.out.block b (by omega))
              obtain ⟨e0, e1, e2, e3⟩ := hat'.four
              obtain ⟨f0, f1, f2, f3⟩ := hat2'.four
              have HD1 := Lib.hid (List.drop_eq_getElem_cons hlt)
              have HD2 := Lib.hid (List.drop_eq_getElem_cons hlt')
              have hcall := fun w' (hb : Below w.heap.size w w') => HI.out l[j] (List.getElem_mem hlt) l'[j] w' B C _ _ (IsEx.keep (fun b hb' => hb.block b (by omega)) hx1) (IsEx.keep (fun b hb' => hb.block b (by omega)) hx2) (Nat.le_trans hB hb.size) (Nat.le_trans hC hb.size)
              obtain ⟨pp, hpp⟩ : ∃ pp, pp = sameX l[j] l'[j] := ⟨_, rfl⟩
              rw [← hpp] at hcall
              have HPP := Lib.hid hpp
              have HCALL := Lib.hid hcall
              clear hat hat' hat2 hat2' hx hx1 hx' hx2 hcall hpp
              go_wp2_with fail
              refine RegT.region_seq (fun i => Nat.ble i 9) (fun W => W.cell? ⟨w.heap.size, 3, Option.none⟩ = some (.slice (some ⟨b, o, Option.none⟩) l.length cap) ∧ W.cell? ⟨w.heap.size + 1, 3, Option.none⟩ = some (.slice (some ⟨b', o', Option.none⟩) l'.length cap') ∧ (W.cell? ⟨b, o + j * 4, Option.none⟩ = some (.int .u8 k1) ∧ W.cell? ⟨b, o + j * 4 + 1, Option.none⟩ = some (.int .i64 n1) ∧ W.cell? ⟨b, o + j * 4 + 2, Option.none⟩ = some (.string s1) ∧ W.cell? ⟨b, o + j * 4 + 3, Option.none⟩ = some (.slice A1 len1 cap1)) ∧ (W.cell? ⟨b', o' + j * 4, Option.none⟩ = some (.int .u8 k2) ∧ W.cell? ⟨b', o' + j * 4 + 1, Option.none⟩ = some (.int .i64 n2) ∧ W.cell? ⟨b', o' + j * 4 + 2, Option.none⟩ = some (.string s2) ∧ W.cell? ⟨b', o' + j * 4 + 3, Option.none⟩ = some (.slice A2 len2 cap2))) [0, 1, 2, 3, 4, 5, 6, 7, 8, 9] [10, 11] (by kernel_rfl) (by kernel_rfl) (by decide +kernel) (by decide) ⟨y3, y3', ⟨e0, e1, e2, e3⟩, ⟨f0, f1, f2, f3⟩⟩ ?_
              refine RegT.quiet_step rfl (fun _ _ _ h => h) (by rfl) (v := .pointer (some ⟨w.heap.size, 3, Option.none⟩)) (fun w' hS => ?_) ?_
              · go_simp
              refine RegT.quiet_step rfl (fun _ _ _ h => h) (by rfl) (v := .slice (some ⟨b, o, Option.none⟩) l.length cap) (fun w' hS => ?_) ?_
              · obtain ⟨t0, t1, ⟨t2, t3, t4, t5⟩, ⟨u2, u3, u4, u5⟩⟩ := hS; go_simp
              refine RegT.quiet_step rfl (fun _ _ _ h => h) (by rfl) (v := .int .i64 j) (fun w' hS => ?_) ?_
              · go_simp
              refine RegT.quiet_step rfl (fun _ _ _ h => h) (by rfl) (v := .pointer (some ⟨b, o + j * 4, Option.none⟩)) (fun w' hS => ?_) ?_
              · go_simp
              refine RegT.quiet_step rfl (fun _ _ _ h => h) (by rfl) (v := .agg #[.int .u8 k1, .int .i64 n1, .string s1, .slice A1 len1 cap1]) (fun w' hS => ?_) ?_
              · obtain ⟨t0, t1, ⟨t2, t3, t4, t5⟩, ⟨u2, u3, u4, u5⟩⟩ := hS; go_simp
              refine RegT.quiet_step rfl (fun _ _ _ h => h) (by rfl) (v := .pointer (some ⟨w.heap.size + 1, 3, Option.none⟩)) (fun w' hS => ?_) ?_
              · go_simp
              refine RegT.quiet_step rfl (fun _ _ _ h => h) (by rfl) (v := .slice (some ⟨b', o', Option.none⟩) l'.length cap') (fun w' hS => ?_) ?_
              · obtain ⟨t0, t1, ⟨t2, t3, t4, t5⟩, ⟨u2, u3, u4, u5⟩⟩ := hS; go_simp
              refine RegT.quiet_step rfl (fun _ _ _ h => h) (by rfl) (v := .int .i64 j) (fun w' hS => ?_) ?_
              · go_simp
              refine RegT.quiet_step rfl (fun _ _ _ h => h) (by rfl) (v := (.pointer (some ⟨b', o' + j * 4, Option.none⟩))) (fun w' hS => ?_) ?_
              · go_simp
              refine RegT.quiet_step rfl (fun _ _ _ h => h) (by rfl) (v := .agg #[.int .u8 k2, .int .i64 n2, .string s2, .slice A2 len2 cap2]) (fun w' hS => ?_) ?_
              · obtain ⟨t0, t1, ⟨t2, t3, t4, t5⟩, ⟨u2, u3, u4, u5⟩⟩ := hS; go_simp
              refine RegT.seqT_tail [10, 11] [_, _] rfl rfl _ _ ?_
              have HD := Lib.hid (HU.out.drew)
              clear y3 y3' e0 e1 e2 e3 f0 f1 f2 f3
              cases pp
              · have HF : Hid (T = false) := Lib.hid (by rw [← HT.out, HD1.out, HD2.out, sameXs_cons, ← HPP.out]; rfl)
                go_wp2_with (go_at_call 80; refine (HCALL.out _ HD.out).mono ?_; rintro e w1 ⟨rfl, hb1⟩)
                simp only [RegT.NP]
                go_wp2_with fail
                go_ret
                rw [HF.out]
                exact ⟨rfl, bnext HD.out hb1⟩
              · go_wp2_with (go_at_call 80; refine (HCALL.out _ HD.out).mono ?_; rintro e w1 ⟨rfl, hb1⟩)
                simp only [RegT.NP]
                go_wp2_with fail
                go_roundw
                case rel => exact ⟨j + 1, by omega, by go_num, by rw [← HT.out, HD1.out, HD2.out, sameXs_cons, ← HPP.out]; rfl, bnext HD.out hb1, HC.out.below (bnext ((Below.refl wr.heap.size wr).drew) hb1), HC'.out.below (bnext ((Below.refl wr.heap.size wr).drew) hb1)⟩
                case measure => simp [intOf]; omega
            · obtain rfl : j = l.length := by omega
              have HF : Hid (T = true) := Lib.hid (by rw [← HT.out, List.drop_length, HLL.out, List.drop_length]; rfl)
              go_wp2_with fail
              go_ret
              rw [HF.out]
              exact ⟨rfl, HU.out⟩
        · have gl' : ((l.length : Int) != l'.length) = true := by simp; omega
          have HF : Hid (T = false) := Lib.hid (by
            rw [HTT.out, gk, gn, gs]
            cases hs : sameXs l l'
            · rfl
            · exact absurd (sameXs_len l l' hs) gl)
          clear H7 H7' HI HQ HQ' HTT gl
          go_enter Try.func80, Try.ntmps80
          go_wp2_with fail
          go_ret
          rw [HF.out]
          exact ⟨rfl, HB0.out⟩
end Go.Proofs.Ytnknefdpglnbnaa
namespace Go.Proofs.Ytnknefdpglnbnaa
open Go.RowKit

theorem exec_load {P : Program} {w : World} {a : Act} {o : Oper} (T : TypeId) (p : Operand) (hop : o.op = Op.load T p) (q : Addr) (hp : a.eval p = .pointer (some q)) (v : Value) (hl : (loadVar T q).run P w = .ok v w) : (execOp a.eval o).run P w = .ok (.value v) w := by
  simp [execOp, hop, hp, Instr.loadAt, Instr.sureAddr, hl, Result.andThen]
attribute [local irreducible] RegT.wpAnyT wpList
set_option maxRecDepth 100000 in
set_option maxHeartbeats 8000000 in
theorem reg34_6 {K : Act → World → Prop} {Q' : Exit → Act → World → Prop} (s z : SV) (b o n c b2 o2 n2 c2 j : Nat) (w : World) (hj1 : j < n) (hj2 : j < n2) (_hn : n ≤ 140737488351232) (_hn2 : n2 ≤ 140737488351232) (_hc : n ≤ c) (_hc2 : n2 ≤ c2) (hb : b < w.heap.size) (hb2 : b2 < w.heap.size)
    (hS : At w b (o + j * 17) s.arr.toList) (hZ : At w b2 (o2 + j * 17) z.arr.toList) (x2 x3 x4 x6 x7 x8 x9 x10 x11 x12 x13 x14 x15 x16 x17 x18 x19 x20 x21 x22 x23 x24 x25 x26 x27 x28 x29 x30 x31 x32 x33 x34 x35 x36 x37 x38 x39 x40 x41 x42 x43 x44 x45 x46 x47 x48 x49 x50 x51 x52 x53 x54 x55 x56 x57 x58 x59 x60 x61 x62 x63 x64 x65 x66 x67 x68 x69 x70 x71 x72 x73 x74 x75 x76 x77 x78 x79 x80 x81 x82 x83 x84 x85 x86 x87 x88 x89 x90 x91 x92 x93 x94 x95 x96 x97 x98 x99 x100 x101 x102 x103 x104 x105 x106 x107 x108 x109 x110 x111 x112 x113 x114 x115 x116 x117 x118 x119 x120 x121 x122 x123 x124 x125 x126 x127 : Value)
    (hK : ∀ (w' : World) (p q : Nat), p ≠ q → BlkN w' p 58 s.arr → BlkN w' q 58 z.arr → Below w.heap.size w w' → K (⟨#[.slice (some ⟨b, o, Option.none⟩) n c, .slice (some ⟨b2, o2, Option.none⟩) n2 c2, x2, x3, x4, .int .i64 j, .pointer (some ⟨p, 0, Option.none⟩), .pointer (some ⟨q, 0, Option.none⟩), x8, x9, x10, x11, x12, x13, x14, x15, x16, x17, x18, x19, .slice (some ⟨b, o, Option.none⟩) n c, .int .i64 j, .pointer (some ⟨b, o + j * 17, Option.none⟩), .agg s.arr, .slice (some ⟨b2, o2, Option.none⟩) n2 c2, .int .i64 j, .pointer (some ⟨b2, o2 + j * 17, Option.none⟩), .agg z.arr, x28, x29, x30, x31, x32, x33, x34, x35, x36, x37, x38, x39, x40, x41, x42, x43, x44, x45, x46, x47, x48, x49, x50, x51, x52, x53, x54, x55, x56, x57, x58, x59, x60, x61, x62, x63, x64, x65, x66, x67, x68, x69, x70, x71, x72, x73, x74, x75, x76, x77, x78, x79, x80, x81, x82, x83, x84, x85, x86, x87, x88, x89, x90, x91, x92, x93, x94, x95, x96, x97, x98, x99, x100, x101, x102, x103, x104, x105, x106, x107, x108, x109, x110, x111, x112, x113, x114, x115, x116, x117, x118, x119, x120, x121, x122, x123, x124, x125, x126, x127], []⟩) w') :
    (Code.region 6 (RegP.opsOf Try.f34 6) true).wp Try.prog (Exit.then K Q') ⟨#[.slice (some ⟨b, o, Option.none⟩) n c, .slice (some ⟨b2, o2, Option.none⟩) n2 c2, x2, x3, x4, .int .i64 j, x6, x7, x8, x9, x10, x11, x12, x13, x14, x15, x16, x17, x18, x19, x20, x21, x22, x23, x24, x25, x26, x27, x28, x29, x30, x31, x32, x33, x34, x35, x36, x37, x38, x39, x40, x41, x42, x43, x44, x45, x46, x47, x48, x49, x50, x51, x52, x53, x54, x55, x56, x57, x58, x59, x60, x61, x62, x63, x64, x65, x66, x67, x68, x69, x70, x71, x72, x73, x74, x75, x76, x77, x78, x79, x80, x81, x82, x83, x84, x85, x86, x87, x88, x89, x90, x91, x92, x93, x94, x95, x96, x97, x98, x99, x100, x101, x102, x103, x104, x105, x106, x107, x108, x109, x110, x111, x112, x113, x114, x115, x116, x117, x118, x119, x120, x121, x122, x123, x124, x125, x126, x127], []⟩ w := by
  have HK := Lib.hid hK
  have HS := Lib.hid hS
  have HZ := Lib.hid hZ
  obtain ⟨i0, hi, hz0, hz1, hz2⟩ := info_parts info58
  have HI := Lib.hid hi
  have hbu := Lib.hid (fun (w' : World) (h : Below w.heap.size w w') => (⟨At.keep hS hb (fun b hb => h.block b hb), At.keep hZ hb2 (fun b hb => h.block b hb)⟩ : At w' b (o + j * 17) s.arr.toList ∧ At w' b2 (o2 + j * 17) z.arr.toList))
  clear hK hS hZ hi
  simp only [Try.f34, RegP.opsOf, RegP.reg?]
  simp only [Nat.reduceEqDiff, if_true, if_false, Option.getD_some]
  refine RegT.region_each 12 (fun i => Nat.ble i 11) (fun W => At W b (o + j * 17) s.arr.toList ∧ At W b2 (o2 + j * 17) z.arr.toList) rfl rfl ?_
  obtain ⟨u0, hu⟩ : ∃ u', u' = w.drew := ⟨_, rfl⟩
  rw [← hu]
  have D0 : Below w.heap.size w u0 := by rw [hu]; exact (Below.refl _ _).drew
  have hs0 := hbu.out u0 D0
  clear hu
  refine RegT.take_step (i := 0) rfl (by kernel_rfl) (by decide +kernel) (fun _ _ _ h => h) (by kernel_rfl) hs0 (v := .slice (some ⟨b, o, Option.none⟩) n c) (fun w' hS => ?_) ?_
  · go_simp
  refine RegT.take_step (i := 1) rfl (by kernel_rfl) (by decide +kernel) (fun _ _ _ h => h) (by kernel_rfl) hs0 (v := .int .i64 j) (fun w' hS => ?_) ?_
  · go_simp
  refine RegT.take_step (i := 2) rfl (by kernel_rfl) (by decide +kernel) (fun _ _ _ h => h) (by kernel_rfl) hs0 (v := .pointer (some ⟨b, o + j * 17, Option.none⟩)) (fun w' hS => ?_) ?_
  · go_simp
  refine RegT.take_step (i := 3) rfl (by kernel_rfl) (by decide +kernel) (fun _ _ _ h => h) (by kernel_rfl) hs0 (v := .agg s.arr) (fun w' hS => ?_) ?_
  · exact exec_load 58 (.tmp 22) rfl ⟨b, o + j * 17, Option.none⟩ rfl _ (run_loadVar_at Try.underlying58 HI.out (show At w' b (o + j * 17) s.arr.toList from hS.1) (by rw [hz1]; rfl))
  refine RegT.take_step (i := 4) rfl (by kernel_rfl) (by decide +kernel) (fun _ _ _ h => h) (by kernel_rfl) hs0 (v := .slice (some ⟨b2, o2, Option.none⟩) n2 c2) (fun w' hS => ?_) ?_
  · go_simp
  refine RegT.take_step (i := 5) rfl (by kernel_rfl) (by decide +kernel) (fun _ _ _ h => h) (by kernel_rfl) hs0 (v := .int .i64 j) (fun w' hS => ?_) ?_
  · go_simp
  refine RegT.take_step (i := 6) rfl (by kernel_rfl) (by decide +kernel) (fun _ _ _ h => h) (by kernel_rfl) hs0 (v := .pointer (some ⟨b2, o2 + j * 17, Option.none⟩)) (fun w' hS => ?_) ?_
  · go_simp
  refine RegT.take_step (i := 7) rfl (by kernel_rfl) (by decide +kernel) (fun _ _ _ h => h) (by kernel_rfl) hs0 (v := .agg z.arr) (fun w' hS => ?_) ?_
  · exact exec_load 58 (.tmp 26) rfl ⟨b2, o2 + j * 17, Option.none⟩ rfl _ (run_loadVar_at Try.underlying58 HI.out (show At w' b2 (o2 + j * 17) z.arr.toList from hS.2) (by rw [hz1]; rfl))
  refine RegT.any_each [8, 9] (by kernel_rfl) rfl ?_
  intro i hi
  simp only [List.mem_cons, List.not_mem_nil, or_false] at hi
  rcases hi with rfl | rfl
  · refine RegT.wpOp_held rfl ?_
    go_wp2_with fail
    obtain ⟨u1, hu⟩ : ∃ u', u' = u0.alloc (.cells SV.zero.arr 58) := ⟨_, rfl⟩
    have hu' := hu.symm
    simp only [SV.arr, SV.zero] at hu'
    rw [hu']
    have dd : Below u0.heap.size u0 u1 := by rw [hu]; exact (Below.refl _ _).alloc (Nat.le_refl _) _
    obtain ⟨p, hp⟩ : ∃ g, g = u0.heap.size := ⟨_, rfl⟩
    have Bp : BlkN u1 p 58 SV.zero.arr := by rw [hu, hp]; exact BlkN.at_ rfl _ _
    rw [← hp]
    have D1 := bnext D0 dd
    have h0p : w.heap.size ≤ p := by rw [hp]; exact D0.size
    clear hu hu' dd
    refine ⟨hbu.out u1 D1, ?_⟩
    refine RegT.any_each [9] (by kernel_rfl) rfl ?_
    intro i hi
    simp only [List.mem_cons, List.not_mem_nil, or_false] at hi
    subst hi
    refine RegT.wpOp_held rfl ?_
    go_wp2_with fail
    obtain ⟨u2, hu⟩ : ∃ u', u' = u1.alloc (.cells SV.zero.arr 58) := ⟨_, rfl⟩
    have hu' := hu.symm
    simp only [SV.arr, SV.zero] at hu'
    rw [hu']
    have dd : Below u1.heap.size u1 u2 := by rw [hu]; exact (Below.refl _ _).alloc (Nat.le_refl _) _
    obtain ⟨q, hq⟩ : ∃ g, g = u1.heap.size := ⟨_, rfl⟩
    have Bq : BlkN u2 q 58 SV.zero.arr := by rw [hu, hq]; exact BlkN.at_ rfl _ _
    rw [← hq]
    try rw [← hp]
    have D2 := bnext D1 dd
    have h0q : w.heap.size ≤ q := by rw [hq]; exact D1.size
    have Bp' := Bp.below dd
    have hpq : p ≠ q := by have := Bp.lt; omega
    clear hu hu' dd hp hq
    refine ⟨hbu.out u2 D2, ?_⟩
    refine RegT.any_each [10] (by kernel_rfl) rfl ?_
    intro i hi
    simp only [List.mem_cons, List.not_mem_nil, or_false] at hi
    subst hi
    refine wpOp_store rfl rfl 58 (.tmp 6) (.tmp 23) rfl i0 HI.out p s.arr rfl rfl 58 SV.zero.arr Bp' (by rw [hz1]; rfl) rfl (SV.one _) ?_
    intro u3 h3 hbut3
    have D3 := hbut3.below h0p D2
    have Bq3 : BlkN u3 q 58 SV.zero.arr := (hbut3.other q (Ne.symm hpq)).trans Bq
    refine ⟨hbu.out u3 D3, ?_⟩
    refine RegT.any_each [11] (by kernel_rfl) rfl ?_
    intro i hi
    simp only [List.mem_cons, List.not_mem_nil, or_false] at hi
    subst hi
    refine wpOp_store rfl rfl 58 (.tmp 7) (.tmp 27) rfl i0 HI.out q z.arr rfl rfl 58 SV.zero.arr Bq3 (by rw [hz1]; rfl) rfl (SV.one _) ?_
    intro u4 h4 hbut4
    have D4 := hbut4.below h0q D3
    have Bp4 : BlkN u4 p 58 s.arr := (hbut4.other p hpq).trans h3
    refine ⟨hbu.out u4 D4, ?_⟩
    refine RegT.any_done (by kernel_rfl) ?_
    simp only [RegT.NP, Exit.then]
    have hf := HK.out u4 p q hpq Bp4 h4 D4
    refine cast (congrArg (fun a => K a u4) ?_) hf
    kernel_rfl
  · refine RegT.wpOp_held rfl ?_
    go_wp2_with fail
    obtain ⟨u1, hu⟩ : ∃ u', u' = u0.alloc (.cells SV.zero.arr 58) := ⟨_, rfl⟩
    have hu' := hu.symm
    simp only [SV.arr, SV.zero] at hu'
    rw [hu']
    have dd : Below u0.heap.size u0 u1 := by rw [hu]; exact (Below.refl _ _).alloc (Nat.le_refl _) _
    obtain ⟨q, hq⟩ : ∃ g, g = u0.heap.size := ⟨_, rfl⟩
    have Bq : BlkN u1 q 58 SV.zero.arr := by rw [hu, hq]; exact BlkN.at_ rfl _ _
    rw [← hq]
    have D1 := bnext D0 dd
    have h0q : w.heap.size ≤ q := by rw [hq]; exact D0.size
    clear hu hu' dd
    refine ⟨hbu.out u1 D1, ?_⟩
    refine RegT.any_each [8] (by kernel_rfl) rfl ?_
    intro i hi
    simp only [List.mem_cons, List.not_mem_nil, or_false] at hi
    subst hi
    refine RegT.wpOp_held rfl ?_
    go_wp2_with fail
    obtain ⟨u2, hu⟩ : ∃ u', u' = u1.alloc (.cells SV.zero.arr 58) := ⟨_, rfl⟩
    have hu' := hu.symm
    simp only [SV.arr, SV.zero] at hu'
    rw [hu']
    have dd : Below u1.heap.size u1 u2 := by rw [hu]; exact (Below.refl _ _).alloc (Nat.le_refl _) _
    obtain ⟨p, hp⟩ : ∃ g, g = u1.heap.size := ⟨_, rfl⟩
    have Bp : BlkN u2 p 58 SV.zero.arr := by rw [hu, hp]; exact BlkN.at_ rfl _ _
    rw [← hp]
    try rw [← hq]
    have D2 := bnext D1 dd
    have h0p : w.heap.size ≤ p := by rw [hp]; exact D1.size
    have Bq' := Bq.below dd
    have hpq : p ≠ q := by have := Bq.lt; omega
    clear hu hu' dd hp hq
    refine ⟨hbu.out u2 D2, ?_⟩
    refine RegT.any_each [10] (by kernel_rfl) rfl ?_
    intro i hi
    simp only [List.mem_cons, List.not_mem_nil, or_false] at hi
    subst hi
    refine wpOp_store rfl rfl 58 (.tmp 6) (.tmp 23) rfl i0 HI.out p s.arr rfl rfl 58 SV.zero.arr Bp (by rw [hz1]; rfl) rfl (SV.one _) ?_
    intro u3 h3 hbut3
    have D3 := hbut3.below h0p D2
    have Bq3 : BlkN u3 q 58 SV.zero.arr := (hbut3.other q (Ne.symm hpq)).trans Bq'
    refine ⟨hbu.out u3 D3, ?_⟩
    refine RegT.any_each [11] (by kernel_rfl) rfl ?_
    intro i hi
    simp only [List.mem_cons, List.not_mem_nil, or_false] at hi
    subst hi
    refine wpOp_store rfl rfl 58 (.tmp 7) (.tmp 27) rfl i0 HI.out q z.arr rfl rfl 58 SV.zero.arr Bq3 (by rw [hz1]; rfl) rfl (SV.one _) ?_
    intro u4 h4 hbut4
    have D4 := hbut4.below h0q D3
    have Bp4 : BlkN u4 p 58 s.arr := (hbut4.other p hpq).trans h3
    refine ⟨hbu.out u4 D4, ?_⟩
    refine RegT.any_done (by kernel_rfl) ?_
    simp only [RegT.NP, Exit.then]
    have hf := HK.out u4 p q hpq Bp4 h4 D4
    refine cast (congrArg (fun a => K a u4) ?_) hf
    kernel_rfl
end Go.Proofs.Ytnknefdpglnbnaa
