/- CodeGets: one statement of the law that draws its order, in every order. -/
import Derived.Test.YtnknefdpglnbnaaNb
import Derived.Test.YtnknefdpglnbnaaNd
import Derived.Test.YtnknefdpglnbnaaRg
namespace Go.Proofs.Ytnknefdpglnbnaa
open Go.RowKit

theorem IsNsR.one {w : World} {R : Nat → Nat → Prop} {g : Nat} {s : ByteArray} {c0 c1 c2 c3 c4 : Value} {x : Va} (hb : BlkN w g 73 #[.string s, c0, c1, c2, c3, c4]) (hR : R g 0) (hs : s.size ≤ 140737488351232) (hx : IsVaR w R (.agg #[c0, c1, c2, c3, c4]) x) : IsNsR w R (.slice (some ⟨g, 0, Option.none⟩) 1 1) [(s, x)] := by
  refine ⟨by simp, _, 1, Nat.le_refl _, rfl, fun _ => ⟨g, 0, hR, rfl, RdN.list fun i hi => ?_⟩⟩
  obtain rfl : i = 0 := by simp at hi; exact hi
  refine ⟨[.string s, c0, c1, c2, c3, c4], rfl, fun j v hv => ?_, hs, c0, c1, c2, c3, c4, rfl, hx⟩
  rw [hb.cell_eq]
  simpa using hv
attribute [local irreducible] RegT.wpAnyT wpList RegT.seqT RegT.seqQ
set_option maxRecDepth 100000 in
set_option maxHeartbeats 40000000 in
theorem reg9_13 {K : Act → World → Prop} {Q' : Exit → Act → World → Prop} (a t : ByteArray) (x : Va) (k n r : Int) (A : Option Addr) (len cap p5 : Nat) (W13 : World) (ha : a.size ≤ 140737488351232) (hma : mayN a = true) (hmx : mayV x = true)
    (Q5 : BlkN W13 p5 34 #[.int .u8 k, .int .i64 n, .string t, .slice A len cap, .int .i64 r]) (X5' : IsVa W13 W13.heap.size (.agg #[.int .u8 k, .int .i64 n, .string t, .slice A len cap, .int .i64 r]) x) (x0 x1 x2 x3 x4 x6 x8 x9 x10 x11 x12 x13 x14 x15 x16 x17 x18 x19 x20 x21 x22 x23 x24 x25 x26 x27 x28 x29 x30 x31 x32 x33 x34 x35 x36 x37 x38 x39 x40 x41 x42 x43 x44 x45 x46 x47 x48 x49 x50 x51 x52 x53 x54 x55 x56 x57 x58 x59 x60 x61 x62 x63 x64 x65 x66 x67 x68 x69 x70 x71 x72 x73 x74 x75 x76 x77 x78 x79 x80 x81 x82 x83 x84 x85 x86 x87 x88 x89 x90 x91 x92 x93 x94 x95 x96 x97 x98 x99 x100 x101 x102 x103 x104 x105 x106 x107 x108 x109 x110 x111 x112 x113 x114 x115 x116 x117 x118 x119 x120 x121 x122 x123 x124 x125 x126 x127 x128 x129 x130 x131 x132 x133 x134 x135 x136 x137 x138 x139 x140 x141 x142 x143 x144 x145 x146 x147 x148 x149 x150 x151 x152 x153 x154 x155 x156 x157 x158 x159 x160 x161 x162 x163 x164 x165 x166 x167 x168 x169 x170 x171 x172 x173 x174 x175 x176 x177 x178 x179 x180 x181 x182 : Value)
    (hK : ∀ (Wf : World) (q g : Nat) (k5 n5 : Int) (s5 : ByteArray) (A5 : Option Addr) (len5 cap5 : Nat) (r5 : Int), Below W13.heap.size W13 Wf → BlkN Wf q 34 #[.int .u8 k5, .int .i64 n5, .string s5, .slice A5 len5 cap5, .int .i64 r5] → IsVa Wf Wf.heap.size (.agg #[.int .u8 k5, .int .i64 n5, .string s5, .slice A5 len5 cap5, .int .i64 r5]) x → K (((((((((((((Act.mk #[x0, x1, x2, x3, x4, .pointer (some ⟨p5, 0, Option.none⟩), x6, .string a, x8, x9, x10, x11, x12, x13, x14, x15, x16, x17, x18, x19, x20, x21, x22, x23, x24, x25, x26, x27, x28, x29, x30, x31, x32, x33, x34, x35, x36, x37, x38, x39, x40, x41, x42, x43, x44, x45, x46, x47, x48, x49, x50, x51, x52, x53, x54, x55, x56, x57, x58, x59, x60, x61, x62, x63, x64, x65, x66, x67, x68, x69, x70, x71, x72, x73, x74, x75, x76, x77, x78, x79, x80, x81, x82, x83, x84, x85, x86, x87, x88, x89, x90, x91, x92, x93, x94, x95, x96, x97, x98, x99, x100, x101, x102, x103, x104, x105, x106, x107, x108, x109, x110, x111, x112, x113, x114, x115, x116, x117, x118, x119, x120, x121, x122, x123, x124, x125, x126, x127, x128, x129, x130, x131, x132, x133, x134, x135, x136, x137, x138, x139, x140, x141, x142, x143, x144, x145, x146, x147, x148, x149, x150, x151, x152, x153, x154, x155, x156, x157, x158, x159, x160, x161, x162, x163, x164, x165, x166, x167, x168, x169, x170, x171, x172, x173, x174, x175, x176, x177, x178, x179, x180, x181, x182] []).put (some 98) (.string a)).put (some 99) (.agg #[.int .u8 k, .int .i64 n, .string t, .slice A len cap, .int .i64 r])).put (some 100) (.agg #[.string a, .int .u8 k, .int .i64 n, .string t, .slice A len cap, .int .i64 r])).put (some 102) (.string a)).put (some 101) (.slice (some ⟨g, 0, Option.none⟩) 1 1)).put (some 103) (.agg #[.int .u8 4, .int .i64 0, .string a, .slice Option.none 0 0])).put (some 104) (.tuple #[.agg #[.int .u8 k5, .int .i64 n5, .string s5, .slice A5 len5 cap5, .int .i64 r5], .int .i64 0])).put (some 97) (.tuple #[.agg #[.int .u8 k5, .int .i64 n5, .string s5, .slice A5 len5 cap5, .int .i64 r5], .int .i64 0])).put (some 105) (.agg #[.int .u8 k5, .int .i64 n5, .string s5, .slice A5 len5 cap5, .int .i64 r5])).put (some 106) (.int .i64 0)).put (some 19) (.pointer (some ⟨q, 0, Option.none⟩))).put (some 20) (.int .i64 0)) Wf) :
    (Code.region 13 (RegP.opsOf Try.f9 13) true).wp Try.prog (Exit.then K Q') ⟨#[x0, x1, x2, x3, x4, .pointer (some ⟨p5, 0, Option.none⟩), x6, .string a, x8, x9, x10, x11, x12, x13, x14, x15, x16, x17, x18, x19, x20, x21, x22, x23, x24, x25, x26, x27, x28, x29, x30, x31, x32, x33, x34, x35, x36, x37, x38, x39, x40, x41, x42, x43, x44, x45, x46, x47, x48, x49, x50, x51, x52, x53, x54, x55, x56, x57, x58, x59, x60, x61, x62, x63, x64, x65, x66, x67, x68, x69, x70, x71, x72, x73, x74, x75, x76, x77, x78, x79, x80, x81, x82, x83, x84, x85, x86, x87, x88, x89, x90, x91, x92, x93, x94, x95, x96, x97, x98, x99, x100, x101, x102, x103, x104, x105, x106, x107, x108, x109, x110, x111, x112, x113, x114, x115, x116, x117, x118, x119, x120, x121, x122, x123, x124, x125, x126, x127, x128, x129, x130, x131, x132, x133, x134, x135, x136, x137, x138, x139, x140, x141, x142, x143, x144, x145, x146, x147, x148, x149, x150, x151, x152, x153, x154, x155, x156, x157, x158, x159, x160, x161, x162, x163, x164, x165, x166, x167, x168, x169, x170, x171, x172, x173, x174, x175, x176, x177, x178, x179, x180, x181, x182], []⟩ W13 := by
  have HK := Lib.hid hK
  have X5 := Lib.hid X5'
  clear hK X5'
  have C19b := Lib.hid (fun w' B row (hn : IsNs w' B row [(a, x)]) (hB : B ≤ w'.heap.size) => Work_any (B := B) (x := .mk 4 0 a []) w' (isLeaf w' (fun b _ => b < B) 4 0 a (by omega) (by omega) ha) hn hB)
  rw [workW_eq, workW_name [(a, x)] a x (mayNs_one a x hma hmx) hma hmx (by simp [getN])] at C19b
  obtain ⟨i34, hi34', _, hi34, _⟩ := info_parts info34'
  have HI34 := Lib.hid hi34'
  clear hi34'
  have ql := Q5.lt
  have hq5W : p5 < W13.heap.size := ql
  simp only [Try.f9, RegP.opsOf, RegP.reg?]
  simp only [Nat.reduceEqDiff, if_true, if_false, Option.getD_some]
  refine RegT.region_via 13 (fun i => Nat.ble i 11) (fun W => BlkN W p5 34 #[.int .u8 k, .int .i64 n, .string t, .slice A len cap, .int .i64 r]) (fun a0 a' w' => ∃ (q g : Nat) (k5 n5 : Int) (s5 : ByteArray) (A5 : Option Addr) (len5 cap5 : Nat) (r5 : Int), a' = ((((((((((((a0.put (some 98) (.string a)).put (some 99) (.agg #[.int .u8 k, .int .i64 n, .string t, .slice A len cap, .int .i64 r])).put (some 100) (.agg #[.string a, .int .u8 k, .int .i64 n, .string t, .slice A len cap, .int .i64 r])).put (some 102) (.string a)).put (some 101) (.slice (some ⟨g, 0, Option.none⟩) 1 1)).put (some 103) (.agg #[.int .u8 4, .int .i64 0, .string a, .slice Option.none 0 0])).put (some 104) (.tuple #[.agg #[.int .u8 k5, .int .i64 n5, .string s5, .slice A5 len5 cap5, .int .i64 r5], .int .i64 0])).put (some 97) (.tuple #[.agg #[.int .u8 k5, .int .i64 n5, .string s5, .slice A5 len5 cap5, .int .i64 r5], .int .i64 0])).put (some 105) (.agg #[.int .u8 k5, .int .i64 n5, .string s5, .slice A5 len5 cap5, .int .i64 r5])).put (some 106) (.int .i64 0)).put (some 19) (.pointer (some ⟨q, 0, Option.none⟩))).put (some 20) (.int .i64 0)) ∧ Below W13.heap.size W13 w' ∧ BlkN w' q 34 #[.int .u8 k5, .int .i64 n5, .string s5, .slice A5 len5 cap5, .int .i64 r5] ∧ IsVa w' w'.heap.size (.agg #[.int .u8 k5, .int .i64 n5, .string s5, .slice A5 len5 cap5, .int .i64 r5]) x) rfl rfl ?hA ?hB
  case hA =>
    obtain ⟨u0, hu⟩ : ∃ u', u' = W13.drew := ⟨_, rfl⟩
    rw [← hu]
    have D0 : Below W13.heap.size W13 u0 := by rw [hu]; exact (Below.refl _ _).drew
    have hs0 := Q5.below D0
    clear hu
    refine RegT.take_step (i := 0) rfl (by kernel_rfl) (by decide +kernel) (fun _ _ _ h => h) (by kernel_rfl) hs0 (v := .string a) (fun w' hS => ?_) ?_
    · go_simp
    refine RegT.take_step (i := 1) rfl (by kernel_rfl) (by decide +kernel) (fun _ _ _ h => h) (by kernel_rfl) hs0 (v := .agg #[.int .u8 k, .int .i64 n, .string t, .slice A len cap, .int .i64 r]) (fun w' hS => ?_) ?_
    · have hS : BlkN w' (p5) 34 #[.int .u8 k, .int .i64 n, .string t, .slice A len cap, .int .i64 r] := hS; have t0 := hS.cell 0 rfl; have t1 := hS.cell 1 rfl; have t2 := hS.cell 2 rfl; have t3 := hS.cell 3 rfl; have t4 := hS.cell 4 rfl; go_simp
    refine RegT.take_step (i := 2) rfl (by kernel_rfl) (by decide +kernel) (fun _ _ _ h => h) (by kernel_rfl) hs0 (v := .agg #[.string a, .int .u8 k, .int .i64 n, .string t, .slice A len cap, .int .i64 r]) (fun w' hS => ?_) ?_
    · go_simp
    refine RegT.take_step (i := 4) rfl (by kernel_rfl) (by decide +kernel) (fun _ _ _ h => h) (by kernel_rfl) hs0 (v := .string a) (fun w' hS => ?_) ?_
    · go_simp
    refine RegT.any_each [3, 5, 10] (by kernel_rfl) rfl ?_
    intro i hi
    simp only [List.mem_cons, List.not_mem_nil, or_false] at hi
    rcases hi with rfl | rfl | rfl
    · refine RegT.wpOp_held rfl ?_
      go_wp2_with fail
      obtain ⟨u1, hu⟩ : ∃ u', u' = u0.alloc (.cells #[.string a, .int .u8 k, .int .i64 n, .string t, .slice A len cap, .int .i64 r] 73) := ⟨_, rfl⟩
      rw [← hu]
      have dd : Below u0.heap.size u0 u1 := by rw [hu]; exact (Below.refl _ _).alloc (Nat.le_refl _) _
      obtain ⟨g, hg⟩ : ∃ g, g = u0.heap.size := ⟨_, rfl⟩
      have G1 : BlkN u1 g 73 #[.string a, .int .u8 k, .int .i64 n, .string t, .slice A len cap, .int .i64 r] := by rw [hu, hg]; exact BlkN.at_ rfl _ _
      rw [← hg]
      have hs1 := hs0.below dd
      have D1 := bnext D0 dd
      clear hu hg dd
      refine ⟨hs1, ?_⟩
      refine RegT.any_each [5, 10] (by kernel_rfl) rfl ?_
      intro i hi
      simp only [List.mem_cons, List.not_mem_nil, or_false] at hi
      rcases hi with rfl | rfl
      · refine RegT.wpOp_held rfl ?_
        go_wp2_with (go_at_call 47; refine (name_any _ _).mono ?_; rintro e u2 ⟨rfl, dd⟩)
        have hs2 := hs1.below dd
        have D2 := bnext D1 dd
        have G2 := G1.below dd
        clear dd
        refine ⟨hs2, ?_⟩
        refine RegT.any_each [6, 10] (by kernel_rfl) rfl ?_
        intro i hi
        simp only [List.mem_cons, List.not_mem_nil, or_false] at hi
        rcases hi with rfl | rfl
        · refine RegT.wpOp_held rfl ?_
          have hXX : IsVa u2 u2.heap.size (.agg #[.int .u8 k, .int .i64 n, .string t, .slice A len cap, .int .i64 r]) x := (IsVa.keep (fun b hb => D2.block b hb) X5.out).mono fun b o hr => Nat.lt_of_lt_of_le hr D2.size
          go_wp2_with (go_at_call 19; refine (C19b.out _ u2.heap.size _ (IsNsR.one G2 G2.lt ha hXX) (Nat.le_refl _)).mono ?_; rintro e u3 ⟨vo, rfl, hvo, dd⟩; obtain ⟨k5, n5, s5, A5, len5, cap5, r5, rfl⟩ := hvo.shape)
          obtain ⟨lv, hlv⟩ : ∃ lv, lv = u2.heap.size := ⟨_, rfl⟩
          rw [← hlv] at hvo
          have hs3 := hs2.below dd
          have D3 := bnext D2 dd
          have G3 := G2.below dd
          clear hXX dd
          refine ⟨hs3, ?_⟩
          refine RegT.take_step (i := 7) rfl (by kernel_rfl) (by decide +kernel) (fun _ _ _ h => h) (by kernel_rfl) hs3 (v := .tuple #[.agg #[.int .u8 k5, .int .i64 n5, .string s5, .slice A5 len5 cap5, .int .i64 r5], .int .i64 0]) (fun w' hS => ?_) ?_
          · go_simp
          refine RegT.take_step (i := 8) rfl (by kernel_rfl) (by decide +kernel) (fun _ _ _ h => h) (by kernel_rfl) hs3 (v := .agg #[.int .u8 k5, .int .i64 n5, .string s5, .slice A5 len5 cap5, .int .i64 r5]) (fun w' hS => ?_) ?_
          · go_simp
          refine RegT.take_step (i := 9) rfl (by kernel_rfl) (by decide +kernel) (fun _ _ _ h => h) (by kernel_rfl) hs3 (v := .int .i64 0) (fun w' hS => ?_) ?_
          · go_simp
          refine RegT.any_each [10] (by kernel_rfl) rfl ?_
          intro i hi
          simp only [List.mem_cons, List.not_mem_nil, or_false] at hi
          subst hi
          refine RegT.wpOp_held rfl ?_
          go_wp2_with fail
          obtain ⟨u4, hu⟩ : ∃ u', u' = u3.alloc (.cells #[.int .u8 0, .int .i64 0, .string ⟨#[]⟩, .slice Option.none 0 0, .int .i64 0] 34) := ⟨_, rfl⟩
          rw [← hu]
          have dd : Below u3.heap.size u3 u4 := by rw [hu]; exact (Below.refl _ _).alloc (Nat.le_refl _) _
          obtain ⟨q, hq⟩ : ∃ q, q = u3.heap.size := ⟨_, rfl⟩
          have Z4 : BlkN u4 q 34 #[.int .u8 0, .int .i64 0, .string ⟨#[]⟩, .slice Option.none 0 0, .int .i64 0] := by rw [hu, hq]; exact BlkN.at_ rfl _ _
          have hqW : W13.heap.size ≤ q := by rw [hq]; exact D3.size
          have hqv : ∀ b o, Own34 u3 lv b o → b ≠ q := fun b o hr => by have := hr.lt; omega
          rw [← hq]
          have hvo0 := hvo.mono fun b o hr => (⟨hr, hqv b o hr⟩ : Own34 u3 lv b o ∧ b ≠ q)
          have hs4 := hs3.below dd
          have D4 := bnext D3 dd
          have G4 := G3.below dd
          have hvo := (hvo0.keep fun b o hr => dd.block b hr.1.lt).mono fun b o hr => (⟨Own34.below hr.1 dd, hr.2⟩ : Own34 u4 lv b o ∧ b ≠ q)
          clear hvo0 hqv
          clear hu hq dd
          refine ⟨hs4, ?_⟩
          refine RegT.any_each [11] (by kernel_rfl) rfl ?_
          intro i hi
          simp only [List.mem_cons, List.not_mem_nil, or_false] at hi
          subst hi
          refine wpOp_store rfl rfl 34 (.tmp 19) (.tmp 105) rfl i34 HI34.out q #[.int .u8 k5, .int .i64 n5, .string s5, .slice A5 len5 cap5, .int .i64 r5] rfl rfl 34 _ Z4 (by rw [hi34]; rfl) rfl (by intro u hu; simp only [List.mem_cons, List.not_mem_nil, or_false] at hu; rcases hu with rfl | rfl | rfl | rfl | rfl <;> rfl) ?_
          intro Wf hQf hbut
          have hsf : BlkN Wf (p5) 34 #[.int .u8 k, .int .i64 n, .string t, .slice A len cap, .int .i64 r] := (hbut.other _ (by omega)).trans hs4
          have HWf : Hid (Below W13.heap.size W13 Wf) := Lib.hid (hbut.below hqW D4)
          have Q19 : Hid (BlkN Wf q 34 #[.int .u8 k5, .int .i64 n5, .string s5, .slice A5 len5 cap5, .int .i64 r5]) := Lib.hid hQf
          have X19 : Hid (IsVa Wf Wf.heap.size (.agg #[.int .u8 k5, .int .i64 n5, .string s5, .slice A5 len5 cap5, .int .i64 r5]) x) := Lib.hid ((hvo.keep fun b o hr => hbut.other b hr.2).mono fun b o hr => by rw [hbut.size]; exact hr.1.lt)
          clear hQf hbut hvo D4 Z4
          refine ⟨hsf, ?_⟩
          refine RegT.take_step (i := 12) rfl (by kernel_rfl) (by decide +kernel) (fun _ _ _ h => h) (by kernel_rfl) hsf (v := .int .i64 0) (fun w' hS => ?_) ?_
          · go_simp
          clear hsf
          refine RegT.any_done (by kernel_rfl) ?_
          simp only [RegT.NP]
          exact ⟨by first | rfl | trivial, q, g, k5, n5, s5, A5, len5, cap5, r5, by kernel_rfl, HWf.out, Q19.out, X19.out⟩
        · refine RegT.wpOp_held rfl ?_
          go_wp2_with fail
          obtain ⟨u3, hu⟩ : ∃ u', u' = u2.alloc (.cells #[.int .u8 0, .int .i64 0, .string ⟨#[]⟩, .slice Option.none 0 0, .int .i64 0] 34) := ⟨_, rfl⟩
          rw [← hu]
          have dd : Below u2.heap.size u2 u3 := by rw [hu]; exact (Below.refl _ _).alloc (Nat.le_refl _) _
          obtain ⟨q, hq⟩ : ∃ q, q = u2.heap.size := ⟨_, rfl⟩
          have Z3 : BlkN u3 q 34 #[.int .u8 0, .int .i64 0, .string ⟨#[]⟩, .slice Option.none 0 0, .int .i64 0] := by rw [hu, hq]; exact BlkN.at_ rfl _ _
          have hqW : W13.heap.size ≤ q := by rw [hq]; exact D2.size
          rw [← hq]
          have hs3 := hs2.below dd
          have D3 := bnext D2 dd
          have G3 := G2.below dd
          clear hu hq dd
          refine ⟨hs3, ?_⟩
          refine RegT.any_each [6] (by kernel_rfl) rfl ?_
          intro i hi
          simp only [List.mem_cons, List.not_mem_nil, or_false] at hi
          subst hi
          refine RegT.wpOp_held rfl ?_
          have hXX : IsVa u3 u3.heap.size (.agg #[.int .u8 k, .int .i64 n, .string t, .slice A len cap, .int .i64 r]) x := (IsVa.keep (fun b hb => D3.block b hb) X5.out).mono fun b o hr => Nat.lt_of_lt_of_le hr D3.size
          go_wp2_with (go_at_call 19; refine (C19b.out _ u3.heap.size _ (IsNsR.one G3 G3.lt ha hXX) (Nat.le_refl _)).mono ?_; rintro e u4 ⟨vo, rfl, hvo, dd⟩; obtain ⟨k5, n5, s5, A5, len5, cap5, r5, rfl⟩ := hvo.shape)
          obtain ⟨lv, hlv⟩ : ∃ lv, lv = u3.heap.size := ⟨_, rfl⟩
          rw [← hlv] at hvo
          have hs4 := hs3.below dd
          have D4 := bnext D3 dd
          have G4 := G3.below dd
          have Z4 := Z3.below dd
          have hvo := hvo.mono fun b o hr => (⟨hr, by have := hr.1; have := Z3.lt; omega⟩ : Own34 u4 lv b o ∧ b ≠ q)
          clear hXX dd
          refine ⟨hs4, ?_⟩
          refine RegT.take_step (i := 7) rfl (by kernel_rfl) (by decide +kernel) (fun _ _ _ h => h) (by kernel_rfl) hs4 (v := .tuple #[.agg #[.int .u8 k5, .int .i64 n5, .string s5, .slice A5 len5 cap5, .int .i64 r5], .int .i64 0]) (fun w' hS => ?_) ?_
          · go_simp
          refine RegT.take_step (i := 8) rfl (by kernel_rfl) (by decide +kernel) (fun _ _ _ h => h) (by kernel_rfl) hs4 (v := .agg #[.int .u8 k5, .int .i64 n5, .string s5, .slice A5 len5 cap5, .int .i64 r5]) (fun w' hS => ?_) ?_
          · go_simp
          refine RegT.take_step (i := 9) rfl (by kernel_rfl) (by decide +kernel) (fun _ _ _ h => h) (by kernel_rfl) hs4 (v := .int .i64 0) (fun w' hS => ?_) ?_
          · go_simp
          refine RegT.any_each [11] (by kernel_rfl) rfl ?_
          intro i hi
          simp only [List.mem_cons, List.not_mem_nil, or_false] at hi
          subst hi
          refine wpOp_store rfl rfl 34 (.tmp 19) (.tmp 105) rfl i34 HI34.out q #[.int .u8 k5, .int .i64 n5, .string s5, .slice A5 len5 cap5, .int .i64 r5] rfl rfl 34 _ Z4 (by rw [hi34]; rfl) rfl (by intro u hu; simp only [List.mem_cons, List.not_mem_nil, or_false] at hu; rcases hu with rfl | rfl | rfl | rfl | rfl <;> rfl) ?_
          intro Wf hQf hbut
          have hsf : BlkN Wf (p5) 34 #[.int .u8 k, .int .i64 n, .string t, .slice A len cap, .int .i64 r] := (hbut.other _ (by omega)).trans hs4
          have HWf : Hid (Below W13.heap.size W13 Wf) := Lib.hid (hbut.below hqW D4)
          have Q19 : Hid (BlkN Wf q 34 #[.int .u8 k5, .int .i64 n5, .string s5, .slice A5 len5 cap5, .int .i64 r5]) := Lib.hid hQf
          have X19 : Hid (IsVa Wf Wf.heap.size (.agg #[.int .u8 k5, .int .i64 n5, .string s5, .slice A5 len5 cap5, .int .i64 r5]) x) := Lib.hid ((hvo.keep fun b o hr => hbut.other b hr.2).mono fun b o hr => by rw [hbut.size]; exact hr.1.lt)
          clear hQf hbut hvo D4 Z4
          refine ⟨hsf, ?_⟩
          refine RegT.take_step (i := 12) rfl (by kernel_rfl) (by decide +kernel) (fun _ _ _ h => h) (by kernel_rfl) hsf (v := .int .i64 0) (fun w' hS => ?_) ?_
          · go_simp
          clear hsf
          refine RegT.any_done (by kernel_rfl) ?_
          simp only [RegT.NP]
          exact ⟨by first | rfl | trivial, q, g, k5, n5, s5, A5, len5, cap5, r5, by kernel_rfl, HWf.out, Q19.out, X19.out⟩
      · refine RegT.wpOp_held rfl ?_
        go_wp2_with fail
        obtain ⟨u2, hu⟩ : ∃ u', u' = u1.alloc (.cells #[.int .u8 0, .int .i64 0, .string ⟨#[]⟩, .slice Option.none 0 0, .int .i64 0] 34) := ⟨_, rfl⟩
        rw [← hu]
        have dd : Below u1.heap.size u1 u2 := by rw [hu]; exact (Below.refl _ _).alloc (Nat.le_refl _) _
        obtain ⟨q, hq⟩ : ∃ q, q = u1.heap.size := ⟨_, rfl⟩
        have Z2 : BlkN u2 q 34 #[.int .u8 0, .int .i64 0, .string ⟨#[]⟩, .slice Option.none 0 0, .int .i64 0] := by rw [hu, hq]; exact BlkN.at_ rfl _ _
        have hqW : W13.heap.size ≤ q := by rw [hq]; exact D1.size
        rw [← hq]
        have hs2 := hs1.below dd
        have D2 := bnext D1 dd
        have G2 := G1.below dd
        clear hu hq dd
        refine ⟨hs2, ?_⟩
        refine RegT.any_each [5] (by kernel_rfl) rfl ?_
        intro i hi
        simp only [List.mem_cons, List.not_mem_nil, or_false] at hi
        subst hi
        refine RegT.wpOp_held rfl ?_
        go_wp2_with (go_at_call 47; refine (name_any _ _).mono ?_; rintro e u3 ⟨rfl, dd⟩)
        have hs3 := hs2.below dd
        have D3 := bnext D2 dd
        have G3 := G2.below dd
        have Z3 := Z2.below dd
        clear dd
        refine ⟨hs3, ?_⟩
        refine RegT.any_each [6] (by kernel_rfl) rfl ?_
        intro i hi
        simp only [List.mem_cons, List.not_mem_nil, or_false] at hi
        subst hi
        refine RegT.wpOp_held rfl ?_
        have hXX : IsVa u3 u3.heap.size (.agg #[.int .u8 k, .int .i64 n, .string t, .slice A len cap, .int .i64 r]) x := (IsVa.keep (fun b hb => D3.block b hb) X5.out).mono fun b o hr => Nat.lt_of_lt_of_le hr D3.size
        go_wp2_with (go_at_call 19; refine (C19b.out _ u3.heap.size _ (IsNsR.one G3 G3.lt ha hXX) (Nat.le_refl _)).mono ?_; rintro e u4 ⟨vo, rfl, hvo, dd⟩; obtain ⟨k5, n5, s5, A5, len5, cap5, r5, rfl⟩ := hvo.shape)
        obtain ⟨lv, hlv⟩ : ∃ lv, lv = u3.heap.size := ⟨_, rfl⟩
        rw [← hlv] at hvo
        have hs4 := hs3.below dd
        have D4 := bnext D3 dd
        have G4 := G3.below dd
        have Z4 := Z3.below dd
        have hvo := hvo.mono fun b o hr => (⟨hr, by have := hr.1; have := Z3.lt; omega⟩ : Own34 u4 lv b o ∧ b ≠ q)
        clear hXX dd
        refine ⟨hs4, ?_⟩
        refine RegT.take_step (i := 7) rfl (by kernel_rfl) (by decide +kernel) (fun _ _ _ h => h) (by kernel_rfl) hs4 (v := .tuple #[.agg #[.int .u8 k5, .int .i64 n5, .string s5, .slice A5 len5 cap5, .int .i64 r5], .int .i64 0]) (fun w' hS => ?_) ?_
        · go_simp
        refine RegT.take_step (i := 8) rfl (by kernel_rfl) (by decide +kernel) (fun _ _ _ h => h) (by kernel_rfl) hs4 (v := .agg #[.int .u8 k5, .int .i64 n5, .string s5, .slice A5 len5 cap5, .int .i64 r5]) (fun w' hS => ?_) ?_
        · go_simp
        refine RegT.take_step (i := 9) rfl (by kernel_rfl) (by decide +kernel) (fun _ _ _ h => h) (by kernel_rfl) hs4 (v := .int .i64 0) (fun w' hS => ?_) ?_
        · go_simp
        refine RegT.any_each [11] (by kernel_rfl) rfl ?_
        intro i hi
        simp only [List.mem_cons, List.not_mem_nil, or_false] at hi
        subst hi
        refine wpOp_store rfl rfl 34 (.tmp 19) (.tmp 105) rfl i34 HI34.out q #[.int .u8 k5, .int .i64 n5, .string s5, .slice A5 len5 cap5, .int .i64 r5] rfl rfl 34 _ Z4 (by rw [hi34]; rfl) rfl (by intro u hu; simp only [List.mem_cons, List.not_mem_nil, or_false] at hu; rcases hu with rfl | rfl | rfl | rfl | rfl <;> rfl) ?_
        intro Wf hQf hbut
        have hsf : BlkN Wf (p5) 34 #[.int .u8 k, .int .i64 n, .string t, .slice A len cap, .int .i64 r] := (hbut.other _ (by omega)).trans hs4
        have HWf : Hid (Below W13.heap.size W13 Wf) := Lib.hid (hbut.below hqW D4)
        have Q19 : Hid (BlkN Wf q 34 #[.int .u8 k5, .int .i64 n5, .string s5, .slice A5 len5 cap5, .int .i64 r5]) := Lib.hid hQf
        have X19 : Hid (IsVa Wf Wf.heap.size (.agg #[.int .u8 k5, .int .i64 n5, .string s5, .slice A5 len5 cap5, .int .i64 r5]) x) := Lib.hid ((hvo.keep fun b o hr => hbut.other b hr.2).mono fun b o hr => by rw [hbut.size]; exact hr.1.lt)
        clear hQf hbut hvo D4 Z4
        refine ⟨hsf, ?_⟩
        refine RegT.take_step (i := 12) rfl (by kernel_rfl) (by decide +kernel) (fun _ _ _ h => h) (by kernel_rfl) hsf (v := .int .i64 0) (fun w' hS => ?_) ?_
        · go_simp
        clear hsf
        refine RegT.any_done (by kernel_rfl) ?_
        simp only [RegT.NP]
        exact ⟨by first | rfl | trivial, q, g, k5, n5, s5, A5, len5, cap5, r5, by kernel_rfl, HWf.out, Q19.out, X19.out⟩
    · refine RegT.wpOp_held rfl ?_
      go_wp2_with (go_at_call 47; refine (name_any _ _).mono ?_; rintro e u1 ⟨rfl, dd⟩)
      have hs1 := hs0.below dd
      have D1 := bnext D0 dd
      clear dd
      refine ⟨hs1, ?_⟩
      refine RegT.any_each [3, 10] (by kernel_rfl) rfl ?_
      intro i hi
      simp only [List.mem_cons, List.not_mem_nil, or_false] at hi
      rcases hi with rfl | rfl
      · refine RegT.wpOp_held rfl ?_
        go_wp2_with fail
        obtain ⟨u2, hu⟩ : ∃ u', u' = u1.alloc (.cells #[.string a, .int .u8 k, .int .i64 n, .string t, .slice A len cap, .int .i64 r] 73) := ⟨_, rfl⟩
        rw [← hu]
        have dd : Below u1.heap.size u1 u2 := by rw [hu]; exact (Below.refl _ _).alloc (Nat.le_refl _) _
        obtain ⟨g, hg⟩ : ∃ g, g = u1.heap.size := ⟨_, rfl⟩
        have G2 : BlkN u2 g 73 #[.string a, .int .u8 k, .int .i64 n, .string t, .slice A len cap, .int .i64 r] := by rw [hu, hg]; exact BlkN.at_ rfl _ _
        rw [← hg]
        have hs2 := hs1.below dd
        have D2 := bnext D1 dd
        clear hu hg dd
        refine ⟨hs2, ?_⟩
        refine RegT.any_each [6, 10] (by kernel_rfl) rfl ?_
        intro i hi
        simp only [List.mem_cons, List.not_mem_nil, or_false] at hi
        rcases hi with rfl | rfl
        · refine RegT.wpOp_held rfl ?_
          have hXX : IsVa u2 u2.heap.size (.agg #[.int .u8 k, .int .i64 n, .string t, .slice A len cap, .int .i64 r]) x := (IsVa.keep (fun b hb => D2.block b hb) X5.out).mono fun b o hr => Nat.lt_of_lt_of_le hr D2.size
          go_wp2_with (go_at_call 19; refine (C19b.out _ u2.heap.size _ (IsNsR.one G2 G2.lt ha hXX) (Nat.le_refl _)).mono ?_; rintro e u3 ⟨vo, rfl, hvo, dd⟩; obtain ⟨k5, n5, s5, A5, len5, cap5, r5, rfl⟩ := hvo.shape)
          obtain ⟨lv, hlv⟩ : ∃ lv, lv = u2.heap.size := ⟨_, rfl⟩
          rw [← hlv] at hvo
          have hs3 := hs2.below dd
          have D3 := bnext D2 dd
          have G3 := G2.below dd
          clear hXX dd
          refine ⟨hs3, ?_⟩
          refine RegT.take_step (i := 7) rfl (by kernel_rfl) (by decide +kernel) (fun _ _ _ h => h) (by kernel_rfl) hs3 (v := .tuple #[.agg #[.int .u8 k5, .int .i64 n5, .string s5, .slice A5 len5 cap5, .int .i64 r5], .int .i64 0]) (fun w' hS => ?_) ?_
          · go_simp
          refine RegT.take_step (i := 8) rfl (by kernel_rfl) (by decide +kernel) (fun _ _ _ h => h) (by kernel_rfl) hs3 (v := .agg #[.int .u8 k5, .int .i64 n5, .string s5, .slice A5 len5 cap5, .int .i64 r5]) (fun w' hS => ?_) ?_
          · go_simp
          refine RegT.take_step (i := 9) rfl (by kernel_rfl) (by decide +kernel) (fun _ _ _ h => h) (by kernel_rfl) hs3 (v := .int .i64 0) (fun w' hS => ?_) ?_
          · go_simp
          refine RegT.any_each [10] (by kernel_rfl) rfl ?_
          intro i hi
          simp only [List.mem_cons, List.not_mem_nil, or_false] at hi
          subst hi
          refine RegT.wpOp_held rfl ?_
          go_wp2_with fail
          obtain ⟨u4, hu⟩ : ∃ u', u' = u3.alloc (.cells #[.int .u8 0, .int .i64 0, .string ⟨#[]⟩, .slice Option.none 0 0, .int .i64 0] 34) := ⟨_, rfl⟩
          rw [← hu]
          have dd : Below u3.heap.size u3 u4 := by rw [hu]; exact (Below.refl _ _).alloc (Nat.le_refl _) _
          obtain ⟨q, hq⟩ : ∃ q, q = u3.heap.size := ⟨_, rfl⟩
          have Z4 : BlkN u4 q 34 #[.int .u8 0, .int .i64 0, .string ⟨#[]⟩, .slice Option.none 0 0, .int .i64 0] := by rw [hu, hq]; exact BlkN.at_ rfl _ _
          have hqW : W13.heap.size ≤ q := by rw [hq]; exact D3.size
          have hqv : ∀ b o, Own34 u3 lv b o → b ≠ q := fun b o hr => by have := hr.lt; omega
          rw [← hq]
          have hvo0 := hvo.mono fun b o hr => (⟨hr, hqv b o hr⟩ : Own34 u3 lv b o ∧ b ≠ q)
          have hs4 := hs3.below dd
          have D4 := bnext D3 dd
          have G4 := G3.below dd
          have hvo := (hvo0.keep fun b o hr => dd.block b hr.1.lt).mono fun b o hr => (⟨Own34.below hr.1 dd, hr.2⟩ : Own34 u4 lv b o ∧ b ≠ q)
          clear hvo0 hqv
          clear hu hq dd
          refine ⟨hs4, ?_⟩
          refine RegT.any_each [11] (by kernel_rfl) rfl ?_
          intro i hi
          simp only [List.mem_cons, List.not_mem_nil, or_false] at hi
          subst hi
          refine wpOp_store rfl rfl 34 (.tmp 19) (.tmp 105) rfl i34 HI34.out q #[.int .u8 k5, .int .i64 n5, .string s5, .slice A5 len5 cap5, .int .i64 r5] rfl rfl 34 _ Z4 (by rw [hi34]; rfl) rfl (by intro u hu; simp only [List.mem_cons, List.not_mem_nil, or_false] at hu; rcases hu with rfl | rfl | rfl | rfl | rfl <;> rfl) ?_
          intro Wf hQf hbut
          have hsf : BlkN Wf (p5) 34 #[.int .u8 k, .int .i64 n, .string t, .slice A len cap, .int .i64 r] := (hbut.other _ (by omega)).trans hs4
          have HWf : Hid (Below W13.heap.size W13 Wf) := Lib.hid (hbut.below hqW D4)
          have Q19 : Hid (BlkN Wf q 34 #[.int .u8 k5, .int .i64 n5, .string s5, .slice A5 len5 cap5, .int .i64 r5]) := Lib.hid hQf
          have X19 : Hid (IsVa Wf Wf.heap.size (.agg #[.int .u8 k5, .int .i64 n5, .string s5, .slice A5 len5 cap5, .int .i64 r5]) x) := Lib.hid ((hvo.keep fun b o hr => hbut.other b hr.2).mono fun b o hr => by rw [hbut.size]; exact hr.1.lt)
          clear hQf hbut hvo D4 Z4
          refine ⟨hsf, ?_⟩
          refine RegT.take_step (i := 12) rfl (by kernel_rfl) (by decide +kernel) (fun _ _ _ h => h) (by kernel_rfl) hsf (v := .int .i64 0) (fun w' hS => ?_) ?_
          · go_simp
          clear hsf
          refine RegT.any_done (by kernel_rfl) ?_
          simp only [RegT.NP]
          exact ⟨by first | rfl | trivial, q, g, k5, n5, s5, A5, len5, cap5, r5, by kernel_rfl, HWf.out, Q19.out, X19.out⟩
        · refine RegT.wpOp_held rfl ?_
          go_wp2_with fail
          obtain ⟨u3, hu⟩ : ∃ u', u' = u2.alloc (.cells #[.int .u8 0, .int .i64 0, .string ⟨#[]⟩, .slice Option.none 0 0, .int .i64 0] 34) := ⟨_, rfl⟩
          rw [← hu]
          have dd : Below u2.heap.size u2 u3 := by rw [hu]; exact (Below.refl _ _).alloc (Nat.le_refl _) _
          obtain ⟨q, hq⟩ : ∃ q, q = u2.heap.size := ⟨_, rfl⟩
          have Z3 : BlkN u3 q 34 #[.int .u8 0, .int .i64 0, .string ⟨#[]⟩, .slice Option.none 0 0, .int .i64 0] := by rw [hu, hq]; exact BlkN.at_ rfl _ _
          have hqW : W13.heap.size ≤ q := by rw [hq]; exact D2.size
          rw [← hq]
          have hs3 := hs2.below dd
          have D3 := bnext D2 dd
          have G3 := G2.below dd
          clear hu hq dd
          refine ⟨hs3, ?_⟩
          refine RegT.any_each [6] (by kernel_rfl) rfl ?_
          intro i hi
          simp only [List.mem_cons, List.not_mem_nil, or_false] at hi
          subst hi
          refine RegT.wpOp_held rfl ?_
          have hXX : IsVa u3 u3.heap.size (.agg #[.int .u8 k, .int .i64 n, .string t, .slice A len cap, .int .i64 r]) x := (IsVa.keep (fun b hb => D3.block b hb) X5.out).mono fun b o hr => Nat.lt_of_lt_of_le hr D3.size
          go_wp2_with (go_at_call 19; refine (C19b.out _ u3.heap.size _ (IsNsR.one G3 G3.lt ha hXX) (Nat.le_refl _)).mono ?_; rintro e u4 ⟨vo, rfl, hvo, dd⟩; obtain ⟨k5, n5, s5, A5, len5, cap5, r5, rfl⟩ := hvo.shape)
          obtain ⟨lv, hlv⟩ : ∃ lv, lv = u3.heap.size := ⟨_, rfl⟩
          rw [← hlv] at hvo
          have hs4 := hs3.below dd
          have D4 := bnext D3 dd
          have G4 := G3.below dd
          have Z4 := Z3.below dd
          have hvo := hvo.mono fun b o hr => (⟨hr, by have := hr.1; have := Z3.lt; omega⟩ : Own34 u4 lv b o ∧ b ≠ q)
          clear hXX dd
          refine ⟨hs4, ?_⟩
          refine RegT.take_step (i := 7) rfl (by kernel_rfl) (by decide +kernel) (fun _ _ _ h => h) (by kernel_rfl) hs4 (v := .tuple #[.agg #[.int .u8 k5, .int .i64 n5, .string s5, .slice A5 len5 cap5, .int .i64 r5], .int .i64 0]) (fun w' hS => ?_) ?_
          · go_simp
          refine RegT.take_step (i := 8) rfl (by kernel_rfl) (by decide +kernel) (fun _ _ _ h => h) (by kernel_rfl) hs4 (v := .agg #[.int .u8 k5, .int .i64 n5, .string s5, .slice A5 len5 cap5, .int .i64 r5]) (fun w' hS => ?_) ?_
          · go_simp
          refine RegT.take_step (i := 9) rfl (by kernel_rfl) (by decide +kernel) (fun _ _ _ h => h) (by kernel_rfl) hs4 (v := .int .i64 0) (fun w' hS => ?_) ?_
          · go_simp
          refine RegT.any_each [11] (by kernel_rfl) rfl ?_
          intro i hi
          simp only [List.mem_cons, List.not_mem_nil, or_false] at hi
          subst hi
          refine wpOp_store rfl rfl 34 (.tmp 19) (.tmp 105) rfl i34 HI34.out q #[.int .u8 k5, .int .i64 n5, .string s5, .slice A5 len5 cap5, .int .i64 r5] rfl rfl 34 _ Z4 (by rw [hi34]; rfl) rfl (by intro u hu; simp only [List.mem_cons, List.not_mem_nil, or_false] at hu; rcases hu with rfl | rfl | rfl | rfl | rfl <;> rfl) ?_
          intro Wf hQf hbut
          have hsf : BlkN Wf (p5) 34 #[.int .u8 k, .int .i64 n, .string t, .slice A len cap, .int .i64 r] := (hbut.other _ (by omega)).trans hs4
          have HWf : Hid (Below W13.heap.size W13 Wf) := Lib.hid (hbut.below hqW D4)
          have Q19 : Hid (BlkN Wf q 34 #[.int .u8 k5, .int .i64 n5, .string s5, .slice A5 len5 cap5, .int .i64 r5]) := Lib.hid hQf
          have X19 : Hid (IsVa Wf Wf.heap.size (.agg #[.int .u8 k5, .int .i64 n5, .string s5, .slice A5 len5 cap5, .int .i64 r5]) x) := Lib.hid ((hvo.keep fun b o hr => hbut.other b hr.2).mono fun b o hr => by rw [hbut.size]; exact hr.1.lt)
          clear hQf hbut hvo D4 Z4
          refine ⟨hsf, ?_⟩
          refine RegT.take_step (i := 12) rfl (by kernel_rfl) (by decide +kernel) (fun _ _ _ h => h) (by kernel_rfl) hsf (v := .int .i64 0) (fun w' hS => ?_) ?_
          · go_simp
          clear hsf
          refine RegT.any_done (by kernel_rfl) ?_
          simp only [RegT.NP]
          exact ⟨by first | rfl | trivial, q, g, k5, n5, s5, A5, len5, cap5, r5, by kernel_rfl, HWf.out, Q19.out, X19.out⟩
      · refine RegT.wpOp_held rfl ?_
        go_wp2_with fail
        obtain ⟨u2, hu⟩ : ∃ u', u' = u1.alloc (.cells #[.int .u8 0, .int .i64 0, .string ⟨#[]⟩, .slice Option.none 0 0, .int .i64 0] 34) := ⟨_, rfl⟩
        rw [← hu]
        have dd : Below u1.heap.size u1 u2 := by rw [hu]; exact (Below.refl _ _).alloc (Nat.le_refl _) _
        obtain ⟨q, hq⟩ : ∃ q, q = u1.heap.size := ⟨_, rfl⟩
        have Z2 : BlkN u2 q 34 #[.int .u8 0, .int .i64 0, .string ⟨#[]⟩, .slice Option.none 0 0, .int .i64 0] := by rw [hu, hq]; exact BlkN.at_ rfl _ _
        have hqW : W13.heap.size ≤ q := by rw [hq]; exact D1.size
        rw [← hq]
        have hs2 := hs1.below dd
        have D2 := bnext D1 dd
        clear hu hq dd
        refine ⟨hs2, ?_⟩
        refine RegT.any_each [3] (by kernel_rfl) rfl ?_
        intro i hi
        simp only [List.mem_cons, List.not_mem_nil, or_false] at hi
        subst hi
        refine RegT.wpOp_held rfl ?_
        go_wp2_with fail
        obtain ⟨u3, hu⟩ : ∃ u', u' = u2.alloc (.cells #[.string a, .int .u8 k, .int .i64 n, .string t, .slice A len cap, .int .i64 r] 73) := ⟨_, rfl⟩
        rw [← hu]
        have dd : Below u2.heap.size u2 u3 := by rw [hu]; exact (Below.refl _ _).alloc (Nat.le_refl _) _
        obtain ⟨g, hg⟩ : ∃ g, g = u2.heap.size := ⟨_, rfl⟩
        have G3 : BlkN u3 g 73 #[.string a, .int .u8 k, .int .i64 n, .string t, .slice A len cap, .int .i64 r] := by rw [hu, hg]; exact BlkN.at_ rfl _ _
        rw [← hg]
        have hs3 := hs2.below dd
        have D3 := bnext D2 dd
        have Z3 := Z2.below dd
        clear hu hg dd
        refine ⟨hs3, ?_⟩
        refine RegT.any_each [6] (by kernel_rfl) rfl ?_
        intro i hi
        simp only [List.mem_cons, List.not_mem_nil, or_false] at hi
        subst hi
        refine RegT.wpOp_held rfl ?_
        have hXX : IsVa u3 u3.heap.size (.agg #[.int .u8 k, .int .i64 n, .string t, .slice A len cap, .int .i64 r]) x := (IsVa.keep (fun b hb => D3.block b hb) X5.out).mono fun b o hr => Nat.lt_of_lt_of_le hr D3.size
        go_wp2_with (go_at_call 19; refine (C19b.out _ u3.heap.size _ (IsNsR.one G3 G3.lt ha hXX) (Nat.le_refl _)).mono ?_; rintro e u4 ⟨vo, rfl, hvo, dd⟩; obtain ⟨k5, n5, s5, A5, len5, cap5, r5, rfl⟩ := hvo.shape)
        obtain ⟨lv, hlv⟩ : ∃ lv, lv = u3.heap.size := ⟨_, rfl⟩
        rw [← hlv] at hvo
        have hs4 := hs3.below dd
        have D4 := bnext D3 dd
        have G4 := G3.below dd
        have Z4 := Z3.below dd
        have hvo := hvo.mono fun b o hr => (⟨hr, by have := hr.1; have := Z3.lt; omega⟩ : Own34 u4 lv b o ∧ b ≠ q)
        clear hXX dd
        refine ⟨hs4, ?_⟩
        refine RegT.take_step (i := 7) rfl (by kernel_rfl) (by decide +kernel) (fun _ _ _ h => h) (by kernel_rfl) hs4 (v := .tuple #[.agg #[.int .u8 k5, .int .i64 n5, .string s5, .slice A5 len5 cap5, .int .i64 r5], .int .i64 0]) (fun w' hS => ?_) ?_
        · go_simp
        refine RegT.take_step (i := 8) rfl (by kernel_rfl) (by decide +kernel) (fun _ _ _ h => h) (by kernel_rfl) hs4 (v := .agg #[.int .u8 k5, .int .i64 n5, .string s5, .slice A5 len5 cap5, .int .i64 r5]) (fun w' hS => ?_) ?_
        · go_simp
        refine RegT.take_step (i := 9) rfl (by kernel_rfl) (by decide +kernel) (fun _ _ _ h => h) (by kernel_rfl) hs4 (v := .int .i64 0) (fun w' hS => ?_) ?_
        · go_simp
        refine RegT.any_each [11] (by kernel_rfl) rfl ?_
        intro i hi
        simp only [List.mem_cons, List.not_mem_nil, or_false] at hi
        subst hi
        refine wpOp_store rfl rfl 34 (.tmp 19) (.tmp 105) rfl i34 HI34.out q #[.int .u8 k5, .int .i64 n5, .string s5, .slice A5 len5 cap5, .int .i64 r5] rfl rfl 34 _ Z4 (by rw [hi34]; rfl) rfl (by intro u hu; simp only [List.mem_cons, List.not_mem_nil, or_false] at hu; rcases hu with rfl | rfl | rfl | rfl | rfl <;> rfl) ?_
        intro Wf hQf hbut
        have hsf : BlkN Wf (p5) 34 #[.int .u8 k, .int .i64 n, .string t, .slice A len cap, .int .i64 r] := (hbut.other _ (by omega)).trans hs4
        have HWf : Hid (Below W13.heap.size W13 Wf) := Lib.hid (hbut.below hqW D4)
        have Q19 : Hid (BlkN Wf q 34 #[.int .u8 k5, .int .i64 n5, .string s5, .slice A5 len5 cap5, .int .i64 r5]) := Lib.hid hQf
        have X19 : Hid (IsVa Wf Wf.heap.size (.agg #[.int .u8 k5, .int .i64 n5, .string s5, .slice A5 len5 cap5, .int .i64 r5]) x) := Lib.hid ((hvo.keep fun b o hr => hbut.other b hr.2).mono fun b o hr => by rw [hbut.size]; exact hr.1.lt)
        clear hQf hbut hvo D4 Z4
        refine ⟨hsf, ?_⟩
        refine RegT.take_step (i := 12) rfl (by kernel_rfl) (by decide +kernel) (fun _ _ _ h => h) (by kernel_rfl) hsf (v := .int .i64 0) (fun w' hS => ?_) ?_
        · go_simp
        clear hsf
        refine RegT.any_done (by kernel_rfl) ?_
        simp only [RegT.NP]
        exact ⟨by first | rfl | trivial, q, g, k5, n5, s5, A5, len5, cap5, r5, by kernel_rfl, HWf.out, Q19.out, X19.out⟩
    · refine RegT.wpOp_held rfl ?_
      go_wp2_with fail
      obtain ⟨u1, hu⟩ : ∃ u', u' = u0.alloc (.cells #[.int .u8 0, .int .i64 0, .string ⟨#[]⟩, .slice Option.none 0 0, .int .i64 0] 34) := ⟨_, rfl⟩
      rw [← hu]
      have dd : Below u0.heap.size u0 u1 := by rw [hu]; exact (Below.refl _ _).alloc (Nat.le_refl _) _
      obtain ⟨q, hq⟩ : ∃ q, q = u0.heap.size := ⟨_, rfl⟩
      have Z1 : BlkN u1 q 34 #[.int .u8 0, .int .i64 0, .string ⟨#[]⟩, .slice Option.none 0 0, .int .i64 0] := by rw [hu, hq]; exact BlkN.at_ rfl _ _
      have hqW : W13.heap.size ≤ q := by rw [hq]; exact D0.size
      rw [← hq]
      have hs1 := hs0.below dd
      have D1 := bnext D0 dd
      clear hu hq dd
      refine ⟨hs1, ?_⟩
      refine RegT.any_each [3, 5] (by kernel_rfl) rfl ?_
      intro i hi
      simp only [List.mem_cons, List.not_mem_nil, or_false] at hi
      rcases hi with rfl | rfl
      · refine RegT.wpOp_held rfl ?_
        go_wp2_with fail
        obtain ⟨u2, hu⟩ : ∃ u', u' = u1.alloc (.cells #[.string a, .int .u8 k, .int .i64 n, .string t, .slice A len cap, .int .i64 r] 73) := ⟨_, rfl⟩
        rw [← hu]
        have dd : Below u1.heap.size u1 u2 := by rw [hu]; exact (Below.refl _ _).alloc (Nat.le_refl _) _
        obtain ⟨g, hg⟩ : ∃ g, g = u1.heap.size := ⟨_, rfl⟩
        have G2 : BlkN u2 g 73 #[.string a, .int .u8 k, .int .i64 n, .string t, .slice A len cap, .int .i64 r] := by rw [hu, hg]; exact BlkN.at_ rfl _ _
        rw [← hg]
        have hs2 := hs1.below dd
        have D2 := bnext D1 dd
        have Z2 := Z1.below dd
        clear hu hg dd
        refine ⟨hs2, ?_⟩
        refine RegT.any_each [5] (by kernel_rfl) rfl ?_
        intro i hi
        simp only [List.mem_cons, List.not_mem_nil, or_false] at hi
        subst hi
        refine RegT.wpOp_held rfl ?_
        go_wp2_with (go_at_call 47; refine (name_any _ _).mono ?_; rintro e u3 ⟨rfl, dd⟩)
        have hs3 := hs2.below dd
        have D3 := bnext D2 dd
        have G3 := G2.below dd
        have Z3 := Z2.below dd
        clear dd
        refine ⟨hs3, ?_⟩
        refine RegT.any_each [6] (by kernel_rfl) rfl ?_
        intro i hi
        simp only [List.mem_cons, List.not_mem_nil, or_false] at hi
        subst hi
        refine RegT.wpOp_held rfl ?_
        have hXX : IsVa u3 u3.heap.size (.agg #[.int .u8 k, .int .i64 n, .string t, .slice A len cap, .int .i64 r]) x := (IsVa.keep (fun b hb => D3.block b hb) X5.out).mono fun b o hr => Nat.lt_of_lt_of_le hr D3.size
        go_wp2_with (go_at_call 19; refine (C19b.out _ u3.heap.size _ (IsNsR.one G3 G3.lt ha hXX) (Nat.le_refl _)).mono ?_; rintro e u4 ⟨vo, rfl, hvo, dd⟩; obtain ⟨k5, n5, s5, A5, len5, cap5, r5, rfl⟩ := hvo.shape)
        obtain ⟨lv, hlv⟩ : ∃ lv, lv = u3.heap.size := ⟨_, rfl⟩
        rw [← hlv] at hvo
        have hs4 := hs3.below dd
        have D4 := bnext D3 dd
        have G4 := G3.below dd
        have Z4 := Z3.below dd
        have hvo := hvo.mono fun b o hr => (⟨hr, by have := hr.1; have := Z3.lt; omega⟩ : Own34 u4 lv b o ∧ b ≠ q)
        clear hXX dd
        refine ⟨hs4, ?_⟩
        refine RegT.take_step (i := 7) rfl (by kernel_rfl) (by decide +kernel) (fun _ _ _ h => h) (by kernel_rfl) hs4 (v := .tuple #[.agg #[.int .u8 k5, .int .i64 n5, .string s5, .slice A5 len5 cap5, .int .i64 r5], .int .i64 0]) (fun w' hS => ?_) ?_
        · go_simp
        refine RegT.take_step (i := 8) rfl (by kernel_rfl) (by decide +kernel) (fun _ _ _ h => h) (by kernel_rfl) hs4 (v := .agg #[.int .u8 k5, .int .i64 n5, .string s5, .slice A5 len5 cap5, .int .i64 r5]) (fun w' hS => ?_) ?_
        · go_simp
        refine RegT.take_step (i := 9) rfl (by kernel_rfl) (by decide +kernel) (fun _ _ _ h => h) (by kernel_rfl) hs4 (v := .int .i64 0) (fun w' hS => ?_) ?_
        · go_simp
        refine RegT.any_each [11] (by kernel_rfl) rfl ?_
        intro i hi
        simp only [List.mem_cons, List.not_mem_nil, or_false] at hi
        subst hi
        refine wpOp_store rfl rfl 34 (.tmp 19) (.tmp 105) rfl i34 HI34.out q #[.int .u8 k5, .int .i64 n5, .string s5, .slice A5 len5 cap5, .int .i64 r5] rfl rfl 34 _ Z4 (by rw [hi34]; rfl) rfl (by intro u hu; simp only [List.mem_cons, List.not_mem_nil, or_false] at hu; rcases hu with rfl | rfl | rfl | rfl | rfl <;> rfl) ?_
        intro Wf hQf hbut
        have hsf : BlkN Wf (p5) 34 #[.int .u8 k, .int .i64 n, .string t, .slice A len cap, .int .i64 r] := (hbut.other _ (by omega)).trans hs4
        have HWf : Hid (Below W13.heap.size W13 Wf) := Lib.hid (hbut.below hqW D4)
        have Q19 : Hid (BlkN Wf q 34 #[.int .u8 k5, .int .i64 n5, .string s5, .slice A5 len5 cap5, .int .i64 r5]) := Lib.hid hQf
        have X19 : Hid (IsVa Wf Wf.heap.size (.agg #[.int .u8 k5, .int .i64 n5, .string s5, .slice A5 len5 cap5, .int .i64 r5]) x) := Lib.hid ((hvo.keep fun b o hr => hbut.other b hr.2).mono fun b o hr => by rw [hbut.size]; exact hr.1.lt)
        clear hQf hbut hvo D4 Z4
        refine ⟨hsf, ?_⟩
        refine RegT.take_step (i := 12) rfl (by kernel_rfl) (by decide +kernel) (fun _ _ _ h => h) (by kernel_rfl) hsf (v := .int .i64 0) (fun w' hS => ?_) ?_
        · go_simp
        clear hsf
        refine RegT.any_done (by kernel_rfl) ?_
        simp only [RegT.NP]
        exact ⟨by first | rfl | trivial, q, g, k5, n5, s5, A5, len5, cap5, r5, by kernel_rfl, HWf.out, Q19.out, X19.out⟩
      · refine RegT.wpOp_held rfl ?_
        go_wp2_with (go_at_call 47; refine (name_any _ _).mono ?_; rintro e u2 ⟨rfl, dd⟩)
        have hs2 := hs1.below dd
        have D2 := bnext D1 dd
        have Z2 := Z1.below dd
        clear dd
        refine ⟨hs2, ?_⟩
        refine RegT.any_each [3] (by kernel_rfl) rfl ?_
        intro i hi
        simp only [List.mem_cons, List.not_mem_nil, or_false] at hi
        subst hi
        refine RegT.wpOp_held rfl ?_
        go_wp2_with fail
        obtain ⟨u3, hu⟩ : ∃ u', u' = u2.alloc (.cells #[.string a, .int .u8 k, .int .i64 n, .string t, .slice A len cap, .int .i64 r] 73) := ⟨_, rfl⟩
        rw [← hu]
        have dd : Below u2.heap.size u2 u3 := by rw [hu]; exact (Below.refl _ _).alloc (Nat.le_refl _) _
        obtain ⟨g, hg⟩ : ∃ g, g = u2.heap.size := ⟨_, rfl⟩
        have G3 : BlkN u3 g 73 #[.string a, .int .u8 k, .int .i64 n, .string t, .slice A len cap, .int .i64 r] := by rw [hu, hg]; exact BlkN.at_ rfl _ _
        rw [← hg]
        have hs3 := hs2.below dd
        have D3 := bnext D2 dd
        have Z3 := Z2.below dd
        clear hu hg dd
        refine ⟨hs3, ?_⟩
        refine RegT.any_each [6] (by kernel_rfl) rfl ?_
        intro i hi
        simp only [List.mem_cons, List.not_mem_nil, or_false] at hi
        subst hi
        refine RegT.wpOp_held rfl ?_
        have hXX : IsVa u3 u3.heap.size (.agg #[.int .u8 k, .int .i64 n, .string t, .slice A len cap, .int .i64 r]) x := (IsVa.keep (fun b hb => D3.block b hb) X5.out).mono fun b o hr => Nat.lt_of_lt_of_le hr D3.size
        go_wp2_with (go_at_call 19; refine (C19b.out _ u3.heap.size _ (IsNsR.one G3 G3.lt ha hXX) (Nat.le_refl _)).mono ?_; rintro e u4 ⟨vo, rfl, hvo, dd⟩; obtain ⟨k5, n5, s5, A5, len5, cap5, r5, rfl⟩ := hvo.shape)
        obtain ⟨lv, hlv⟩ : ∃ lv, lv = u3.heap.size := ⟨_, rfl⟩
        rw [← hlv] at hvo
        have hs4 := hs3.below dd
        have D4 := bnext D3 dd
        have G4 := G3.below dd
        have Z4 := Z3.below dd
        have hvo := hvo.mono fun b o hr => (⟨hr, by have := hr.1; have := Z3.lt; omega⟩ : Own34 u4 lv b o ∧ b ≠ q)
        clear hXX dd
        refine ⟨hs4, ?_⟩
        refine RegT.take_step (i := 7) rfl (by kernel_rfl) (by decide +kernel) (fun _ _ _ h => h) (by kernel_rfl) hs4 (v := .tuple #[.agg #[.int .u8 k5, .int .i64 n5, .string s5, .slice A5 len5 cap5, .int .i64 r5], .int .i64 0]) (fun w' hS => ?_) ?_
        · go_simp
        refine RegT.take_step (i := 8) rfl (by kernel_rfl) (by decide +kernel) (fun _ _ _ h => h) (by kernel_rfl) hs4 (v := .agg #[.int .u8 k5, .int .i64 n5, .string s5, .slice A5 len5 cap5, .int .i64 r5]) (fun w' hS => ?_) ?_
        · go_simp
        refine RegT.take_step (i := 9) rfl (by kernel_rfl) (by decide +kernel) (fun _ _ _ h => h) (by kernel_rfl) hs4 (v := .int .i64 0) (fun w' hS => ?_) ?_
        · go_simp
        refine RegT.any_each [11] (by kernel_rfl) rfl ?_
        intro i hi
        simp only [List.mem_cons, List.not_mem_nil, or_false] at hi
        subst hi
        refine wpOp_store rfl rfl 34 (.tmp 19) (.tmp 105) rfl i34 HI34.out q #[.int .u8 k5, .int .i64 n5, .string s5, .slice A5 len5 cap5, .int .i64 r5] rfl rfl 34 _ Z4 (by rw [hi34]; rfl) rfl (by intro u hu; simp only [List.mem_cons, List.not_mem_nil, or_false] at hu; rcases hu with rfl | rfl | rfl | rfl | rfl <;> rfl) ?_
        intro Wf hQf hbut
        have hsf : BlkN Wf (p5) 34 #[.int .u8 k, .int .i64 n, .string t, .slice A len cap, .int .i64 r] := (hbut.other _ (by omega)).trans hs4
        have HWf : Hid (Below W13.heap.size W13 Wf) := Lib.hid (hbut.below hqW D4)
        have Q19 : Hid (BlkN Wf q 34 #[.int .u8 k5, .int .i64 n5, .string s5, .slice A5 len5 cap5, .int .i64 r5]) := Lib.hid hQf
        have X19 : Hid (IsVa Wf Wf.heap.size (.agg #[.int .u8 k5, .int .i64 n5, .string s5, .slice A5 len5 cap5, .int .i64 r5]) x) := Lib.hid ((hvo.keep fun b o hr => hbut.other b hr.2).mono fun b o hr => by rw [hbut.size]; exact hr.1.lt)
        clear hQf hbut hvo D4 Z4
        refine ⟨hsf, ?_⟩
        refine RegT.take_step (i := 12) rfl (by kernel_rfl) (by decide +kernel) (fun _ _ _ h => h) (by kernel_rfl) hsf (v := .int .i64 0) (fun w' hS => ?_) ?_
        · go_simp
        clear hsf
        refine RegT.any_done (by kernel_rfl) ?_
        simp only [RegT.NP]
        exact ⟨by first | rfl | trivial, q, g, k5, n5, s5, A5, len5, cap5, r5, by kernel_rfl, HWf.out, Q19.out, X19.out⟩
  case hB =>
    intro a' Wf hJ
    obtain ⟨q, g, k5, n5, s5, A5, len5, cap5, r5, rfl, hJ1, hJ2, hJ3⟩ := hJ
    exact HK.out Wf q g k5 n5 s5 A5 len5 cap5 r5 hJ1 hJ2 hJ3
end Go.Proofs.Ytnknefdpglnbnaa
