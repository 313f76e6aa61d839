/- The document's comparison of codes: two statements held against one another. -/
import Derived.Test.YtnknefdpglnbnaaZb
import Derived.Test.YtnknefdpglnbnaaRg
import Derived.Deep.Cut
namespace Go.Proofs.Ytnknefdpglnbnaa
open Go.RowKit
attribute [local irreducible] wpList
attribute [local go_sem] SV.g0 SV.g1 SV.g2 SV.g3 SV.g4 SV.g5 SV.g6 SV.g7 SV.g8 SV.g9 SV.g10 SV.g11 SV.g12 SV.g13 SV.g14 SV.g15 SV.g16
set_option maxRecDepth 100000 in
set_option maxHeartbeats 8000000 in
theorem reg34_7 {K : Act → World → Prop} {Q' : Exit → Act → World → Prop} (s z : SV) (p q : Nat) (w : World) (ra rb rt re rc : Bool) (_hsw : s.wl ≤ 140737488351232) (_hzw : z.wl ≤ 140737488351232)
    (hS : BlkN w p 58 s.arr) (hZ : BlkN w q 58 z.arr) (HA' : ∀ w', Below w.heap.size w w' → Calls Try.prog 80 #[.agg #[.int .u8 s.a0, .int .i64 s.a1, .string s.a2, .slice s.aA s.al s.ac], .agg #[.int .u8 z.a0, .int .i64 z.a1, .string z.a2, .slice z.aA z.al z.ac]] w' fun e w'' => e = .returned (.bool ra) ∧ Below w'.heap.size w' w'') (HB' : ∀ w', Below w.heap.size w w' → Calls Try.prog 80 #[.agg #[.int .u8 s.b0, .int .i64 s.b1, .string s.b2, .slice s.bA s.bl s.bc], .agg #[.int .u8 z.b0, .int .i64 z.b1, .string z.b2, .slice z.bA z.bl z.bc]] w' fun e w'' => e = .returned (.bool rb) ∧ Below w'.heap.size w' w'') (HT' : ∀ w', Below w.heap.size w w' → Calls Try.prog 34 #[.slice s.tA s.tl s.tc, .slice z.tA z.tl z.tc] w' fun e w'' => e = .returned (.bool rt) ∧ Below w'.heap.size w' w'') (HE' : ∀ w', Below w.heap.size w w' → Calls Try.prog 34 #[.slice s.eA s.el s.ec, .slice z.eA z.el z.ec] w' fun e w'' => e = .returned (.bool re) ∧ Below w'.heap.size w' w'') (HC' : ∀ w', Below w.heap.size w w' → Calls Try.prog 34 #[.slice s.cA s.cl s.cc, .slice z.cA z.cl z.cc] w' fun e w'' => e = .returned (.bool rc) ∧ Below w'.heap.size w' w'') (x0 x1 x2 x3 x4 x5 x8 x9 x10 x11 x12 x13 x14 x15 x16 x17 x18 x19 x20 x21 x22 x23 x24 x25 x26 x27 x28 x29 x30 x31 x32 x33 x34 x35 x36 x37 x38 x39 x40 x41 x42 x43 x44 x45 x46 x47 x48 x49 x50 x51 x52 x53 x54 x55 x56 x57 x58 x59 x60 x61 x62 x63 x64 x65 x66 x67 x68 x69 x70 x71 x72 x73 x74 x75 x76 x77 x78 x79 x80 x81 x82 x83 x84 x85 x86 x87 x88 x89 x90 x91 x92 x93 x94 x95 x96 x97 x98 x99 x100 x101 x102 x103 x104 x105 x106 x107 x108 x109 x110 x111 x112 x113 x114 x115 x116 x117 x118 x119 x120 x121 x122 x123 x124 x125 x126 x127 : Value)
    (h : ∀ (R : Bool) (w' : World) (u28 u29 u30 u31 u32 u33 u34 u35 u36 u37 u38 u39 u40 u41 u42 u43 u44 u45 u46 u47 u48 u49 u50 u51 u52 u53 u54 u55 u56 u57 u58 u59 u60 u61 u62 u63 u64 u65 u66 u67 u68 u69 u70 u71 u72 u73 u74 u75 u76 u77 u78 u79 u80 u81 u82 u83 u84 u85 u86 u87 u88 u89 u90 u91 u92 u93 u94 u95 u96 u97 u98 u99 u100 u101 u102 u103 u104 u105 u106 u107 u108 : Value), R = (!(s.op == z.op && (s.nm.toList == z.nm.toList && (s.sec.toList == z.sec.toList && (s.ab == z.ab && (s.wh == z.wh && (ra && (rb && (rt && (re && (rc && s.wl == z.wl))))))))))) → Below w.heap.size w w' → K ⟨#[x0, x1, x2, x3, x4, x5, .pointer (some ⟨p, 0, Option.none⟩), .pointer (some ⟨q, 0, Option.none⟩), x8, x9, x10, x11, x12, x13, x14, x15, x16, x17, x18, x19, x20, x21, x22, x23, x24, x25, x26, x27, u28, u29, u30, u31, u32, u33, u34, u35, u36, u37, u38, u39, u40, u41, u42, u43, u44, u45, u46, u47, u48, u49, u50, u51, u52, u53, u54, u55, u56, u57, u58, u59, u60, u61, u62, u63, u64, u65, u66, u67, u68, u69, u70, u71, u72, u73, u74, u75, u76, u77, u78, u79, u80, u81, u82, u83, u84, u85, u86, u87, u88, u89, u90, u91, u92, u93, u94, u95, u96, u97, u98, u99, u100, u101, u102, u103, u104, u105, u106, u107, u108, .bool R, x110, x111, x112, x113, x114, x115, x116, x117, x118, x119, x120, x121, x122, x123, x124, x125, x126, x127], []⟩ w') : (Code.region 7 (RegP.opsOf Try.f34 7) false).wp Try.prog (Exit.then K Q') ⟨#[x0, x1, x2, x3, x4, x5, .pointer (some ⟨p, 0, Option.none⟩), .pointer (some ⟨q, 0, Option.none⟩), x8, x9, x10, x11, x12, x13, x14, x15, x16, x17, x18, x19, x20, x21, x22, x23, x24, x25, x26, x27, x28, x29, x30, x31, x32, x33, x34, x35, x36, x37, x38, x39, x40, x41, x42, x43, x44, x45, x46, x47, x48, x49, x50, x51, x52, x53, x54, x55, x56, x57, x58, x59, x60, x61, x62, x63, x64, x65, x66, x67, x68, x69, x70, x71, x72, x73, x74, x75, x76, x77, x78, x79, x80, x81, x82, x83, x84, x85, x86, x87, x88, x89, x90, x91, x92, x93, x94, x95, x96, x97, x98, x99, x100, x101, x102, x103, x104, x105, x106, x107, x108, x109, x110, x111, x112, x113, x114, x115, x116, x117, x118, x119, x120, x121, x122, x123, x124, x125, x126, x127], []⟩ w := by
  have H := Lib.hid h
  have HA : Hid (∀ w', Below w.heap.size w w' → Calls Try.prog 80 #[.agg #[.int .u8 s.a0, .int .i64 s.a1, .string s.a2, .slice s.aA s.al s.ac], .agg #[.int .u8 z.a0, .int .i64 z.a1, .string z.a2, .slice z.aA z.al z.ac]] w' fun e w'' => e = .returned (.bool ra) ∧ Below w'.heap.size w' w'') := Lib.hid HA'
  have HB : Hid (∀ w', Below w.heap.size w w' → Calls Try.prog 80 #[.agg #[.int .u8 s.b0, .int .i64 s.b1, .string s.b2, .slice s.bA s.bl s.bc], .agg #[.int .u8 z.b0, .int .i64 z.b1, .string z.b2, .slice z.bA z.bl z.bc]] w' fun e w'' => e = .returned (.bool rb) ∧ Below w'.heap.size w' w'') := Lib.hid HB'
  have HT : Hid (∀ w', Below w.heap.size w w' → Calls Try.prog 34 #[.slice s.tA s.tl s.tc, .slice z.tA z.tl z.tc] w' fun e w'' => e = .returned (.bool rt) ∧ Below w'.heap.size w' w'') := Lib.hid HT'
  have HE : Hid (∀ w', Below w.heap.size w w' → Calls Try.prog 34 #[.slice s.eA s.el s.ec, .slice z.eA z.el z.ec] w' fun e w'' => e = .returned (.bool re) ∧ Below w'.heap.size w' w'') := Lib.hid HE'
  have HC : Hid (∀ w', Below w.heap.size w w' → Calls Try.prog 34 #[.slice s.cA s.cl s.cc, .slice z.cA z.cl z.cc] w' fun e w'' => e = .returned (.bool rc) ∧ Below w'.heap.size w' w'') := Lib.hid HC'
  have h17 := s.size
  have h17' := z.size
  have hl1 := hS.lt
  have hl2 := hZ.lt
  have HS := Lib.hid hS
  have HZ := Lib.hid hZ
  have c0 := hS.cell 0 s.at0
  have c1 := hS.cell 1 s.at1
  have c2 := hS.cell 2 s.at2
  have c3 := hS.cell 3 s.at3
  have c4 := hS.cell 4 s.at4
  have c5 := hS.cell 5 s.at5
  have c6 := hS.cell 6 s.at6
  have c7 := hS.cell 7 s.at7
  have c8 := hS.cell 8 s.at8
  have d0 := hZ.cell 0 z.at0
  have d1 := hZ.cell 1 z.at1
  have d2 := hZ.cell 2 z.at2
  have d3 := hZ.cell 3 z.at3
  have d4 := hZ.cell 4 z.at4
  have d5 := hZ.cell 5 z.at5
  have d6 := hZ.cell 6 z.at6
  have d7 := hZ.cell 7 z.at7
  have d8 := hZ.cell 8 z.at8
  clear h hS hZ HA' HB' HT' HE' HC'
  simp only [Try.f34, RegP.opsOf, RegP.reg?]
  simp only [Nat.reduceEqDiff, if_true, if_false, Option.getD_some]
  cases h0 : (s.op == z.op)
  · have G0 := Lib.hid h0
    have h0' : (s.op != z.op) = true := by rw [bne, h0]; rfl
    go_wp2_with (fail)
    refine H.out _ _ _ _ _ _ _ _ _ _ _ _ _ _ _ _ _ _ _ _ _ _ _ _ _ _ _ _ _ _ _ _ _ _ _ _ _ _ _ _ _ _ _ _ _ _ _ _ _ _ _ _ _ _ _ _ _ _ _ _ _ _ _ _ _ _ _ _ _ _ _ _ _ _ _ _ _ _ _ _ _ _ _ ?_ (Below.refl _ _)
    have eG0 := G0.out
    simp [eG0]
  have G0 := Lib.hid h0
  have h0' : (s.op != z.op) = false := by rw [bne, h0]; rfl
  clear h0
  cases h1 : (s.nm.toList == z.nm.toList)
  · have G1 := Lib.hid h1
    have h1' : (s.nm.toList != z.nm.toList) = true := by rw [bne, h1]; rfl
    go_wp2_with (fail)
    refine H.out _ _ _ _ _ _ _ _ _ _ _ _ _ _ _ _ _ _ _ _ _ _ _ _ _ _ _ _ _ _ _ _ _ _ _ _ _ _ _ _ _ _ _ _ _ _ _ _ _ _ _ _ _ _ _ _ _ _ _ _ _ _ _ _ _ _ _ _ _ _ _ _ _ _ _ _ _ _ _ _ _ _ _ ?_ (Below.refl _ _)
    have eG0 := G0.out
    have eG1 := G1.out
    simp [eG0, eG1]
  have G1 := Lib.hid h1
  have h1' : (s.nm.toList != z.nm.toList) = false := by rw [bne, h1]; rfl
  cases h2 : (s.sec.toList == z.sec.toList)
  · have G2 := Lib.hid h2
    have h2' : (s.sec.toList != z.sec.toList) = true := by rw [bne, h2]; rfl
    go_wp2_with (fail)
    refine H.out _ _ _ _ _ _ _ _ _ _ _ _ _ _ _ _ _ _ _ _ _ _ _ _ _ _ _ _ _ _ _ _ _ _ _ _ _ _ _ _ _ _ _ _ _ _ _ _ _ _ _ _ _ _ _ _ _ _ _ _ _ _ _ _ _ _ _ _ _ _ _ _ _ _ _ _ _ _ _ _ _ _ _ ?_ (Below.refl _ _)
    have eG0 := G0.out
    have eG1 := G1.out
    have eG2 := G2.out
    simp [eG0, eG1, eG2]
  have G2 := Lib.hid h2
  have h2' : (s.sec.toList != z.sec.toList) = false := by rw [bne, h2]; rfl
  cases h3 : (s.ab == z.ab)
  · have G3 := Lib.hid h3
    have h3' : (s.ab != z.ab) = true := by rw [bne, h3]; rfl
    go_wp2_with (fail)
    refine H.out _ _ _ _ _ _ _ _ _ _ _ _ _ _ _ _ _ _ _ _ _ _ _ _ _ _ _ _ _ _ _ _ _ _ _ _ _ _ _ _ _ _ _ _ _ _ _ _ _ _ _ _ _ _ _ _ _ _ _ _ _ _ _ _ _ _ _ _ _ _ _ _ _ _ _ _ _ _ _ _ _ _ _ ?_ (Below.refl _ _)
    have eG0 := G0.out
    have eG1 := G1.out
    have eG2 := G2.out
    have eG3 := G3.out
    simp [eG0, eG1, eG2, eG3]
  have G3 := Lib.hid h3
  have h3' : (s.ab != z.ab) = false := by rw [bne, h3]; rfl
  clear h3
  cases h4 : (s.wh == z.wh)
  · have G4 := Lib.hid h4
    have h4' : (s.wh != z.wh) = true := by rw [bne, h4]; rfl
    go_wp2_with (fail)
    refine H.out _ _ _ _ _ _ _ _ _ _ _ _ _ _ _ _ _ _ _ _ _ _ _ _ _ _ _ _ _ _ _ _ _ _ _ _ _ _ _ _ _ _ _ _ _ _ _ _ _ _ _ _ _ _ _ _ _ _ _ _ _ _ _ _ _ _ _ _ _ _ _ _ _ _ _ _ _ _ _ _ _ _ _ ?_ (Below.refl _ _)
    have eG0 := G0.out
    have eG1 := G1.out
    have eG2 := G2.out
    have eG3 := G3.out
    have eG4 := G4.out
    simp [eG0, eG1, eG2, eG3, eG4]
  have G4 := Lib.hid h4
  have h4' : (s.wh != z.wh) = false := by rw [bne, h4]; rfl
  clear h4
  cases h5 : ra
  · have G5 := Lib.hid h5
    rw [h5] at HA
    clear h5
    go_wp2_with (first | (go_at_call 80; with_reducible refine (HA.out _ (Below.refl _ _)).mono ?_; rintro e1 w1 ⟨rfl, hb1⟩; have hB1 : Below w.heap.size w w1 := hb1; have hS1 := HS.out.below hB1; have hZ1 := HZ.out.below hB1; have g9 := hS1.cell 9 s.at9; have g10 := hS1.cell 10 s.at10; have g11 := hS1.cell 11 s.at11; have g12 := hS1.cell 12 s.at12; have k9 := hZ1.cell 9 z.at9; have k10 := hZ1.cell 10 z.at10; have k11 := hZ1.cell 11 z.at11; have k12 := hZ1.cell 12 z.at12; have hl1a := hS1.lt; have hl1b := hZ1.lt; clear hb1 hS1 hZ1))
    refine H.out _ _ _ _ _ _ _ _ _ _ _ _ _ _ _ _ _ _ _ _ _ _ _ _ _ _ _ _ _ _ _ _ _ _ _ _ _ _ _ _ _ _ _ _ _ _ _ _ _ _ _ _ _ _ _ _ _ _ _ _ _ _ _ _ _ _ _ _ _ _ _ _ _ _ _ _ _ _ _ _ _ _ _ ?_ (hB1)
    have eG0 := G0.out
    have eG1 := G1.out
    have eG2 := G2.out
    have eG3 := G3.out
    have eG4 := G4.out
    have eG5 := G5.out
    simp [eG0, eG1, eG2, eG3, eG4, eG5]
  have G5 := Lib.hid h5
  rw [h5] at HA
  clear h5
  cases h6 : rb
  · have G6 := Lib.hid h6
    rw [h6] at HB
    clear h6
    go_wp2_with (first | (go_at_call 80; with_reducible refine (HA.out _ (Below.refl _ _)).mono ?_; rintro e1 w1 ⟨rfl, hb1⟩; have hB1 : Below w.heap.size w w1 := hb1; have hS1 := HS.out.below hB1; have hZ1 := HZ.out.below hB1; have g9 := hS1.cell 9 s.at9; have g10 := hS1.cell 10 s.at10; have g11 := hS1.cell 11 s.at11; have g12 := hS1.cell 12 s.at12; have k9 := hZ1.cell 9 z.at9; have k10 := hZ1.cell 10 z.at10; have k11 := hZ1.cell 11 z.at11; have k12 := hZ1.cell 12 z.at12; have hl1a := hS1.lt; have hl1b := hZ1.lt; clear hb1 hS1 hZ1) | (go_at_call 80; with_reducible refine (HB.out _ hB1).mono ?_; rintro e2 w2 ⟨rfl, hb2⟩; have hB2 : Below w.heap.size w w2 := bnext hB1 hb2; have hS2 := HS.out.below hB2; have hZ2 := HZ.out.below hB2; have g13 := hS2.cell 13 s.at13; have k13 := hZ2.cell 13 z.at13; have hl2a := hS2.lt; have hl2b := hZ2.lt; clear hb2 hS2 hZ2))
    refine H.out _ _ _ _ _ _ _ _ _ _ _ _ _ _ _ _ _ _ _ _ _ _ _ _ _ _ _ _ _ _ _ _ _ _ _ _ _ _ _ _ _ _ _ _ _ _ _ _ _ _ _ _ _ _ _ _ _ _ _ _ _ _ _ _ _ _ _ _ _ _ _ _ _ _ _ _ _ _ _ _ _ _ _ ?_ (hB2)
    have eG0 := G0.out
    have eG1 := G1.out
    have eG2 := G2.out
    have eG3 := G3.out
    have eG4 := G4.out
    have eG5 := G5.out
    have eG6 := G6.out
    simp [eG0, eG1, eG2, eG3, eG4, eG5, eG6]
  have G6 := Lib.hid h6
  rw [h6] at HB
  clear h6
  cases h7 : rt
  · have G7 := Lib.hid h7
    rw [h7] at HT
    clear h7
    go_wp2_with (first | (go_at_call 80; with_reducible refine (HA.out _ (Below.refl _ _)).mono ?_; rintro e1 w1 ⟨rfl, hb1⟩; have hB1 : Below w.heap.size w w1 := hb1; have hS1 := HS.out.below hB1; have hZ1 := HZ.out.below hB1; have g9 := hS1.cell 9 s.at9; have g10 := hS1.cell 10 s.at10; have g11 := hS1.cell 11 s.at11; have g12 := hS1.cell 12 s.at12; have k9 := hZ1.cell 9 z.at9; have k10 := hZ1.cell 10 z.at10; have k11 := hZ1.cell 11 z.at11; have k12 := hZ1.cell 12 z.at12; have hl1a := hS1.lt; have hl1b := hZ1.lt; clear hb1 hS1 hZ1) | (go_at_call 80; with_reducible refine (HB.out _ hB1).mono ?_; rintro e2 w2 ⟨rfl, hb2⟩; have hB2 : Below w.heap.size w w2 := bnext hB1 hb2; have hS2 := HS.out.below hB2; have hZ2 := HZ.out.below hB2; have g13 := hS2.cell 13 s.at13; have k13 := hZ2.cell 13 z.at13; have hl2a := hS2.lt; have hl2b := hZ2.lt; clear hb2 hS2 hZ2) | (go_at_call 34; with_reducible refine (HT.out _ hB2).mono ?_; rintro e3 w3 ⟨rfl, hb3⟩; have hB3 : Below w.heap.size w w3 := bnext hB2 hb3; have hS3 := HS.out.below hB3; have hZ3 := HZ.out.below hB3; have g14 := hS3.cell 14 s.at14; have k14 := hZ3.cell 14 z.at14; have hl3a := hS3.lt; have hl3b := hZ3.lt; clear hb3 hS3 hZ3))
    refine H.out _ _ _ _ _ _ _ _ _ _ _ _ _ _ _ _ _ _ _ _ _ _ _ _ _ _ _ _ _ _ _ _ _ _ _ _ _ _ _ _ _ _ _ _ _ _ _ _ _ _ _ _ _ _ _ _ _ _ _ _ _ _ _ _ _ _ _ _ _ _ _ _ _ _ _ _ _ _ _ _ _ _ _ ?_ (hB3)
    have eG0 := G0.out
    have eG1 := G1.out
    have eG2 := G2.out
    have eG3 := G3.out
    have eG4 := G4.out
    have eG5 := G5.out
    have eG6 := G6.out
    have eG7 := G7.out
    simp [eG0, eG1, eG2, eG3, eG4, eG5, eG6, eG7]
  have G7 := Lib.hid h7
  rw [h7] at HT
  clear h7
  cases h8 : re
  · have G8 := Lib.hid h8
    rw [h8] at HE
    clear h8
    go_wp2_with (first | (go_at_call 80; with_reducible refine (HA.out _ (Below.refl _ _)).mono ?_; rintro e1 w1 ⟨rfl, hb1⟩; have hB1 : Below w.heap.size w w1 := hb1; have hS1 := HS.out.below hB1; have hZ1 := HZ.out.below hB1; have g9 := hS1.cell 9 s.at9; have g10 := hS1.cell 10 s.at10; have g11 := hS1.cell 11 s.at11; have g12 := hS1.cell 12 s.at12; have k9 := hZ1.cell 9 z.at9; have k10 := hZ1.cell 10 z.at10; have k11 := hZ1.cell 11 z.at11; have k12 := hZ1.cell 12 z.at12; have hl1a := hS1.lt; have hl1b := hZ1.lt; clear hb1 hS1 hZ1) | (go_at_call 80; with_reducible refine (HB.out _ hB1).mono ?_; rintro e2 w2 ⟨rfl, hb2⟩; have hB2 : Below w.heap.size w w2 := bnext hB1 hb2; have hS2 := HS.out.below hB2; have hZ2 := HZ.out.below hB2; have g13 := hS2.cell 13 s.at13; have k13 := hZ2.cell 13 z.at13; have hl2a := hS2.lt; have hl2b := hZ2.lt; clear hb2 hS2 hZ2) | (go_at_call 34; with_reducible refine (HT.out _ hB2).mono ?_; rintro e3 w3 ⟨rfl, hb3⟩; have hB3 : Below w.heap.size w w3 := bnext hB2 hb3; have hS3 := HS.out.below hB3; have hZ3 := HZ.out.below hB3; have g14 := hS3.cell 14 s.at14; have k14 := hZ3.cell 14 z.at14; have hl3a := hS3.lt; have hl3b := hZ3.lt; clear hb3 hS3 hZ3) | (go_at_call 34; with_reducible refine (HE.out _ hB3).mono ?_; rintro e4 w4 ⟨rfl, hb4⟩; have hB4 : Below w.heap.size w w4 := bnext hB3 hb4; have hS4 := HS.out.below hB4; have hZ4 := HZ.out.below hB4; have g15 := hS4.cell 15 s.at15; have k15 := hZ4.cell 15 z.at15; have hl4a := hS4.lt; have hl4b := hZ4.lt; clear hb4 hS4 hZ4))
    refine H.out _ _ _ _ _ _ _ _ _ _ _ _ _ _ _ _ _ _ _ _ _ _ _ _ _ _ _ _ _ _ _ _ _ _ _ _ _ _ _ _ _ _ _ _ _ _ _ _ _ _ _ _ _ _ _ _ _ _ _ _ _ _ _ _ _ _ _ _ _ _ _ _ _ _ _ _ _ _ _ _ _ _ _ ?_ (hB4)
    have eG0 := G0.out
    have eG1 := G1.out
    have eG2 := G2.out
    have eG3 := G3.out
    have eG4 := G4.out
    have eG5 := G5.out
    have eG6 := G6.out
    have eG7 := G7.out
    have eG8 := G8.out
    simp [eG0, eG1, eG2, eG3, eG4, eG5, eG6, eG7, eG8]
  have G8 := Lib.hid h8
  rw [h8] at HE
  clear h8
  cases h9 : rc
  · have G9 := Lib.hid h9
    rw [h9] at HC
    clear h9
    go_wp2_with (first | (go_at_call 80; with_reducible refine (HA.out _ (Below.refl _ _)).mono ?_; rintro e1 w1 ⟨rfl, hb1⟩; have hB1 : Below w.heap.size w w1 := hb1; have hS1 := HS.out.below hB1; have hZ1 := HZ.out.below hB1; have g9 := hS1.cell 9 s.at9; have g10 := hS1.cell 10 s.at10; have g11 := hS1.cell 11 s.at11; have g12 := hS1.cell 12 s.at12; have k9 := hZ1.cell 9 z.at9; have k10 := hZ1.cell 10 z.at10; have k11 := hZ1.cell 11 z.at11; have k12 := hZ1.cell 12 z.at12; have hl1a := hS1.lt; have hl1b := hZ1.lt; clear hb1 hS1 hZ1) | (go_at_call 80; with_reducible refine (HB.out _ hB1).mono ?_; rintro e2 w2 ⟨rfl, hb2⟩; have hB2 : Below w.heap.size w w2 := bnext hB1 hb2; have hS2 := HS.out.below hB2; have hZ2 := HZ.out.below hB2; have g13 := hS2.cell 13 s.at13; have k13 := hZ2.cell 13 z.at13; have hl2a := hS2.lt; have hl2b := hZ2.lt; clear hb2 hS2 hZ2) | (go_at_call 34; with_reducible refine (HT.out _ hB2).mono ?_; rintro e3 w3 ⟨rfl, hb3⟩; have hB3 : Below w.heap.size w w3 := bnext hB2 hb3; have hS3 := HS.out.below hB3; have hZ3 := HZ.out.below hB3; have g14 := hS3.cell 14 s.at14; have k14 := hZ3.cell 14 z.at14; have hl3a := hS3.lt; have hl3b := hZ3.lt; clear hb3 hS3 hZ3) | (go_at_call 34; with_reducible refine (HE.out _ hB3).mono ?_; rintro e4 w4 ⟨rfl, hb4⟩; have hB4 : Below w.heap.size w w4 := bnext hB3 hb4; have hS4 := HS.out.below hB4; have hZ4 := HZ.out.below hB4; have g15 := hS4.cell 15 s.at15; have k15 := hZ4.cell 15 z.at15; have hl4a := hS4.lt; have hl4b := hZ4.lt; clear hb4 hS4 hZ4) | (go_at_call 34; with_reducible refine (HC.out _ hB4).mono ?_; rintro e5 w5 ⟨rfl, hb5⟩; have hB5 : Below w.heap.size w w5 := bnext hB4 hb5; have hS5 := HS.out.below hB5; have hZ5 := HZ.out.below hB5; have g16 := hS5.cell 16 s.at16; have k16 := hZ5.cell 16 z.at16; have hl5a := hS5.lt; have hl5b := hZ5.lt; clear hb5 hS5 hZ5))
    refine H.out _ _ _ _ _ _ _ _ _ _ _ _ _ _ _ _ _ _ _ _ _ _ _ _ _ _ _ _ _ _ _ _ _ _ _ _ _ _ _ _ _ _ _ _ _ _ _ _ _ _ _ _ _ _ _ _ _ _ _ _ _ _ _ _ _ _ _ _ _ _ _ _ _ _ _ _ _ _ _ _ _ _ _ ?_ (hB5)
    have eG0 := G0.out
    have eG1 := G1.out
    have eG2 := G2.out
    have eG3 := G3.out
    have eG4 := G4.out
    have eG5 := G5.out
    have eG6 := G6.out
    have eG7 := G7.out
    have eG8 := G8.out
    have eG9 := G9.out
    simp [eG0, eG1, eG2, eG3, eG4, eG5, eG6, eG7, eG8, eG9]
  have G9 := Lib.hid h9
  rw [h9] at HC
  clear h9
  by_cases hw : s.wl = z.wl
  · have GW := Lib.hid (show (s.wl == z.wl) = true from by simpa using hw)
    have hw' : (((s.wl : Nat) : Int) != ((z.wl : Nat) : Int)) = false := by rw [hw]; simp
    clear hw
    go_wp2_with (first | (go_at_call 80; with_reducible refine (HA.out _ (Below.refl _ _)).mono ?_; rintro e1 w1 ⟨rfl, hb1⟩; have hB1 : Below w.heap.size w w1 := hb1; have hS1 := HS.out.below hB1; have hZ1 := HZ.out.below hB1; have g9 := hS1.cell 9 s.at9; have g10 := hS1.cell 10 s.at10; have g11 := hS1.cell 11 s.at11; have g12 := hS1.cell 12 s.at12; have k9 := hZ1.cell 9 z.at9; have k10 := hZ1.cell 10 z.at10; have k11 := hZ1.cell 11 z.at11; have k12 := hZ1.cell 12 z.at12; have hl1a := hS1.lt; have hl1b := hZ1.lt; clear hb1 hS1 hZ1) | (go_at_call 80; with_reducible refine (HB.out _ hB1).mono ?_; rintro e2 w2 ⟨rfl, hb2⟩; have hB2 : Below w.heap.size w w2 := bnext hB1 hb2; have hS2 := HS.out.below hB2; have hZ2 := HZ.out.below hB2; have g13 := hS2.cell 13 s.at13; have k13 := hZ2.cell 13 z.at13; have hl2a := hS2.lt; have hl2b := hZ2.lt; clear hb2 hS2 hZ2) | (go_at_call 34; with_reducible refine (HT.out _ hB2).mono ?_; rintro e3 w3 ⟨rfl, hb3⟩; have hB3 : Below w.heap.size w w3 := bnext hB2 hb3; have hS3 := HS.out.below hB3; have hZ3 := HZ.out.below hB3; have g14 := hS3.cell 14 s.at14; have k14 := hZ3.cell 14 z.at14; have hl3a := hS3.lt; have hl3b := hZ3.lt; clear hb3 hS3 hZ3) | (go_at_call 34; with_reducible refine (HE.out _ hB3).mono ?_; rintro e4 w4 ⟨rfl, hb4⟩; have hB4 : Below w.heap.size w w4 := bnext hB3 hb4; have hS4 := HS.out.below hB4; have hZ4 := HZ.out.below hB4; have g15 := hS4.cell 15 s.at15; have k15 := hZ4.cell 15 z.at15; have hl4a := hS4.lt; have hl4b := hZ4.lt; clear hb4 hS4 hZ4) | (go_at_call 34; with_reducible refine (HC.out _ hB4).mono ?_; rintro e5 w5 ⟨rfl, hb5⟩; have hB5 : Below w.heap.size w w5 := bnext hB4 hb5; have hS5 := HS.out.below hB5; have hZ5 := HZ.out.below hB5; have g16 := hS5.cell 16 s.at16; have k16 := hZ5.cell 16 z.at16; have hl5a := hS5.lt; have hl5b := hZ5.lt; clear hb5 hS5 hZ5))
    refine H.out _ _ _ _ _ _ _ _ _ _ _ _ _ _ _ _ _ _ _ _ _ _ _ _ _ _ _ _ _ _ _ _ _ _ _ _ _ _ _ _ _ _ _ _ _ _ _ _ _ _ _ _ _ _ _ _ _ _ _ _ _ _ _ _ _ _ _ _ _ _ _ _ _ _ _ _ _ _ _ _ _ _ _ ?_ (hB5)
    have eG0 := G0.out
    have eG1 := G1.out
    have eG2 := G2.out
    have eG3 := G3.out
    have eG4 := G4.out
    have eG5 := G5.out
    have eG6 := G6.out
    have eG7 := G7.out
    have eG8 := G8.out
    have eG9 := G9.out
    have eGW := GW.out
    simp [eG0, eG1, eG2, eG3, eG4, eG5, eG6, eG7, eG8, eG9, eGW]
  · have GW := Lib.hid (show (s.wl == z.wl) = false from by simpa using hw)
    have hw' : (((s.wl : Nat) : Int) != ((z.wl : Nat) : Int)) = true := by simp; omega
    clear hw
    go_wp2_with (first | (go_at_call 80; with_reducible refine (HA.out _ (Below.refl _ _)).mono ?_; rintro e1 w1 ⟨rfl, hb1⟩; have hB1 : Below w.heap.size w w1 := hb1; have hS1 := HS.out.below hB1; have hZ1 := HZ.out.below hB1; have g9 := hS1.cell 9 s.at9; have g10 := hS1.cell 10 s.at10; have g11 := hS1.cell 11 s.at11; have g12 := hS1.cell 12 s.at12; have k9 := hZ1.cell 9 z.at9; have k10 := hZ1.cell 10 z.at10; have k11 := hZ1.cell 11 z.at11; have k12 := hZ1.cell 12 z.at12; have hl1a := hS1.lt; have hl1b := hZ1.lt; clear hb1 hS1 hZ1) | (go_at_call 80; with_reducible refine (HB.out _ hB1).mono ?_; rintro e2 w2 ⟨rfl, hb2⟩; have hB2 : Below w.heap.size w w2 := bnext hB1 hb2; have hS2 := HS.out.below hB2; have hZ2 := HZ.out.below hB2; have g13 := hS2.cell 13 s.at13; have k13 := hZ2.cell 13 z.at13; have hl2a := hS2.lt; have hl2b := hZ2.lt; clear hb2 hS2 hZ2) | (go_at_call 34; with_reducible refine (HT.out _ hB2).mono ?_; rintro e3 w3 ⟨rfl, hb3⟩; have hB3 : Below w.heap.size w w3 := bnext hB2 hb3; have hS3 := HS.out.below hB3; have hZ3 := HZ.out.below hB3; have g14 := hS3.cell 14 s.at14; have k14 := hZ3.cell 14 z.at14; have hl3a := hS3.lt; have hl3b := hZ3.lt; clear hb3 hS3 hZ3) | (go_at_call 34; with_reducible refine (HE.out _ hB3).mono ?_; rintro e4 w4 ⟨rfl, hb4⟩; have hB4 : Below w.heap.size w w4 := bnext hB3 hb4; have hS4 := HS.out.below hB4; have hZ4 := HZ.out.below hB4; have g15 := hS4.cell 15 s.at15; have k15 := hZ4.cell 15 z.at15; have hl4a := hS4.lt; have hl4b := hZ4.lt; clear hb4 hS4 hZ4) | (go_at_call 34; with_reducible refine (HC.out _ hB4).mono ?_; rintro e5 w5 ⟨rfl, hb5⟩; have hB5 : Below w.heap.size w w5 := bnext hB4 hb5; have hS5 := HS.out.below hB5; have hZ5 := HZ.out.below hB5; have g16 := hS5.cell 16 s.at16; have k16 := hZ5.cell 16 z.at16; have hl5a := hS5.lt; have hl5b := hZ5.lt; clear hb5 hS5 hZ5))
    refine H.out _ _ _ _ _ _ _ _ _ _ _ _ _ _ _ _ _ _ _ _ _ _ _ _ _ _ _ _ _ _ _ _ _ _ _ _ _ _ _ _ _ _ _ _ _ _ _ _ _ _ _ _ _ _ _ _ _ _ _ _ _ _ _ _ _ _ _ _ _ _ _ _ _ _ _ _ _ _ _ _ _ _ _ ?_ (hB5)
    have eG0 := G0.out
    have eG1 := G1.out
    have eG2 := G2.out
    have eG3 := G3.out
    have eG4 := G4.out
    have eG5 := G5.out
    have eG6 := G6.out
    have eG7 := G7.out
    have eG8 := G8.out
    have eG9 := G9.out
    have eGW := GW.out
    simp [eG0, eG1, eG2, eG3, eG4, eG5, eG6, eG7, eG8, eG9, eGW]
end Go.Proofs.Ytnknefdpglnbnaa
