/- The document's answer on one statement: names and expressions held against a form. The document's answer on one statement: the other fields held against a form. The document's answer on one statement, walked. -/
import Derived.Test.YtnknefdpglnbnaaCb
import Derived.Test.YtnknefdpglnbnaaRg
namespace Go.Proofs.Ytnknefdpglnbnaa
open Go.RowKit

def bad2 (f : Fm) (ok : Bool) (nm sec : ByteArray) (a b : Ex) : Bool :=
  !ok || (!nameF nm f.nm || (!nameF sec f.sec || ((decide (0 < f.sec) && sec.toList == nm.toList) || (!exprF a f.a || !exprF b f.b))))
def bad4 (f : Fm) (ab wh : Int) (tl el : Nat) : Bool :=
  (f.ab == 0 && ab != 0) || ((f.ab == 1 && !oneI ab) || ((f.ab == 2 && decide (63 < ab)) || ((!f.wh && wh != 0) || (!f.bl && decide (0 < (tl : Int) + el)))))
def stmtX : St → Bool
  | .mk op nm sec ab wh a b t e c ws =>
    let f := formX op ab wh
    !bad2 f.1 f.2 nm sec a b && (!bad4 f.1 ab wh t.length e.length && (if f.1.cl then decide (ws.length ≤ 64) && (!twB ws && ws.all mayN) else decide (c.length + ws.length = 0)))
theorem Fm.at0 (f : Fm) : f.arr[0]? = some (.int .i64 f.nm) := rfl
theorem Fm.g0 (f : Fm) (h : 0 < f.arr.size) : f.arr[0] = .int .i64 f.nm := rfl
theorem Fm.at1 (f : Fm) : f.arr[1]? = some (.int .i64 f.sec) := rfl
theorem Fm.g1 (f : Fm) (h : 1 < f.arr.size) : f.arr[1] = .int .i64 f.sec := rfl
theorem Fm.at2 (f : Fm) : f.arr[2]? = some (.int .i64 f.a) := rfl
theorem Fm.g2 (f : Fm) (h : 2 < f.arr.size) : f.arr[2] = .int .i64 f.a := rfl
theorem Fm.at3 (f : Fm) : f.arr[3]? = some (.int .i64 f.b) := rfl
theorem Fm.g3 (f : Fm) (h : 3 < f.arr.size) : f.arr[3] = .int .i64 f.b := rfl
theorem Fm.at4 (f : Fm) : f.arr[4]? = some (.int .i64 f.ab) := rfl
theorem Fm.g4 (f : Fm) (h : 4 < f.arr.size) : f.arr[4] = .int .i64 f.ab := rfl
theorem Fm.at5 (f : Fm) : f.arr[5]? = some (.bool f.wh) := rfl
theorem Fm.g5 (f : Fm) (h : 5 < f.arr.size) : f.arr[5] = .bool f.wh := rfl
theorem Fm.at6 (f : Fm) : f.arr[6]? = some (.bool f.bl) := rfl
theorem Fm.g6 (f : Fm) (h : 6 < f.arr.size) : f.arr[6] = .bool f.bl := rfl
theorem Fm.at7 (f : Fm) : f.arr[7]? = some (.bool f.cl) := rfl
theorem Fm.g7 (f : Fm) (h : 7 < f.arr.size) : f.arr[7] = .bool f.cl := rfl
attribute [local go_sem] SV.g0 SV.g1 SV.g2 SV.g3 SV.g4 SV.g5 SV.g6 SV.g7 SV.g8 SV.g9 SV.g10 SV.g11 SV.g12 SV.g13 SV.g14 SV.g15 SV.g16 Fm.g0 Fm.g1 Fm.g2 Fm.g3 Fm.g4 Fm.g5 Fm.g6 Fm.g7
set_option maxRecDepth 100000 in
set_option maxHeartbeats 4000000 in
theorem reg77_2 {K : Act → World → Prop} {Q' : Exit → Act → World → Prop} (s : SV) (f : Fm) (ok : Bool) (a b : Ex) (p q B : Nat) (w : World) (hB : B ≤ w.heap.size) (hsn : s.nm.size ≤ 140737488351232) (hss : s.sec.size ≤ 140737488351232) (ha : IsEx w B s.a a) (hb : IsEx w B s.b b)
    (hS : BlkN w p 58 s.arr) (hF : BlkN w q 138 f.arr) (x5 x6 x7 x8 x9 x10 x11 x12 x13 x14 x15 x16 x17 x18 x19 x20 x21 x22 x23 x24 x25 x26 x27 x28 x29 x30 x31 x32 x33 x34 x35 x36 x37 x38 x39 x40 x41 x42 x43 x44 x45 x46 x47 x48 x49 x50 x51 x52 x53 x54 x55 x56 x57 x58 x59 x60 x61 x62 x63 x64 x65 x66 x67 x68 x69 x70 x71 x72 x73 x74 x75 x76 x77 x78 x79 x80 x81 x82 x83 x84 x85 x86 x87 x88 x89 x90 x91 x92 x93 x94 x95 x96 x97 x98 x99 x100 x101 x102 x103 x104 x105 x106 x107 x108 x109 x110 x111 x112 x113 x114 x115 x116 x117 x118 x119 x120 x121 x122 x123 x124 x125 x126 x127 x128 x129 x130 x131 x132 x133 x134 x135 x136 x137 x138 x139 x140 x141 x142 x143 x144 : Value)
    (h : ∀ (w' : World) (u4 u11 u12 u13 u14 u15 u16 u17 u18 u19 u20 u21 u22 u23 u24 u25 u26 u27 u28 u29 u30 u31 u32 u33 u34 u35 u36 u37 u38 u39 u40 u41 u42 u43 u44 u45 u46 u47 u48 u49 u50 u51 u52 u53 u54 u55 : Value), Below w.heap.size w w' → K ⟨#[.agg s.arr, .pointer (some ⟨p, 0, Option.none⟩), .bool false, .pointer (some ⟨q, 0, Option.none⟩), u4, x5, x6, x7, x8, x9, x10, u11, u12, u13, u14, u15, u16, u17, u18, u19, u20, u21, u22, u23, u24, u25, u26, u27, u28, u29, u30, u31, u32, u33, u34, u35, u36, u37, u38, u39, u40, u41, u42, u43, u44, u45, u46, u47, u48, u49, u50, u51, u52, u53, u54, u55, .bool (bad2 f ok s.nm s.sec a b), x57, x58, x59, x60, x61, x62, x63, x64, x65, x66, x67, x68, x69, x70, x71, x72, x73, x74, x75, x76, x77, x78, x79, x80, x81, x82, x83, x84, x85, x86, x87, x88, x89, x90, x91, x92, x93, x94, x95, x96, x97, x98, x99, x100, x101, x102, x103, x104, x105, x106, x107, x108, x109, x110, x111, x112, x113, x114, x115, x116, x117, x118, x119, x120, x121, x122, x123, x124, x125, x126, x127, x128, x129, x130, x131, x132, x133, x134, x135, x136, x137, x138, x139, x140, x141, x142, x143, x144], []⟩ w') : (Code.region 2 (RegP.opsOf Try.f77 2) false).wp Try.prog (Exit.then K Q') ⟨#[.agg s.arr, .pointer (some ⟨p, 0, Option.none⟩), .bool false, .pointer (some ⟨q, 0, Option.none⟩), .bool ok, x5, x6, x7, x8, x9, x10, x11, x12, x13, x14, x15, x16, x17, x18, x19, x20, x21, x22, x23, x24, x25, x26, x27, x28, x29, x30, x31, x32, x33, x34, x35, x36, x37, x38, x39, x40, x41, x42, x43, x44, x45, x46, x47, x48, x49, x50, x51, x52, x53, x54, x55, x56, x57, x58, x59, x60, x61, x62, x63, x64, x65, x66, x67, x68, x69, x70, x71, x72, x73, x74, x75, x76, x77, x78, x79, x80, x81, x82, x83, x84, x85, x86, x87, x88, x89, x90, x91, x92, x93, x94, x95, x96, x97, x98, x99, x100, x101, x102, x103, x104, x105, x106, x107, x108, x109, x110, x111, x112, x113, x114, x115, x116, x117, x118, x119, x120, x121, x122, x123, x124, x125, x126, x127, x128, x129, x130, x131, x132, x133, x134, x135, x136, x137, x138, x139, x140, x141, x142, x143, x144], []⟩ w := by
  have H0 : ∀ (w' : World) (R : Bool) (u4 u11 u12 u13 u14 u15 u16 u17 u18 u19 u20 u21 u22 u23 u24 u25 u26 u27 u28 u29 u30 u31 u32 u33 u34 u35 u36 u37 u38 u39 u40 u41 u42 u43 u44 u45 u46 u47 u48 u49 u50 u51 u52 u53 u54 u55 : Value), R = bad2 f ok s.nm s.sec a b → Below w.heap.size w w' → K ⟨#[.agg s.arr, .pointer (some ⟨p, 0, Option.none⟩), .bool false, .pointer (some ⟨q, 0, Option.none⟩), u4, x5, x6, x7, x8, x9, x10, u11, u12, u13, u14, u15, u16, u17, u18, u19, u20, u21, u22, u23, u24, u25, u26, u27, u28, u29, u30, u31, u32, u33, u34, u35, u36, u37, u38, u39, u40, u41, u42, u43, u44, u45, u46, u47, u48, u49, u50, u51, u52, u53, u54, u55, .bool R, x57, x58, x59, x60, x61, x62, x63, x64, x65, x66, x67, x68, x69, x70, x71, x72, x73, x74, x75, x76, x77, x78, x79, x80, x81, x82, x83, x84, x85, x86, x87, x88, x89, x90, x91, x92, x93, x94, x95, x96, x97, x98, x99, x100, x101, x102, x103, x104, x105, x106, x107, x108, x109, x110, x111, x112, x113, x114, x115, x116, x117, x118, x119, x120, x121, x122, x123, x124, x125, x126, x127, x128, x129, x130, x131, x132, x133, x134, x135, x136, x137, x138, x139, x140, x141, x142, x143, x144], []⟩ w' := fun w' R u4 u11 u12 u13 u14 u15 u16 u17 u18 u19 u20 u21 u22 u23 u24 u25 u26 u27 u28 u29 u30 u31 u32 u33 u34 u35 u36 u37 u38 u39 u40 u41 u42 u43 u44 u45 u46 u47 u48 u49 u50 u51 u52 u53 u54 u55 hR hb => by rw [hR]; exact h w' u4 u11 u12 u13 u14 u15 u16 u17 u18 u19 u20 u21 u22 u23 u24 u25 u26 u27 u28 u29 u30 u31 u32 u33 u34 u35 u36 u37 u38 u39 u40 u41 u42 u43 u44 u45 u46 u47 u48 u49 u50 u51 u52 u53 u54 u55 hb
  have H := Lib.hid H0
  clear h H0
  have H119a : Hid (∀ w' : World, Calls Try.prog 119 #[.string s.nm, .int .i64 f.nm] w' fun r w'' => r = .returned (.bool (nameF s.nm f.nm)) ∧ w' = w'') := Lib.hid (fun w' => name119_any s.nm f.nm w' hsn)
  have H119b : Hid (∀ w' : World, Calls Try.prog 119 #[.string s.sec, .int .i64 f.sec] w' fun r w'' => r = .returned (.bool (nameF s.sec f.sec)) ∧ w' = w'') := Lib.hid (fun w' => name119_any s.sec f.sec w' hss)
  have H120a : Hid (Calls Try.prog 120 #[.agg #[.int .u8 s.a0, .int .i64 s.a1, .string s.a2, .slice s.aA s.al s.ac], .int .i64 f.a] w fun r w' => r = .returned (.bool (exprF a f.a)) ∧ Below w.heap.size w w') := Lib.hid (expr120_any (x := a) f.a w ha hB)
  have H120b : Hid (∀ w', Below w.heap.size w w' → Calls Try.prog 120 #[.agg #[.int .u8 s.b0, .int .i64 s.b1, .string s.b2, .slice s.bA s.bl s.bc], .int .i64 f.b] w' fun r w'' => r = .returned (.bool (exprF b f.b)) ∧ Below w'.heap.size w' w'') := Lib.hid (fun w' hb' => expr120_any (x := b) f.b w' (IsEx.keep (B := B) (fun b hl => hb'.block b (Nat.lt_of_lt_of_le hl hB)) hb) (Nat.le_trans hB hb'.size))
  have h17 := s.size
  have h8 : f.arr.size = 8 := rfl
  have hl1 := hS.lt
  have hl2 := hF.lt
  have HS := Lib.hid hS
  have HF := Lib.hid hF
  have c1 := hS.cell 1 s.at1
  have c2 := hS.cell 2 s.at2
  have c5 := hS.cell 5 s.at5
  have c6 := hS.cell 6 s.at6
  have c7 := hS.cell 7 s.at7
  have c8 := hS.cell 8 s.at8
  have f0 := hF.cell 0 f.at0
  have f1 := hF.cell 1 f.at1
  have f2 := hF.cell 2 f.at2
  have f3 := hF.cell 3 f.at3
  clear hS hF hsn hss ha hb
  simp only [Try.f77, RegP.opsOf, RegP.reg?]
  simp only [Nat.reduceEqDiff, if_true, if_false, Option.getD_some]
  cases hok : ok
  · have G0 := Lib.hid hok
    clear hok
    go_wp2_with (fail)
    refine H.out _ _ _ _ _ _ _ _ _ _ _ _ _ _ _ _ _ _ _ _ _ _ _ _ _ _ _ _ _ _ _ _ _ _ _ _ _ _ _ _ _ _ _ _ _ _ _ _ ?_ (Below.refl _ _)
    have eG0 := G0.out
    simp [bad2, eG0]
  have G0 := Lib.hid hok
  clear hok
  cases h1 : nameF s.nm f.nm
  · have G1 := Lib.hid h1
    rw [h1] at H119a
    clear h1
    go_wp2_with (first | (go_at_call 119; with_reducible refine (H119a.out _).mono ?_; rintro r w4 ⟨rfl, rfl⟩))
    refine H.out _ _ _ _ _ _ _ _ _ _ _ _ _ _ _ _ _ _ _ _ _ _ _ _ _ _ _ _ _ _ _ _ _ _ _ _ _ _ _ _ _ _ _ _ _ _ _ _ ?_ (Below.refl _ _)
    have eG0 := G0.out
    have eG1 := G1.out
    simp [bad2, eG0, eG1]
  have G1 := Lib.hid h1
  rw [h1] at H119a
  clear h1
  cases h2 : nameF s.sec f.sec
  · have G2 := Lib.hid h2
    rw [h2] at H119b
    clear h2
    go_wp2_with (first | (go_at_call 119; with_reducible refine (H119a.out _).mono ?_; rintro r w4 ⟨rfl, rfl⟩) | (go_at_call 119; with_reducible refine (H119b.out _).mono ?_; rintro r w4 ⟨rfl, rfl⟩))
    refine H.out _ _ _ _ _ _ _ _ _ _ _ _ _ _ _ _ _ _ _ _ _ _ _ _ _ _ _ _ _ _ _ _ _ _ _ _ _ _ _ _ _ _ _ _ _ _ _ _ ?_ (Below.refl _ _)
    have eG0 := G0.out
    have eG1 := G1.out
    have eG2 := G2.out
    simp [bad2, eG0, eG1, eG2]
  have G2 := Lib.hid h2
  rw [h2] at H119b
  clear h2
  by_cases h3 : 0 < f.sec
  · have G3 := Lib.hid (show (fun (x : Bool) => x = true) (decide (0 < f.sec)) from by simpa using h3)
    cases h4 : (s.sec.toList == s.nm.toList)
    rotate_left
    · have G4 := Lib.hid h4
      go_wp2_with (first | (go_at_call 119; with_reducible refine (H119a.out _).mono ?_; rintro r w4 ⟨rfl, rfl⟩) | (go_at_call 119; with_reducible refine (H119b.out _).mono ?_; rintro r w4 ⟨rfl, rfl⟩))
      refine H.out _ _ _ _ _ _ _ _ _ _ _ _ _ _ _ _ _ _ _ _ _ _ _ _ _ _ _ _ _ _ _ _ _ _ _ _ _ _ _ _ _ _ _ _ _ _ _ _ ?_ (Below.refl _ _)
      have eG0 := G0.out
      have eG1 := G1.out
      have eG2 := G2.out
      have eG3 := G3.out
      have eG4 := G4.out
      simp [bad2, eG0, eG1, eG2, eG3, eG4]
    have G4 := Lib.hid h4
    cases h5 : exprF a f.a
    · have G5 := Lib.hid h5
      rw [h5] at H120a
      clear h5
      go_wp2_with (first | (go_at_call 119; with_reducible refine (H119a.out _).mono ?_; rintro r w4 ⟨rfl, rfl⟩) | (go_at_call 119; with_reducible refine (H119b.out _).mono ?_; rintro r w4 ⟨rfl, rfl⟩) | (go_at_call 120; with_reducible refine H120a.out.mono ?_; rintro r w4 ⟨rfl, hb4⟩; have hS4 := HS.out.below hb4; have hF4 := HF.out.below hb4; have d9 := hS4.cell 9 s.at9; have d10 := hS4.cell 10 s.at10; have d11 := hS4.cell 11 s.at11; have d12 := hS4.cell 12 s.at12; have g3 := hF4.cell 3 f.at3))
      refine H.out _ _ _ _ _ _ _ _ _ _ _ _ _ _ _ _ _ _ _ _ _ _ _ _ _ _ _ _ _ _ _ _ _ _ _ _ _ _ _ _ _ _ _ _ _ _ _ _ ?_ (hb4)
      have eG0 := G0.out
      have eG1 := G1.out
      have eG2 := G2.out
      have eG3 := G3.out
      have eG4 := G4.out
      have eG5 := G5.out
      simp [bad2, eG0, eG1, eG2, eG3, eG4, eG5]
    have G5 := Lib.hid h5
    rw [h5] at H120a
    clear h5
    cases h6 : exprF b f.b
    · have G6 := Lib.hid h6
      rw [h6] at H120b
      clear h6
      go_wp2_with (first | (go_at_call 119; with_reducible refine (H119a.out _).mono ?_; rintro r w4 ⟨rfl, rfl⟩) | (go_at_call 119; with_reducible refine (H119b.out _).mono ?_; rintro r w4 ⟨rfl, rfl⟩) | (go_at_call 120; with_reducible refine H120a.out.mono ?_; rintro r w4 ⟨rfl, hb4⟩; have hS4 := HS.out.below hb4; have hF4 := HF.out.below hb4; have d9 := hS4.cell 9 s.at9; have d10 := hS4.cell 10 s.at10; have d11 := hS4.cell 11 s.at11; have d12 := hS4.cell 12 s.at12; have g3 := hF4.cell 3 f.at3) | (go_at_call 120; refine (H120b.out _ hb4).mono ?_; rintro r w5 ⟨rfl, hb5⟩))
      refine H.out _ _ _ _ _ _ _ _ _ _ _ _ _ _ _ _ _ _ _ _ _ _ _ _ _ _ _ _ _ _ _ _ _ _ _ _ _ _ _ _ _ _ _ _ _ _ _ _ ?_ (bnext hb4 hb5)
      have eG0 := G0.out
      have eG1 := G1.out
      have eG2 := G2.out
      have eG3 := G3.out
      have eG4 := G4.out
      have eG5 := G5.out
      have eG6 := G6.out
      simp [bad2, eG0, eG1, eG2, eG3, eG4, eG5, eG6]
    have G6 := Lib.hid h6
    rw [h6] at H120b
    clear h6
    go_wp2_with (first | (go_at_call 119; with_reducible refine (H119a.out _).mono ?_; rintro r w4 ⟨rfl, rfl⟩) | (go_at_call 119; with_reducible refine (H119b.out _).mono ?_; rintro r w4 ⟨rfl, rfl⟩) | (go_at_call 120; with_reducible refine H120a.out.mono ?_; rintro r w4 ⟨rfl, hb4⟩; have hS4 := HS.out.below hb4; have hF4 := HF.out.below hb4; have d9 := hS4.cell 9 s.at9; have d10 := hS4.cell 10 s.at10; have d11 := hS4.cell 11 s.at11; have d12 := hS4.cell 12 s.at12; have g3 := hF4.cell 3 f.at3) | (go_at_call 120; refine (H120b.out _ hb4).mono ?_; rintro r w5 ⟨rfl, hb5⟩))
    refine H.out _ _ _ _ _ _ _ _ _ _ _ _ _ _ _ _ _ _ _ _ _ _ _ _ _ _ _ _ _ _ _ _ _ _ _ _ _ _ _ _ _ _ _ _ _ _ _ _ ?_ (bnext hb4 hb5)
    have eG0 := G0.out
    have eG1 := G1.out
    have eG2 := G2.out
    have eG3 := G3.out
    have eG4 := G4.out
    have eG5 := G5.out
    have eG6 := G6.out
    simp [bad2, eG0, eG1, eG2, eG3, eG4, eG5, eG6]
  have G3 := Lib.hid (show (fun (x : Bool) => x = false) (decide (0 < f.sec)) from by simpa using h3)
  cases h5 : exprF a f.a
  · have G5 := Lib.hid h5
    rw [h5] at H120a
    clear h5
    go_wp2_with (first | (go_at_call 119; with_reducible refine (H119a.out _).mono ?_; rintro r w4 ⟨rfl, rfl⟩) | (go_at_call 119; with_reducible refine (H119b.out _).mono ?_; rintro r w4 ⟨rfl, rfl⟩) | (go_at_call 120; with_reducible refine H120a.out.mono ?_; rintro r w4 ⟨rfl, hb4⟩; have hS4 := HS.out.below hb4; have hF4 := HF.out.below hb4; have d9 := hS4.cell 9 s.at9; have d10 := hS4.cell 10 s.at10; have d11 := hS4.cell 11 s.at11; have d12 := hS4.cell 12 s.at12; have g3 := hF4.cell 3 f.at3))
    refine H.out _ _ _ _ _ _ _ _ _ _ _ _ _ _ _ _ _ _ _ _ _ _ _ _ _ _ _ _ _ _ _ _ _ _ _ _ _ _ _ _ _ _ _ _ _ _ _ _ ?_ (hb4)
    have eG0 := G0.out
    have eG1 := G1.out
    have eG2 := G2.out
    have eG3 := G3.out
    have eG5 := G5.out
    simp [bad2, eG0, eG1, eG2, eG3, eG5]
  have G5 := Lib.hid h5
  rw [h5] at H120a
  clear h5
  cases h6 : exprF b f.b
  · have G6 := Lib.hid h6
    rw [h6] at H120b
    clear h6
    go_wp2_with (first | (go_at_call 119; with_reducible refine (H119a.out _).mono ?_; rintro r w4 ⟨rfl, rfl⟩) | (go_at_call 119; with_reducible refine (H119b.out _).mono ?_; rintro r w4 ⟨rfl, rfl⟩) | (go_at_call 120; with_reducible refine H120a.out.mono ?_; rintro r w4 ⟨rfl, hb4⟩; have hS4 := HS.out.below hb4; have hF4 := HF.out.below hb4; have d9 := hS4.cell 9 s.at9; have d10 := hS4.cell 10 s.at10; have d11 := hS4.cell 11 s.at11; have d12 := hS4.cell 12 s.at12; have g3 := hF4.cell 3 f.at3) | (go_at_call 120; refine (H120b.out _ hb4).mono ?_; rintro r w5 ⟨rfl, hb5⟩))
    refine H.out _ _ _ _ _ _ _ _ _ _ _ _ _ _ _ _ _ _ _ _ _ _ _ _ _ _ _ _ _ _ _ _ _ _ _ _ _ _ _ _ _ _ _ _ _ _ _ _ ?_ (bnext hb4 hb5)
    have eG0 := G0.out
    have eG1 := G1.out
    have eG2 := G2.out
    have eG3 := G3.out
    have eG5 := G5.out
    have eG6 := G6.out
    simp [bad2, eG0, eG1, eG2, eG3, eG5, eG6]
  have G6 := Lib.hid h6
  rw [h6] at H120b
  clear h6
  go_wp2_with (first | (go_at_call 119; with_reducible refine (H119a.out _).mono ?_; rintro r w4 ⟨rfl, rfl⟩) | (go_at_call 119; with_reducible refine (H119b.out _).mono ?_; rintro r w4 ⟨rfl, rfl⟩) | (go_at_call 120; with_reducible refine H120a.out.mono ?_; rintro r w4 ⟨rfl, hb4⟩; have hS4 := HS.out.below hb4; have hF4 := HF.out.below hb4; have d9 := hS4.cell 9 s.at9; have d10 := hS4.cell 10 s.at10; have d11 := hS4.cell 11 s.at11; have d12 := hS4.cell 12 s.at12; have g3 := hF4.cell 3 f.at3) | (go_at_call 120; refine (H120b.out _ hb4).mono ?_; rintro r w5 ⟨rfl, hb5⟩))
  refine H.out _ _ _ _ _ _ _ _ _ _ _ _ _ _ _ _ _ _ _ _ _ _ _ _ _ _ _ _ _ _ _ _ _ _ _ _ _ _ _ _ _ _ _ _ _ _ _ _ ?_ (bnext hb4 hb5)
  have eG0 := G0.out
  have eG1 := G1.out
  have eG2 := G2.out
  have eG3 := G3.out
  have eG5 := G5.out
  have eG6 := G6.out
  simp [bad2, eG0, eG1, eG2, eG3, eG5, eG6]
end Go.Proofs.Ytnknefdpglnbnaa
namespace Go.Proofs.Ytnknefdpglnbnaa
open Go.RowKit
attribute [local go_sem] SV.g0 SV.g1 SV.g2 SV.g3 SV.g4 SV.g5 SV.g6 SV.g7 SV.g8 SV.g9 SV.g10 SV.g11 SV.g12 SV.g13 SV.g14 SV.g15 SV.g16 Fm.g0 Fm.g1 Fm.g2 Fm.g3 Fm.g4 Fm.g5 Fm.g6 Fm.g7
set_option maxRecDepth 100000 in
set_option maxHeartbeats 8000000 in
theorem reg77_4 {K : Act → World → Prop} {Q' : Exit → Act → World → Prop} (s : SV) (f : Fm) (p q : Nat) (w : World) (a0 : 0 ≤ s.ab) (a1 : s.ab < 256) (htl : s.tl ≤ 140737488351232) (hel : s.el ≤ 140737488351232)
    (hS : BlkN w p 58 s.arr) (hF : BlkN w q 138 f.arr) (x4 x5 x6 x7 x8 x9 x10 x11 x12 x13 x14 x15 x16 x17 x18 x19 x20 x21 x22 x23 x24 x25 x26 x27 x28 x29 x30 x31 x32 x33 x34 x35 x36 x37 x38 x39 x40 x41 x42 x43 x44 x45 x46 x47 x48 x49 x50 x51 x52 x53 x54 x55 x56 x57 x58 x59 x60 x61 x62 x63 x64 x65 x66 x67 x68 x69 x70 x71 x72 x73 x74 x75 x76 x77 x78 x79 x80 x81 x82 x83 x84 x85 x86 x87 x88 x89 x90 x91 x92 x93 x94 x95 x96 x97 x98 x99 x100 x101 x102 x103 x104 x105 x106 x107 x108 x109 x110 x111 x112 x113 x114 x115 x116 x117 x118 x119 x120 x121 x122 x123 x124 x125 x126 x127 x128 x129 x130 x131 x132 x133 x134 x135 x136 x137 x138 x139 x140 x141 x142 x143 x144 : Value)
    (h : ∀ (R : Bool) (u57 u58 u59 u60 u61 u62 u63 u64 u65 u66 u67 u68 u69 u70 u71 u72 u73 u74 u75 u76 u77 u78 u79 u80 u81 u82 u83 u84 u85 u86 u87 u88 u89 u90 u91 u92 u93 u94 u95 u96 u97 u98 u99 u100 u101 u102 u103 u104 u105 u106 u107 u108 u109 : Value), R = bad4 f s.ab s.wh s.tl s.el → K ⟨#[.agg s.arr, .pointer (some ⟨p, 0, Option.none⟩), .bool false, .pointer (some ⟨q, 0, Option.none⟩), x4, x5, x6, x7, x8, x9, x10, x11, x12, x13, x14, x15, x16, x17, x18, x19, x20, x21, x22, x23, x24, x25, x26, x27, x28, x29, x30, x31, x32, x33, x34, x35, x36, x37, x38, x39, x40, x41, x42, x43, x44, x45, x46, x47, x48, x49, x50, x51, x52, x53, x54, x55, x56, u57, u58, u59, u60, u61, u62, u63, u64, u65, u66, u67, u68, u69, u70, u71, u72, u73, u74, u75, u76, u77, u78, u79, u80, u81, u82, u83, u84, u85, u86, u87, u88, u89, u90, u91, u92, u93, u94, u95, u96, u97, u98, u99, u100, u101, u102, u103, u104, u105, u106, u107, u108, u109, .bool R, x111, x112, x113, x114, x115, x116, x117, x118, x119, x120, x121, x122, x123, x124, x125, x126, x127, x128, x129, x130, x131, x132, x133, x134, x135, x136, x137, x138, x139, x140, x141, x142, x143, x144], []⟩ w) : (Code.region 4 (RegP.opsOf Try.f77 4) false).wp Try.prog (Exit.then K Q') ⟨#[.agg s.arr, .pointer (some ⟨p, 0, Option.none⟩), .bool false, .pointer (some ⟨q, 0, Option.none⟩), x4, x5, x6, x7, x8, x9, x10, x11, x12, x13, x14, x15, x16, x17, x18, x19, x20, x21, x22, x23, x24, x25, x26, x27, x28, x29, x30, x31, x32, x33, x34, x35, x36, x37, x38, x39, x40, x41, x42, x43, x44, x45, x46, x47, x48, x49, x50, x51, x52, x53, x54, x55, x56, x57, x58, x59, x60, x61, x62, x63, x64, x65, x66, x67, x68, x69, x70, x71, x72, x73, x74, x75, x76, x77, x78, x79, x80, x81, x82, x83, x84, x85, x86, x87, x88, x89, x90, x91, x92, x93, x94, x95, x96, x97, x98, x99, x100, x101, x102, x103, x104, x105, x106, x107, x108, x109, x110, x111, x112, x113, x114, x115, x116, x117, x118, x119, x120, x121, x122, x123, x124, x125, x126, x127, x128, x129, x130, x131, x132, x133, x134, x135, x136, x137, x138, x139, x140, x141, x142, x143, x144], []⟩ w := by
  have H := Lib.hid h
  clear h
  have H121 := Lib.hid (fun w' => one121_any s.ab a0 a1 w')
  have h17 := s.size
  have h8 : f.arr.size = 8 := rfl
  have c3 := hS.cell 3 s.at3
  have c4 := hS.cell 4 s.at4
  have c13 := hS.cell 13 s.at13
  have c14 := hS.cell 14 s.at14
  have f4 := hF.cell 4 f.at4
  have f5 := hF.cell 5 f.at5
  have f6 := hF.cell 6 f.at6
  clear hS hF
  simp only [Try.f77, RegP.opsOf, RegP.reg?]
  simp only [Nat.reduceEqDiff, if_true, if_false, Option.getD_some]
  by_cases g0 : f.ab = 0
  · have G0 := Lib.hid g0
    rw [g0] at f4
    clear g0
    by_cases g1 : s.ab = 0
    rotate_left
    · have G1 := Lib.hid (show (s.ab != 0) = true by simpa using g1)
      have g1' : (s.ab != 0) = true := by simpa using g1
      clear g1
      go_wp2_with (first | (go_at_call 121; with_reducible refine (H121.out _).mono ?_; rintro r w4 ⟨rfl, rfl⟩))
      refine H.out _ _ _ _ _ _ _ _ _ _ _ _ _ _ _ _ _ _ _ _ _ _ _ _ _ _ _ _ _ _ _ _ _ _ _ _ _ _ _ _ _ _ _ _ _ _ _ _ _ _ _ _ _ _ ?_
      have eG0 := G0.out
      have eG1 := G1.out
      simp [bad4, eG0, eG1]
    have G1 := Lib.hid (show (s.ab != 0) = false by simpa using g1)
    have g1' : (s.ab != 0) = false := by simpa using g1
    clear g1
    cases k1 : f.wh
    · have K1 := Lib.hid k1
      rw [k1] at f5
      clear k1
      by_cases k2 : s.wh = 0
      rotate_left
      · have K2 := Lib.hid (show (s.wh != 0) = true by simpa using k2)
        have k2' : (s.wh != 0) = true := by simpa using k2
        clear k2
        go_wp2_with (first | (go_at_call 121; with_reducible refine (H121.out _).mono ?_; rintro r w4 ⟨rfl, rfl⟩))
        refine H.out _ _ _ _ _ _ _ _ _ _ _ _ _ _ _ _ _ _ _ _ _ _ _ _ _ _ _ _ _ _ _ _ _ _ _ _ _ _ _ _ _ _ _ _ _ _ _ _ _ _ _ _ _ _ ?_
        have eG0 := G0.out
        have eG1 := G1.out
        have eK1 := K1.out
        have eK2 := K2.out
        simp [bad4, eG0, eG1, eK1, eK2]
      have K2 := Lib.hid (show (s.wh != 0) = false by simpa using k2)
      have k2' : (s.wh != 0) = false := by simpa using k2
      clear k2
      cases k3 : f.bl
      · have K3 := Lib.hid k3
        rw [k3] at f6
        clear k3
        by_cases k4 : 0 < (s.tl : Int) + s.el
        · have K4 := Lib.hid (show (fun (x : Bool) => x = true) (decide (0 < (s.tl : Int) + s.el)) from by simpa using k4)
          go_wp2_with (first | (go_at_call 121; with_reducible refine (H121.out _).mono ?_; rintro r w4 ⟨rfl, rfl⟩))
          refine H.out _ _ _ _ _ _ _ _ _ _ _ _ _ _ _ _ _ _ _ _ _ _ _ _ _ _ _ _ _ _ _ _ _ _ _ _ _ _ _ _ _ _ _ _ _ _ _ _ _ _ _ _ _ _ ?_
          have eG0 := G0.out
          have eG1 := G1.out
          have eK1 := K1.out
          have eK2 := K2.out
          have eK3 := K3.out
          have eK4 := K4.out
          simp [bad4, eG0, eG1, eK1, eK2, eK3, eK4]
        · have K4 := Lib.hid (show (fun (x : Bool) => x = false) (decide (0 < (s.tl : Int) + s.el)) from by simpa using k4)
          go_wp2_with (first | (go_at_call 121; with_reducible refine (H121.out _).mono ?_; rintro r w4 ⟨rfl, rfl⟩))
          refine H.out _ _ _ _ _ _ _ _ _ _ _ _ _ _ _ _ _ _ _ _ _ _ _ _ _ _ _ _ _ _ _ _ _ _ _ _ _ _ _ _ _ _ _ _ _ _ _ _ _ _ _ _ _ _ ?_
          have eG0 := G0.out
          have eG1 := G1.out
          have eK1 := K1.out
          have eK2 := K2.out
          have eK3 := K3.out
          have eK4 := K4.out
          simp [bad4, eG0, eG1, eK1, eK2, eK3, eK4]
      · have K3 := Lib.hid k3
        rw [k3] at f6
        clear k3
        go_wp2_with (first | (go_at_call 121; with_reducible refine (H121.out _).mono ?_; rintro r w4 ⟨rfl, rfl⟩))
        refine H.out _ _ _ _ _ _ _ _ _ _ _ _ _ _ _ _ _ _ _ _ _ _ _ _ _ _ _ _ _ _ _ _ _ _ _ _ _ _ _ _ _ _ _ _ _ _ _ _ _ _ _ _ _ _ ?_
        have eG0 := G0.out
        have eG1 := G1.out
        have eK1 := K1.out
        have eK2 := K2.out
        have eK3 := K3.out
        simp [bad4, eG0, eG1, eK1, eK2, eK3]
    · have K1 := Lib.hid k1
      rw [k1] at f5
      clear k1
      cases k3 : f.bl
      · have K3 := Lib.hid k3
        rw [k3] at f6
        clear k3
        by_cases k4 : 0 < (s.tl : Int) + s.el
        · have K4 := Lib.hid (show (fun (x : Bool) => x = true) (decide (0 < (s.tl : Int) + s.el)) from by simpa using k4)
          go_wp2_with (first | (go_at_call 121; with_reducible refine (H121.out _).mono ?_; rintro r w4 ⟨rfl, rfl⟩))
          refine H.out _ _ _ _ _ _ _ _ _ _ _ _ _ _ _ _ _ _ _ _ _ _ _ _ _ _ _ _ _ _ _ _ _ _ _ _ _ _ _ _ _ _ _ _ _ _ _ _ _ _ _ _ _ _ ?_
          have eG0 := G0.out
          have eG1 := G1.out
          have eK1 := K1.out
          have eK3 := K3.out
          have eK4 := K4.out
          simp [bad4, eG0, eG1, eK1, eK3, eK4]
        · have K4 := Lib.hid (show (fun (x : Bool) => x = false) (decide (0 < (s.tl : Int) + s.el)) from by simpa using k4)
          go_wp2_with (first | (go_at_call 121; with_reducible refine (H121.out _).mono ?_; rintro r w4 ⟨rfl, rfl⟩))
          refine H.out _ _ _ _ _ _ _ _ _ _ _ _ _ _ _ _ _ _ _ _ _ _ _ _ _ _ _ _ _ _ _ _ _ _ _ _ _ _ _ _ _ _ _ _ _ _ _ _ _ _ _ _ _ _ ?_
          have eG0 := G0.out
          have eG1 := G1.out
          have eK1 := K1.out
          have eK3 := K3.out
          have eK4 := K4.out
          simp [bad4, eG0, eG1, eK1, eK3, eK4]
      · have K3 := Lib.hid k3
        rw [k3] at f6
        clear k3
        go_wp2_with (first | (go_at_call 121; with_reducible refine (H121.out _).mono ?_; rintro r w4 ⟨rfl, rfl⟩))
        refine H.out _ _ _ _ _ _ _ _ _ _ _ _ _ _ _ _ _ _ _ _ _ _ _ _ _ _ _ _ _ _ _ _ _ _ _ _ _ _ _ _ _ _ _ _ _ _ _ _ _ _ _ _ _ _ ?_
        have eG0 := G0.out
        have eG1 := G1.out
        have eK1 := K1.out
        have eK3 := K3.out
        simp [bad4, eG0, eG1, eK1, eK3]
  by_cases g1 : f.ab = 1
  · have G0 := Lib.hid g1
    rw [g1] at f4
    clear g1 g0
    cases g1 : oneI s.ab
    · have G1 := Lib.hid g1
      rw [g1] at H121
      clear g1
      go_wp2_with (first | (go_at_call 121; with_reducible refine (H121.out _).mono ?_; rintro r w4 ⟨rfl, rfl⟩))
      refine H.out _ _ _ _ _ _ _ _ _ _ _ _ _ _ _ _ _ _ _ _ _ _ _ _ _ _ _ _ _ _ _ _ _ _ _ _ _ _ _ _ _ _ _ _ _ _ _ _ _ _ _ _ _ _ ?_
      have eG0 := G0.out
      have eG1 := G1.out
      simp [bad4, eG0, eG1]
    have G1 := Lib.hid g1
    rw [g1] at H121
    clear g1
    cases k1 : f.wh
    · have K1 := Lib.hid k1
      rw [k1] at f5
      clear k1
      by_cases k2 : s.wh = 0
      rotate_left
      · have K2 := Lib.hid (show (s.wh != 0) = true by simpa using k2)
        have k2' : (s.wh != 0) = true := by simpa using k2
        clear k2
        go_wp2_with (first | (go_at_call 121; with_reducible refine (H121.out _).mono ?_; rintro r w4 ⟨rfl, rfl⟩))
        refine H.out _ _ _ _ _ _ _ _ _ _ _ _ _ _ _ _ _ _ _ _ _ _ _ _ _ _ _ _ _ _ _ _ _ _ _ _ _ _ _ _ _ _ _ _ _ _ _ _ _ _ _ _ _ _ ?_
        have eG0 := G0.out
        have eG1 := G1.out
        have eK1 := K1.out
        have eK2 := K2.out
        simp [bad4, eG0, eG1, eK1, eK2]
      have K2 := Lib.hid (show (s.wh != 0) = false by simpa using k2)
      have k2' : (s.wh != 0) = false := by simpa using k2
      clear k2
      cases k3 : f.bl
      · have K3 := Lib.hid k3
        rw [k3] at f6
        clear k3
        by_cases k4 : 0 < (s.tl : Int) + s.el
        · have K4 := Lib.hid (show (fun (x : Bool) => x = true) (decide (0 < (s.tl : Int) + s.el)) from by simpa using k4)
          go_wp2_with (first | (go_at_call 121; with_reducible refine (H121.out _).mono ?_; rintro r w4 ⟨rfl, rfl⟩))
          refine H.out _ _ _ _ _ _ _ _ _ _ _ _ _ _ _ _ _ _ _ _ _ _ _ _ _ _ _ _ _ _ _ _ _ _ _ _ _ _ _ _ _ _ _ _ _ _ _ _ _ _ _ _ _ _ ?_
          have eG0 := G0.out
          have eG1 := G1.out
          have eK1 := K1.out
          have eK2 := K2.out
          have eK3 := K3.out
          have eK4 := K4.out
          simp [bad4, eG0, eG1, eK1, eK2, eK3, eK4]
        · have K4 := Lib.hid (show (fun (x : Bool) => x = false) (decide (0 < (s.tl : Int) + s.el)) from by simpa using k4)
          go_wp2_with (first | (go_at_call 121; with_reducible refine (H121.out _).mono ?_; rintro r w4 ⟨rfl, rfl⟩))
          refine H.out _ _ _ _ _ _ _ _ _ _ _ _ _ _ _ _ _ _ _ _ _ _ _ _ _ _ _ _ _ _ _ _ _ _ _ _ _ _ _ _ _ _ _ _ _ _ _ _ _ _ _ _ _ _ ?_
          have eG0 := G0.out
          have eG1 := G1.out
          have eK1 := K1.out
          have eK2 := K2.out
          have eK3 := K3.out
          have eK4 := K4.out
          simp [bad4, eG0, eG1, eK1, eK2, eK3, eK4]
      · have K3 := Lib.hid k3
        rw [k3] at f6
        clear k3
        go_wp2_with (first | (go_at_call 121; with_reducible refine (H121.out _).mono ?_; rintro r w4 ⟨rfl, rfl⟩))
        refine H.out _ _ _ _ _ _ _ _ _ _ _ _ _ _ _ _ _ _ _ _ _ _ _ _ _ _ _ _ _ _ _ _ _ _ _ _ _ _ _ _ _ _ _ _ _ _ _ _ _ _ _ _ _ _ ?_
        have eG0 := G0.out
        have eG1 := G1.out
        have eK1 := K1.out
        have eK2 := K2.out
        have eK3 := K3.out
        simp [bad4, eG0, eG1, eK1, eK2, eK3]
    · have K1 := Lib.hid k1
      rw [k1] at f5
      clear k1
      cases k3 : f.bl
      · have K3 := Lib.hid k3
        rw [k3] at f6
        clear k3
        by_cases k4 : 0 < (s.tl : Int) + s.el
        · have K4 := Lib.hid (show (fun (x : Bool) => x = true) (decide (0 < (s.tl : Int) + s.el)) from by simpa using k4)
          go_wp2_with (first | (go_at_call 121; with_reducible refine (H121.out _).mono ?_; rintro r w4 ⟨rfl, rfl⟩))
          refine H.out _ _ _ _ _ _ _ _ _ _ _ _ _ _ _ _ _ _ _ _ _ _ _ _ _ _ _ _ _ _ _ _ _ _ _ _ _ _ _ _ _ _ _ _ _ _ _ _ _ _ _ _ _ _ ?_
          have eG0 := G0.out
          have eG1 := G1.out
          have eK1 := K1.out
          have eK3 := K3.out
          have eK4 := K4.out
          simp [bad4, eG0, eG1, eK1, eK3, eK4]
        · have K4 := Lib.hid (show (fun (x : Bool) => x = false) (decide (0 < (s.tl : Int) + s.el)) from by simpa using k4)
          go_wp2_with (first | (go_at_call 121; with_reducible refine (H121.out _).mono ?_; rintro r w4 ⟨rfl, rfl⟩))
          refine H.out _ _ _ _ _ _ _ _ _ _ _ _ _ _ _ _ _ _ _ _ _ _ _ _ _ _ _ _ _ _ _ _ _ _ _ _ _ _ _ _ _ _ _ _ _ _ _ _ _ _ _ _ _ _ ?_
          have eG0 := G0.out
          have eG1 := G1.out
          have eK1 := K1.out
          have eK3 := K3.out
          have eK4 := K4.out
          simp [bad4, eG0, eG1, eK1, eK3, eK4]
      · have K3 := Lib.hid k3
        rw [k3] at f6
        clear k3
        go_wp2_with (first | (go_at_call 121; with_reducible refine (H121.out _).mono ?_; rintro r w4 ⟨rfl, rfl⟩))
        refine H.out _ _ _ _ _ _ _ _ _ _ _ _ _ _ _ _ _ _ _ _ _ _ _ _ _ _ _ _ _ _ _ _ _ _ _ _ _ _ _ _ _ _ _ _ _ _ _ _ _ _ _ _ _ _ ?_
        have eG0 := G0.out
        have eG1 := G1.out
        have eK1 := K1.out
        have eK3 := K3.out
        simp [bad4, eG0, eG1, eK1, eK3]
  by_cases g2 : f.ab = 2
  · have G0 := Lib.hid g2
    rw [g2] at f4
    clear g2 g1 g0
    by_cases g1 : 63 < s.ab
    · have G1 := Lib.hid (show (fun (x : Bool) => x = true) (decide (63 < s.ab)) from by simpa using g1)
      go_wp2_with (first | (go_at_call 121; with_reducible refine (H121.out _).mono ?_; rintro r w4 ⟨rfl, rfl⟩))
      refine H.out _ _ _ _ _ _ _ _ _ _ _ _ _ _ _ _ _ _ _ _ _ _ _ _ _ _ _ _ _ _ _ _ _ _ _ _ _ _ _ _ _ _ _ _ _ _ _ _ _ _ _ _ _ _ ?_
      have eG0 := G0.out
      have eG1 := G1.out
      simp [bad4, eG0, eG1]
    have G1 := Lib.hid (show (fun (x : Bool) => x = false) (decide (63 < s.ab)) from by simpa using g1)
    cases k1 : f.wh
    · have K1 := Lib.hid k1
      rw [k1] at f5
      clear k1
      by_cases k2 : s.wh = 0
      rotate_left
      · have K2 := Lib.hid (show (s.wh != 0) = true by simpa using k2)
        have k2' : (s.wh != 0) = true := by simpa using k2
        clear k2
        go_wp2_with (first | (go_at_call 121; with_reducible refine (H121.out _).mono ?_; rintro r w4 ⟨rfl, rfl⟩))
        refine H.out _ _ _ _ _ _ _ _ _ _ _ _ _ _ _ _ _ _ _ _ _ _ _ _ _ _ _ _ _ _ _ _ _ _ _ _ _ _ _ _ _ _ _ _ _ _ _ _ _ _ _ _ _ _ ?_
        have eG0 := G0.out
        have eG1 := G1.out
        have eK1 := K1.out
        have eK2 := K2.out
        simp [bad4, eG0, eG1, eK1, eK2]
      have K2 := Lib.hid (show (s.wh != 0) = false by simpa using k2)
      have k2' : (s.wh != 0) = false := by simpa using k2
      clear k2
      cases k3 : f.bl
      · have K3 := Lib.hid k3
        rw [k3] at f6
        clear k3
        by_cases k4 : 0 < (s.tl : Int) + s.el
        · have K4 := Lib.hid (show (fun (x : Bool) => x = true) (decide (0 < (s.tl : Int) + s.el)) from by simpa using k4)
          go_wp2_with (first | (go_at_call 121; with_reducible refine (H121.out _).mono ?_; rintro r w4 ⟨rfl, rfl⟩))
          refine H.out _ _ _ _ _ _ _ _ _ _ _ _ _ _ _ _ _ _ _ _ _ _ _ _ _ _ _ _ _ _ _ _ _ _ _ _ _ _ _ _ _ _ _ _ _ _ _ _ _ _ _ _ _ _ ?_
          have eG0 := G0.out
          have eG1 := G1.out
          have eK1 := K1.out
          have eK2 := K2.out
          have eK3 := K3.out
          have eK4 := K4.out
          simp [bad4, eG0, eG1, eK1, eK2, eK3, eK4]
        · have K4 := Lib.hid (show (fun (x : Bool) => x = false) (decide (0 < (s.tl : Int) + s.el)) from by simpa using k4)
          go_wp2_with (first | (go_at_call 121; with_reducible refine (H121.out _).mono ?_; rintro r w4 ⟨rfl, rfl⟩))
          refine H.out _ _ _ _ _ _ _ _ _ _ _ _ _ _ _ _ _ _ _ _ _ _ _ _ _ _ _ _ _ _ _ _ _ _ _ _ _ _ _ _ _ _ _ _ _ _ _ _ _ _ _ _ _ _ ?_
          have eG0 := G0.out
          have eG1 := G1.out
          have eK1 := K1.out
          have eK2 := K2.out
          have eK3 := K3.out
          have eK4 := K4.out
          simp [bad4, eG0, eG1, eK1, eK2, eK3, eK4]
      · have K3 := Lib.hid k3
        rw [k3] at f6
        clear k3
        go_wp2_with (first | (go_at_call 121; with_reducible refine (H121.out _).mono ?_; rintro r w4 ⟨rfl, rfl⟩))
        refine H.out _ _ _ _ _ _ _ _ _ _ _ _ _ _ _ _ _ _ _ _ _ _ _ _ _ _ _ _ _ _ _ _ _ _ _ _ _ _ _ _ _ _ _ _ _ _ _ _ _ _ _ _ _ _ ?_
        have eG0 := G0.out
        have eG1 := G1.out
        have eK1 := K1.out
        have eK2 := K2.out
        have eK3 := K3.out
        simp [bad4, eG0, eG1, eK1, eK2, eK3]
    · have K1 := Lib.hid k1
      rw [k1] at f5
      clear k1
      cases k3 : f.bl
      · have K3 := Lib.hid k3
        rw [k3] at f6
        clear k3
        by_cases k4 : 0 < (s.tl : Int) + s.el
        · have K4 := Lib.hid (show (fun (x : Bool) => x = true) (decide (0 < (s.tl : Int) + s.el)) from by simpa using k4)
          go_wp2_with (first | (go_at_call 121; with_reducible refine (H121.out _).mono ?_; rintro r w4 ⟨rfl, rfl⟩))
          refine H.out _ _ _ _ _ _ _ _ _ _ _ _ _ _ _ _ _ _ _ _ _ _ _ _ _ _ _ _ _ _ _ _ _ _ _ _ _ _ _ _ _ _ _ _ _ _ _ _ _ _ _ _ _ _ ?_
          have eG0 := G0.out
          have eG1 := G1.out
          have eK1 := K1.out
          have eK3 := K3.out
          have eK4 := K4.out
          simp [bad4, eG0, eG1, eK1, eK3, eK4]
        · have K4 := Lib.hid (show (fun (x : Bool) => x = false) (decide (0 < (s.tl : Int) + s.el)) from by simpa using k4)
          go_wp2_with (first | (go_at_call 121; with_reducible refine (H121.out _).mono ?_; rintro r w4 ⟨rfl, rfl⟩))
          refine H.out _ _ _ _ _ _ _ _ _ _ _ _ _ _ _ _ _ _ _ _ _ _ _ _ _ _ _ _ _ _ _ _ _ _ _ _ _ _ _ _ _ _ _ _ _ _ _ _ _ _ _ _ _ _ ?_
          have eG0 := G0.out
          have eG1 := G1.out
          have eK1 := K1.out
          have eK3 := K3.out
          have eK4 := K4.out
          simp [bad4, eG0, eG1, eK1, eK3, eK4]
      · have K3 := Lib.hid k3
        rw [k3] at f6
        clear k3
        go_wp2_with (first | (go_at_call 121; with_reducible refine (H121.out _).mono ?_; rintro r w4 ⟨rfl, rfl⟩))
        refine H.out _ _ _ _ _ _ _ _ _ _ _ _ _ _ _ _ _ _ _ _ _ _ _ _ _ _ _ _ _ _ _ _ _ _ _ _ _ _ _ _ _ _ _ _ _ _ _ _ _ _ _ _ _ _ ?_
        have eG0 := G0.out
        have eG1 := G1.out
        have eK1 := K1.out
        have eK3 := K3.out
        simp [bad4, eG0, eG1, eK1, eK3]
  have G0 := Lib.hid (show (f.ab == 0) = false by simpa using g0)
  have G1 := Lib.hid (show (f.ab == 1) = false by simpa using g1)
  have G2 := Lib.hid (show (f.ab == 2) = false by simpa using g2)
  have g0' : (f.ab == 0) = false := by simpa using g0
  have g1' : (f.ab == 1) = false := by simpa using g1
  have g2' : (f.ab == 2) = false := by simpa using g2
  clear g0 g1 g2
  cases k1 : f.wh
  · have K1 := Lib.hid k1
    rw [k1] at f5
    clear k1
    by_cases k2 : s.wh = 0
    rotate_left
    · have K2 := Lib.hid (show (s.wh != 0) = true by simpa using k2)
      have k2' : (s.wh != 0) = true := by simpa using k2
      clear k2
      go_wp2_with (first | (go_at_call 121; with_reducible refine (H121.out _).mono ?_; rintro r w4 ⟨rfl, rfl⟩))
      refine H.out _ _ _ _ _ _ _ _ _ _ _ _ _ _ _ _ _ _ _ _ _ _ _ _ _ _ _ _ _ _ _ _ _ _ _ _ _ _ _ _ _ _ _ _ _ _ _ _ _ _ _ _ _ _ ?_
      have eG0 := G0.out
      have eG1 := G1.out
      have eG2 := G2.out
      have eK1 := K1.out
      have eK2 := K2.out
      simp [bad4, eG0, eG1, eG2, eK1, eK2]
    have K2 := Lib.hid (show (s.wh != 0) = false by simpa using k2)
    have k2' : (s.wh != 0) = false := by simpa using k2
    clear k2
    cases k3 : f.bl
    · have K3 := Lib.hid k3
      rw [k3] at f6
      clear k3
      by_cases k4 : 0 < (s.tl : Int) + s.el
      · have K4 := Lib.hid (show (fun (x : Bool) => x = true) (decide (0 < (s.tl : Int) + s.el)) from by simpa using k4)
        go_wp2_with (first | (go_at_call 121; with_reducible refine (H121.out _).mono ?_; rintro r w4 ⟨rfl, rfl⟩))
        refine H.out _ _ _ _ _ _ _ _ _ _ _ _ _ _ _ _ _ _ _ _ _ _ _ _ _ _ _ _ _ _ _ _ _ _ _ _ _ _ _ _ _ _ _ _ _ _ _ _ _ _ _ _ _ _ ?_
        have eG0 := G0.out
        have eG1 := G1.out
        have eG2 := G2.out
        have eK1 := K1.out
        have eK2 := K2.out
        have eK3 := K3.out
        have eK4 := K4.out
        simp [bad4, eG0, eG1, eG2, eK1, eK2, eK3, eK4]
      · have K4 := Lib.hid (show (fun (x : Bool) => x = false) (decide (0 < (s.tl : Int) + s.el)) from by simpa using k4)
        go_wp2_with (first | (go_at_call 121; with_reducible refine (H121.out _).mono ?_; rintro r w4 ⟨rfl, rfl⟩))
        refine H.out _ _ _ _ _ _ _ _ _ _ _ _ _ _ _ _ _ _ _ _ _ _ _ _ _ _ _ _ _ _ _ _ _ _ _ _ _ _ _ _ _ _ _ _ _ _ _ _ _ _ _ _ _ _ ?_
        have eG0 := G0.out
        have eG1 := G1.out
        have eG2 := G2.out
        have eK1 := K1.out
        have eK2 := K2.out
        have eK3 := K3.out
        have eK4 := K4.out
        simp [bad4, eG0, eG1, eG2, eK1, eK2, eK3, eK4]
    · have K3 := Lib.hid k3
      rw [k3] at f6
      clear k3
      go_wp2_with (first | (go_at_call 121; with_reducible refine (H121.out _).mono ?_; rintro r w4 ⟨rfl, rfl⟩))
      refine H.out _ _ _ _ _ _ _ _ _ _ _ _ _ _ _ _ _ _ _ _ _ _ _ _ _ _ _ _ _ _ _ _ _ _ _ _ _ _ _ _ _ _ _ _ _ _ _ _ _ _ _ _ _ _ ?_
      have eG0 := G0.out
      have eG1 := G1.out
      have eG2 := G2.out
      have eK1 := K1.out
      have eK2 := K2.out
      have eK3 := K3.out
      simp [bad4, eG0, eG1, eG2, eK1, eK2, eK3]
  · have K1 := Lib.hid k1
    rw [k1] at f5
    clear k1
    cases k3 : f.bl
    · have K3 := Lib.hid k3
      rw [k3] at f6
      clear k3
      by_cases k4 : 0 < (s.tl : Int) + s.el
      · have K4 := Lib.hid (show (fun (x : Bool) => x = true) (decide (0 < (s.tl : Int) + s.el)) from by simpa using k4)
        go_wp2_with (first | (go_at_call 121; with_reducible refine (H121.out _).mono ?_; rintro r w4 ⟨rfl, rfl⟩))
        refine H.out _ _ _ _ _ _ _ _ _ _ _ _ _ _ _ _ _ _ _ _ _ _ _ _ _ _ _ _ _ _ _ _ _ _ _ _ _ _ _ _ _ _ _ _ _ _ _ _ _ _ _ _ _ _ ?_
        have eG0 := G0.out
        have eG1 := G1.out
        have eG2 := G2.out
        have eK1 := K1.out
        have eK3 := K3.out
        have eK4 := K4.out
        simp [bad4, eG0, eG1, eG2, eK1, eK3, eK4]
      · have K4 := Lib.hid (show (fun (x : Bool) => x = false) (decide (0 < (s.tl : Int) + s.el)) from by simpa using k4)
        go_wp2_with (first | (go_at_call 121; with_reducible refine (H121.out _).mono ?_; rintro r w4 ⟨rfl, rfl⟩))
        refine H.out _ _ _ _ _ _ _ _ _ _ _ _ _ _ _ _ _ _ _ _ _ _ _ _ _ _ _ _ _ _ _ _ _ _ _ _ _ _ _ _ _ _ _ _ _ _ _ _ _ _ _ _ _ _ ?_
        have eG0 := G0.out
        have eG1 := G1.out
        have eG2 := G2.out
        have eK1 := K1.out
        have eK3 := K3.out
        have eK4 := K4.out
        simp [bad4, eG0, eG1, eG2, eK1, eK3, eK4]
    · have K3 := Lib.hid k3
      rw [k3] at f6
      clear k3
      go_wp2_with (first | (go_at_call 121; with_reducible refine (H121.out _).mono ?_; rintro r w4 ⟨rfl, rfl⟩))
      refine H.out _ _ _ _ _ _ _ _ _ _ _ _ _ _ _ _ _ _ _ _ _ _ _ _ _ _ _ _ _ _ _ _ _ _ _ _ _ _ _ _ _ _ _ _ _ _ _ _ _ _ _ _ _ _ ?_
      have eG0 := G0.out
      have eG1 := G1.out
      have eG2 := G2.out
      have eK1 := K1.out
      have eK3 := K3.out
      simp [bad4, eG0, eG1, eG2, eK1, eK3]
end Go.Proofs.Ytnknefdpglnbnaa
namespace Go.Proofs.Ytnknefdpglnbnaa
open Go.RowKit

attribute [local go_sem] SV.g0 SV.g1 SV.g2 SV.g3 SV.g4 SV.g5 SV.g6 SV.g7 SV.g8 SV.g9 SV.g10 SV.g11 SV.g12 SV.g13 SV.g14 SV.g15 SV.g16 Fm.g0 Fm.g1 Fm.g2 Fm.g3 Fm.g4 Fm.g5 Fm.g6 Fm.g7
set_option maxRecDepth 100000 in
set_option maxHeartbeats 4000000 in
theorem stmt77_any (s : SV) (x : St) (w : World) (B : Nat) (hB : B ≤ w.heap.size) (h : IsSt w B s x) :
    Calls Try.prog 77 #[.agg s.arr] w fun r w' => r = .returned (.bool (stmtX x)) ∧ Below w.heap.size w w' := by
  obtain ⟨op, nm, sec, ab, wh, a, b, t, e, c, ws⟩ := x
  obtain ⟨nf, hnf⟩ : ∃ nf, nf = stmtX (.mk op nm sec ab wh a b t e c ws) := ⟨_, rfl⟩
  rw [← hnf]
  obtain ⟨⟨rfl, rfl, rfl, rfl, rfl⟩, ⟨o0, o1, a0, a1, w0, w1, hsn, hss⟩, ha, hb, ht, he, hc, hw⟩ := h.form
  have HA := Lib.hid ha
  have HBB := Lib.hid hb
  obtain ⟨ht0, ht1, ht2, ht3⟩ := ht
  obtain ⟨he0, he1, he2, he3⟩ := he
  obtain ⟨hc0, hc1, hc2, hc3⟩ := hc
  have HW := Lib.hid hw
  have hwl : s.wl = ws.length ∧ ws.length ≤ 140737488351232 := by
    obtain ⟨h1, h2, A, cap, h3, h4, h5⟩ := hw
    simp only [Value.slice.injEq] at h4
    exact ⟨h4.2.1, by omega⟩
  have htl : s.tl ≤ 140737488351232 := by omega
  have hel : s.el ≤ 140737488351232 := by omega
  have hcl : s.cl ≤ 140737488351232 := by omega
  have HWL := Lib.hid hwl.1
  have hwl2 : s.wl ≤ 140737488351232 := by rw [hwl.1]; exact hwl.2
  have HL : Hid (s.tl = t.length ∧ s.el = e.length ∧ s.cl = c.length) := Lib.hid ⟨ht0, he0, hc0⟩
  clear ht3 he3 hc3 h ha hb ht1 ht2 he1 he2 hc1 hc2 hw hwl ht0 he0 hc0
  obtain ⟨FX, hFX⟩ : ∃ FX, FX = formX s.op s.ab s.wh := ⟨_, rfl⟩
  have C118 := Lib.hid (fun w' => form118_any s o0 o1 a0 a1 w0 w1 w')
  rw [← hFX] at C118
  obtain ⟨f, ok⟩ := FX
  have HNF : Hid (nf = (!bad2 f ok s.nm s.sec a b && (!bad4 f s.ab s.wh s.tl s.el && (if f.cl then decide (ws.length ≤ 64) && (!twB ws && ws.all mayN) else decide (s.cl + ws.length = 0))))) := Lib.hid (by rw [hnf, stmtX, ← hFX, HL.out.1, HL.out.2.1, HL.out.2.2])
  clear hnf hFX
  have h17 := s.size
  have h8 : f.arr.size = 8 := rfl
  obtain ⟨ii, hi, hz0, hz1, hz2⟩ := info_parts info138
  obtain ⟨i0, hi0, hy0, hy1, hy2⟩ := info_parts info58
  have HB0 : Hid (Below w.heap.size w (w.alloc (.cells s.arr 58))) := Lib.hid ((Below.refl _ _).alloc (Nat.le_refl _) _)
  have HQ : Hid (BlkN (w.alloc (.cells s.arr 58)) w.heap.size 58 s.arr) := Lib.hid (BlkN.at_ rfl _ _)
  have HINF := Lib.hid hi0
  have HII := Lib.hid hi
  clear hi hi0
  go_enter Try.func77, Try.ntmps77
  go_upto_region 2 with (first | (refine wpList_load_blk rfl 58 (.tmp 1) rfl ⟨w.heap.size, 0, Option.none⟩ rfl (.agg s.arr) (run_loadVar_blk Try.underlying58 HINF.out HQ.out (by rw [hy1]; rfl)) ?_) | (go_at_call 118; refine (C118.out _).mono ?_; rintro r w2 ⟨rfl, hb2⟩; have hB2 := bnext HB0.out hb2; have hq2 := HQ.out.below hb2; have hlt2 := hq2.lt) | (refine wpList_store_blk rfl 138 (.tmp 3) (.tmp 9) rfl ii HII.out w2.heap.size f.arr rfl rfl 138 (Fm.arr ⟨0, 0, 0, 0, 0, false, false, false⟩) (BlkN.at_ rfl 138 _) (by rw [hz1]; rfl) rfl (Fm.one _) ?_; intro w3 hf3 hbut))
  have HS3 : Hid (BlkN w3 w.heap.size 58 s.arr) := Lib.hid ((hbut.other _ (Nat.ne_of_lt hlt2)).trans (hq2.alloc (.cells (Fm.arr ⟨0, 0, 0, 0, 0, false, false, false⟩) 138)))
  have HB3 : Hid (Below w.heap.size w w3) := Lib.hid (hbut.below (Nat.le_of_lt hlt2) (hB2.alloc hB2.size (.cells (Fm.arr ⟨0, 0, 0, 0, 0, false, false, false⟩) 138)))
  have HF3 := Lib.hid hf3
  clear hbut hf3 hb2 hB2 hq2 C118 HQ HB0
  refine reg77_2 s f ok a b w.heap.size w2.heap.size B w3 (Nat.le_trans hB HB3.out.size) hsn hss (IsEx.keep (B := B) (fun b hl => HB3.out.block b (Nat.lt_of_lt_of_le hl hB)) HA.out) (IsEx.keep (B := B) (fun b hl => HB3.out.block b (Nat.lt_of_lt_of_le hl hB)) HBB.out) HS3.out HF3.out _ _ _ _ _ _ _ _ _ _ _ _ _ _ _ _ _ _ _ _ _ _ _ _ _ _ _ _ _ _ _ _ _ _ _ _ _ _ _ _ _ _ _ _ _ _ _ _ _ _ _ _ _ _ _ _ _ _ _ _ _ _ _ _ _ _ _ _ _ _ _ _ _ _ _ _ _ _ _ _ _ _ _ _ _ _ _ _ _ _ _ _ _ _ _ _ _ _ _ _ _ _ _ _ _ _ _ _ _ _ _ _ _ _ _ _ _ _ _ _ _ _ _ _ _ _ _ _ _ _ _ _ _ _ _ _ _ _ _ _ ?_
  intro wc y4 y11 y12 y13 y14 y15 y16 y17 y18 y19 y20 y21 y22 y23 y24 y25 y26 y27 y28 y29 y30 y31 y32 y33 y34 y35 y36 y37 y38 y39 y40 y41 y42 y43 y44 y45 y46 y47 y48 y49 y50 y51 y52 y53 y54 y55 hbc
  have HS : Hid (BlkN wc w.heap.size 58 s.arr) := Lib.hid (HS3.out.below hbc)
  have HF : Hid (BlkN wc w2.heap.size 138 f.arr) := Lib.hid (HF3.out.below hbc)
  have HBw : Hid (Below w.heap.size w wc) := Lib.hid (bnext HB3.out hbc)
  have hl5 := HS.out.lt
  have hl6 := HF.out.lt
  obtain ⟨R2, hR2⟩ : ∃ R2, R2 = bad2 f ok s.nm s.sec a b := ⟨_, rfl⟩
  rw [← hR2] at HNF ⊢
  clear HS3 HF3 HB3 hsn hss hbc hR2
  cases R2
  rotate_left
  · go_wp2_with fail
    go_ret
    exact ⟨ret_bool (by rw [HNF.out]; rfl), HBw.out⟩
  go_upto_region 4 with (fail)
  refine reg77_4 s f w.heap.size w2.heap.size wc a0 a1 htl hel HS.out HF.out _ _ _ _ _ _ _ _ _ _ _ _ _ _ _ _ _ _ _ _ _ _ _ _ _ _ _ _ _ _ _ _ _ _ _ _ _ _ _ _ _ _ _ _ _ _ _ _ _ _ _ _ _ _ _ _ _ _ _ _ _ _ _ _ _ _ _ _ _ _ _ _ _ _ _ _ _ _ _ _ _ _ _ _ _ _ _ _ _ _ _ _ _ _ _ _ _ _ _ _ _ _ _ _ _ _ _ _ _ _ _ _ _ _ _ _ _ _ _ _ _ _ _ _ _ _ _ _ _ _ _ _ _ _ _ _ _ _ _ _ _ ?_
  intro R4 z57 z58 z59 z60 z61 z62 z63 z64 z65 z66 z67 z68 z69 z70 z71 z72 z73 z74 z75 z76 z77 z78 z79 z80 z81 z82 z83 z84 z85 z86 z87 z88 z89 z90 z91 z92 z93 z94 z95 z96 z97 z98 z99 z100 z101 z102 z103 z104 z105 z106 z107 z108 z109 hR4
  rw [← hR4] at HNF
  clear hR4
  cases R4
  rotate_left
  · go_wp2_with fail
    go_ret
    exact ⟨ret_bool (by rw [HNF.out]; rfl), HBw.out⟩
  have c15 := HS.out.cell 15 s.at15
  have c16 := HS.out.cell 16 s.at16
  have f7 := HF.out.cell 7 f.at7
  cases hcl7 : f.cl
  · have HC := Lib.hid hcl7
    rw [hcl7] at f7
    clear hcl7
    have hbb : ((((s.cl : Nat) : Int) + ((s.wl : Nat) : Int)) == 0) = decide (s.cl + ws.length = 0) := by
      rw [HWL.out, Bool.eq_iff_iff, beq_iff_eq, decide_eq_true_iff]; omega
    have HBQ := Lib.hid hbb
    go_wp2_with fail
    go_ret
    refine ⟨ret_bool ?_, HBw.out⟩
    rw [HNF.out, HC.out]
    have := HBQ.out
    simp
  have HC := Lib.hid hcl7
  rw [hcl7] at f7
  clear hcl7
  have HNF2 : Hid (nf = (decide (ws.length ≤ 64) && (!twB ws && ws.all mayN))) := Lib.hid (by rw [HNF.out, HC.out]; rfl)
  have HWc : Hid (IsSsR wc (fun b _ => b < B) (.slice s.wA s.wl s.wc) ws) := Lib.hid (IsSsR.keep (fun b _ hl => HBw.out.block b (Nat.lt_of_lt_of_le hl hB)) HW.out)
  have C72 := Lib.hid (alike72_any (B := B) wc HWc.out (Nat.le_trans hB HBw.out.size))
  clear HNF HC HW HA HBB HL
  by_cases hlen : 64 < ws.length
  · have hlenI : (64 : Int) < s.wl := by have := HWL.out; omega
    have HLN := Lib.hid hlen
    clear hlen
    go_wp2_with fail
    go_ret
    refine ⟨ret_bool ?_, HBw.out⟩
    rw [HNF2.out]
    have h1 : decide (ws.length ≤ 64) = false := by have := HLN.out; simp; omega
    rw [h1]
    rfl
  have hlenI : ¬ (64 : Int) < s.wl := by have := HWL.out; omega
  have HLN : Hid (decide (ws.length ≤ 64) = true) := Lib.hid (by simp; omega)
  cases htw : twB ws
  rotate_left
  · have HTW := Lib.hid htw
    rw [htw] at C72
    clear htw
    go_wp2_with (go_at_call 72; refine C72.out.mono ?_; rintro r w5 ⟨rfl, hb5⟩)
    go_ret
    refine ⟨ret_bool ?_, bnext HBw.out hb5⟩
    rw [HNF2.out, HTW.out]
    simp
  have HTW := Lib.hid htw
  rw [htw] at C72
  clear htw
  go_wp2_with (go_at_call 72; refine C72.out.mono ?_; rintro r w5 ⟨rfl, hb5⟩)
  have HB5 : Hid (Below w.heap.size w w5) := Lib.hid (bnext HBw.out hb5)
  have d16 := (HS.out.below hb5).cell 16 s.at16
  have hl7 := (HS.out.below hb5).lt
  have hW5 : IsSsR w5 (fun b _ => b < B) (.slice s.wA s.wl s.wc) ws := IsSsR.keep (fun b _ hl => hb5.block b (Nat.lt_of_lt_of_le hl (Nat.le_trans hB HBw.out.size))) HWc.out
  have HW5 := Lib.hid hW5
  have hcap : s.wl ≤ s.wc := by
    have := HWL.out
    obtain ⟨h1, h2, A, cap, h3, h4, h5⟩ := hW5
    simp only [Value.slice.injEq] at h4
    omega
  clear hlenI hlen hW5 hb5 c15 c16 f7 hl5 hl6 C72 HWc HF HS
  go_loopw [5] (fun i wr => ∃ j : Nat, j ≤ ws.length ∧ i = .int .i64 j ∧ (∀ k (hk : k < j) (hl : k < ws.length), mayN ws[k] = true) ∧ wr = w5) (fun i _ => ws.length - (intOf i).toNat)
  case atStart => exact ⟨0, by omega, rfl, fun k hk => by omega, rfl⟩
  case round =>
    obtain ⟨j, hj, rfl, hn, rfl⟩ := hrel
    have HN := Lib.hid hn
    clear hn
    by_cases hlt : j < ws.length
    · have hltI : (j : Int) < s.wl := by have := HWL.out; omega
      obtain ⟨b', o', hA, hc, hsz⟩ : ∃ b' o', s.wA = some ⟨b', o', Option.none⟩ ∧ wr.cell? ⟨b', o' + j, Option.none⟩ = some (.string ws[j]) ∧ ws[j].size ≤ 140737488351232 := by
        obtain ⟨h1, h2, A, cap, h3, h4, h5⟩ := HW5.out
        simp only [Value.slice.injEq] at h4
        obtain ⟨b', o', h6, h7, h8⟩ := h5 (by rintro rfl; simp at hlt)
        exact ⟨b', o', by rw [h4.1, h7], h8 j hlt, h2 _ (List.getElem_mem _)⟩
      rw [hA] at d16
      clear hA
      have HSZ := Lib.hid hsz
      obtain ⟨z, hz⟩ : ∃ z, z = ws[j] := ⟨_, rfl⟩
      rw [← hz] at hc HSZ
      have HZ := Lib.hid hz
      clear hsz hz
      have C39 := Lib.hid (fun w' => mayName39_any z w' HSZ.out)
      cases hm : mayN z
      · have HM := Lib.hid hm
        rw [hm] at C39
        clear hm
        go_wp2_with (go_at_call 39; refine (C39.out _).mono ?_; rintro r w6 ⟨rfl, rfl⟩)
        go_ret
        refine ⟨ret_bool ?_, HB5.out⟩
        rw [HNF2.out]
        have h1 : ws.all mayN = false := by
          rw [List.all_eq_false]
          exact ⟨z, by rw [HZ.out]; exact List.getElem_mem _, by rw [HM.out]; simp⟩
        rw [h1, Bool.and_false, Bool.and_false]
      · have HM := Lib.hid hm
        rw [hm] at C39
        clear hm
        go_wp2_with (go_at_call 39; refine (C39.out _).mono ?_; rintro r w6 ⟨rfl, rfl⟩)
        go_roundw
        case rel =>
          have hN2 : ∀ k (hk : k < j + 1) (hl : k < ws.length), mayN ws[k] = true := by
            intro k hk hl
            by_cases hkj : k = j
            · subst hkj; rw [← HZ.out]; exact HM.out
            · exact HN.out k (by omega) hl
          have hnum : Value.int .i64 ((j : Int) + 1) = .int .i64 ((j + 1 : Nat) : Int) := by go_num
          exact ⟨j + 1, by omega, hnum, hN2, by first | rfl | trivial⟩
        case measure => simp [intOf]; omega
    · obtain rfl : j = ws.length := by omega
      have hltI : ¬ ((ws.length : Nat) : Int) < s.wl := by have := HWL.out; omega
      go_wp2_with fail
      go_ret
      refine ⟨ret_bool ?_, HB5.out⟩
      rw [HNF2.out, HLN.out, HTW.out]
      have h1 : ws.all mayN = true := by
        rw [List.all_eq_true]
        intro z hz
        obtain ⟨k, hk, rfl⟩ := List.mem_iff_getElem.1 hz
        exact HN.out k hk hk
      rw [h1]
      rfl
end Go.Proofs.Ytnknefdpglnbnaa
