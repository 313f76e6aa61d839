/- The program's side of CodeUses: Reads. The program's side of CodeUses: Reads, whole. -/
import Derived.Test.YtnknefdpglnbnaaXk
import Derived.Test.YtnknefdpglnbnaaXe
namespace Go.Proofs.Ytnknefdpglnbnaa
open Go Go.RowKit Go.Maps

def addsN (l : List ByteArray) (ns : List (List UInt8)) : List (List UInt8) := l.foldl (fun ns s => addN s ns) ns
theorem addsN_append (a b : List ByteArray) (ns : List (List UInt8)) : addsN (a ++ b) ns = addsN b (addsN a ns) := by simp [addsN]
theorem addsN_len (l : List ByteArray) : ∀ ns : List (List UInt8), (addsN l ns).length ≤ ns.length + l.length := by
  induction l with
  | nil => intro ns; simp [addsN]
  | cons x l ih =>
    intro ns
    have h1 := ih (addN x ns)
    have h2 := addN_len x ns
    simp only [addsN, List.foldl_cons, List.length_cons] at h1 ⊢
    omega
def JN (b : Nat) (ns0 : List (List UInt8)) (w0 : World) (told : List ByteArray) (w : World) : Prop := MpN w b (addsN told ns0) ∧ Kp (fun x => x = b) b w0 w
theorem cf100 (args : Array Value) (w : World) : (callFunc 100 args).run Try.prog w = .ok (.enter 100 args) w := by go_simp
theorem teller100 (b B : Nat) (ns0 : List (List UInt8)) (w0 : World) (hb : b < w0.heap.size) (hB : B ≤ b) (hl : ns0.length ≤ 1000000) : NTellerM 100 (.map (some b)) (fun x => x = b) (JN b ns0 w0) B b w0 where
  cf := cf100
  own := by rintro x rfl; exact hb
  ownp := rfl
  size := fun told w h => h.2.size
  keep := fun told w h x hx => h.2.block x (by omega) (by omega) (by omega)
  mono := fun told w w' h hb => ⟨h.1.below hb, h.2.trans (Kp.of_below hb)⟩
  call := by
    rintro told s w ⟨h1, h2⟩ hs ht
    have h3 := addsN_len told ns0
    refine (add100_any s b _ w h1 hs (by omega)).mono ?_
    rintro e w' ⟨rfl, k1, k2⟩
    refine ⟨rfl, ⟨?_, h2.trans (kp_of_grown k2)⟩, kp_of_grown k2⟩
    rw [addsN_append]
    exact k1
attribute [local go_sem] SV.g0 SV.g1 SV.g2 SV.g3 SV.g4 SV.g5 SV.g6 SV.g7 SV.g8 SV.g9 SV.g10 SV.g11 SV.g12 SV.g13 SV.g14 SV.g15 SV.g16
attribute [local irreducible] wpList
set_option maxRecDepth 100000 in
set_option maxHeartbeats 2000000 in
theorem reads103_any (s : SV) (op : Int) (nm sec : ByteArray) (ab wh : Int) (xa xb : Ex) (t e c : List St) (ws : List ByteArray) (q b B : Nat) (hqb : q ≠ b) (hBb : B ≤ b) (ns : List (List UInt8)) (w : World) (hs : IsSt w B s (.mk op nm sec ab wh xa xb t e c ws))
    (hr : (readsX (.mk op nm sec ab wh xa xb t e c ws)).length ≤ 1088) (hq : Blk w q 120 (.map (some b))) (hm : MpN w b ns) (hl : ns.length ≤ 1000000) :
    Calls Try.prog 103 #[.agg s.arr, .pointer (some ⟨q, 0, Option.none⟩)] w fun e' w' => e' = .returned (.tuple #[]) ∧ Blk w' q 120 (.map (some b)) ∧ MpN w' b (addsN (readsX (.mk op nm sec ab wh xa xb t e c ws)) ns) ∧ Kp (fun x => x = b) b w w' := by
  obtain ⟨-, -, hxa, hxb, -, -, -, hws⟩ := hs.form
  have hwlen : s.wl = ws.length := by obtain ⟨_, _, _, _, _, e, _⟩ := hws; injection e
  obtain ⟨AA, hAA⟩ : ∃ AA, AA = s.wA := ⟨_, rfl⟩
  have h16 : s.arr[16]? = some (.slice AA ws.length s.wc) := by rw [hAA, ← hwlen]; exact s.at16
  rw [hwlen, ← hAA] at hws
  clear hwlen hAA
  simp only [readsX, List.length_append] at hr
  obtain ⟨w1, hw1⟩ : ∃ w1, w1 = w.alloc (.cells s.arr 58) := ⟨_, rfl⟩
  have hb1 : Below w.heap.size w w1 := by rw [hw1]; exact (Below.refl _ w).alloc (Nat.le_refl _) _
  have hB1 : BlkN w1 w.heap.size 58 s.arr := by rw [hw1]; exact BlkN.at_ rfl _ _
  have hq1 := hq.below hb1
  have hbl := hm.lt
  have hbl1 := (hm.below hb1).lt
  have T100 := teller100 b B ns w1 hbl1 hBb hl
  have J0 : JN b ns w1 [] w1 := ⟨hm.below hb1, Kp.refl⟩
  have hkeep : ∀ v, Kp (fun x => x = b) b w1 v → Blk v q 120 (.map (some b)) ∧ BlkN v w.heap.size 58 s.arr ∧ IsEx v B s.a xa ∧ IsEx v B s.b xb ∧ IsSs v B (.slice AA ws.length s.wc) ws := fun v hv => by
    have hk : ∀ k, k < B → v.heap[k]? = w.heap[k]? := fun k hk => (hv.block k (by omega) (by omega) (by omega)).trans (hb1.block k (by omega))
    exact ⟨(hv.block q hq1.lt hqb hqb).trans hq1, (hv.block _ hB1.lt (by omega) (by omega)).trans hB1, IsEx.keep hk hxa, IsEx.keep hk hxb, IsSsR.keep (fun k o h => hk k h) hws⟩
  have HKE := Lib.hid hkeep
  have HW1 := Lib.hid hw1
  have HKW := Lib.hid (Kp.of_below (O := fun x => x = b) (p := b) hb1)
  have N83 := Lib.hid (fun x => namesM_any 100 (.map (some b)) _ _ B b w1 T100 (by have := hb1.size; omega) x)
  have CA := Lib.hid (N83.out xa w1 (.agg #[.int .u8 s.a0, .int .i64 s.a1, .string s.a2, .slice s.aA s.al s.ac]) [] (hkeep w1 Kp.refl).2.2.1 J0 (by simp; omega))
  have c1 := hq1.cell
  have d5 := hB1.cell 5 s.at5
  have d6 := hB1.cell 6 s.at6
  have d7 := hB1.cell 7 s.at7
  have d8 := hB1.cell 8 s.at8
  have hwl : ws.length ≤ 1088 := by omega
  clear hw1 hq hm hq1 hB1 hb1 T100 J0 hkeep hs hxa hxb hws
  go_enter Try.func103, Try.ntmps103
  go_upto_region 1 with (fail)
  rw [← HW1.out]
  go_wp2_with (first
    | (go_at_call 83; (with_reducible refine (CA.out).mono ?_); rintro e2 w2 ⟨rfl, hj2, hk2⟩; obtain ⟨hq2, hB2, -, hx2, -⟩ := HKE.out w2 hj2.2; have c2 := hq2.cell; have z5 := hB2.cell 9 s.at9; have z6 := hB2.cell 10 s.at10; have z7 := hB2.cell 11 s.at11; have z8 := hB2.cell 12 s.at12; have CB := Lib.hid (N83.out xb w2 (.agg #[.int .u8 s.b0, .int .i64 s.b1, .string s.b2, .slice s.bA s.bl s.bc]) _ hx2 hj2 (by simp; omega)); clear hq2 hB2 hx2 hj2 hk2)
    | (go_at_call 83; (with_reducible refine (CB.out).mono ?_); rintro e3 w3 ⟨rfl, hj3, hk3⟩; obtain ⟨hq3, hB3, -, -, -⟩ := HKE.out w3 hj3.2; have c3 := hq3.cell; have z16 := hB3.cell 16 h16; have HJ3 := Lib.hid hj3; clear hq3 hB3 hj3 hk3))
  obtain ⟨NA, hNA⟩ : ∃ NA, NA = namesX xa ++ namesX xb := ⟨_, rfl⟩
  have hJ3 : JN b ns w1 NA w3 := by rw [hNA]; simpa using HJ3.out
  have HNA := Lib.hid hNA
  have hNl : NA.length + ws.length ≤ 1088 := by rw [hNA, List.length_append]; omega
  have HJ := Lib.hid hJ3
  clear hNA hJ3 HJ3 CA CB c1 c2 c3 z5 z6 z7 z8 z16 d5 d6 d7 d8
  go_loopw [18] (fun i wr => ∃ j : Nat, j ≤ ws.length ∧ i = .int .i64 j ∧ JN b ns w1 (NA ++ ws.take j) wr) (fun i _ => ws.length - (intOf i).toNat)
  case atStart => exact ⟨0, Nat.zero_le _, rfl, by simpa using HJ.out⟩
  case round =>
    obtain ⟨j, hj, rfl, hjr⟩ := hrel
    obtain ⟨hq3, hB3, -, -, hss⟩ := HKE.out wr hjr.2
    have c3 := hq3.cell
    have HJR := Lib.hid hjr
    by_cases hlt : j < ws.length
    · obtain ⟨hl16, hsz, A, cap, hcap, he, hA⟩ := hss
      injection he with he1 he2 he3
      obtain ⟨g, o, hg, hAe, hcell⟩ := hA (by rintro rfl; simp at hlt)
      have ec := hcell j hlt
      have hwA : AA = some ⟨g, o, Option.none⟩ := by rw [he1, hAe]
      subst hwA
      have hlen := addsN_len (NA ++ ws.take j) ns
      have hln : (NA ++ ws.take j).length ≤ 1088 := by simp only [List.length_append, List.length_take]; omega
      have C := Lib.hid (add100_any ws[j] b _ wr hjr.1 (hsz _ (List.getElem_mem hlt)) (by omega))
      clear hq3 hB3 hjr hA hcell hl16 hsz he1 he3 hAe he2 hcap h16
      go_wp2_with (go_at_call 100; (with_reducible refine (C.out).mono ?_); rintro e4 w4 ⟨rfl, hm4, hg4⟩)
      go_roundw
      case rel =>
        refine ⟨j + 1, by omega, by go_num, ?_, HJR.out.2.trans (kp_of_grown hg4)⟩
        rw [List.take_add_one, List.getElem?_eq_getElem hlt, Option.toList_some, ← List.append_assoc, addsN_append]
        exact hm4
      case measure => simp [intOf]; omega
    · obtain rfl : j = ws.length := by omega
      have HQ3 := Lib.hid hq3
      have HRT := Lib.hid (List.take_length (l := ws))
      clear hq3 hB3 hss hjr
      go_wp2_with fail
      go_end0
      have h1 := HJR.out
      rw [HRT.out, HNA.out, List.append_assoc] at h1
      exact ⟨rfl, HQ3.out, h1.1, HKW.out.trans h1.2⟩
end Go.Proofs.Ytnknefdpglnbnaa
namespace Go.Proofs.Ytnknefdpglnbnaa
open Go Go.RowKit Go.Maps

def readsN (x : St) (ns : List (List UInt8)) : List (List UInt8) := addsN (readsX x) ns
mutual
theorem ownS_flat : ∀ (x : St) (d : Int), ∀ y ∈ ownS x, ∃ k, (k, y) ∈ flat x d
  | .mk op nm sec ab wh a b t e c ws, d, y, hy => by
    simp only [ownS, List.mem_cons, List.mem_append] at hy
    rcases hy with rfl | hy | hy
    · exact ⟨d, by simp [flat]⟩
    · obtain ⟨k, hk⟩ := ownL_flats t (d + 1) y hy
      exact ⟨k, by simp [flat, hk]⟩
    · obtain ⟨k, hk⟩ := ownL_flats e (d + 1) y hy
      exact ⟨k, by simp [flat, hk]⟩
theorem ownL_flats : ∀ (l : List St) (d : Int), ∀ y ∈ ownL l, ∃ k, (k, y) ∈ flats l d
  | [], _, y, hy => by simp [ownL] at hy
  | x :: l, d, y, hy => by
    simp only [ownL, List.mem_append] at hy
    rcases hy with hy | hy
    · obtain ⟨k, hk⟩ := ownS_flat x d y hy
      exact ⟨k, by simp [flats, hk]⟩
    · obtain ⟨k, hk⟩ := ownL_flats l d y hy
      exact ⟨k, by simp [flats, hk]⟩
end
theorem own_may (l : List St) (h : (chkL l).2 = 0) : ∀ x ∈ ownL l, mayS x = true := by
  intro x hx
  have hm := chk_zero_may _ 0 (by omega) h
  obtain ⟨k, hk⟩ := ownL_flats l 0 x hx
  rw [List.all_eq_true] at hm
  exact hm _ (List.mem_map.2 ⟨_, hk, rfl⟩)
theorem own_reads (l : List St) (h : (chkL l).2 = 0) : ∀ x ∈ ownL l, (readsX x).length ≤ 1088 := fun x hx => readsX_len (own_may l h x hx)
theorem cf103 (args : Array Value) (w : World) : (callFunc 103 args).run Try.prog w = .ok (.enter 103 args) w := by go_simp
theorem teller103 (q b B : Nat) (w0 : World) (hb : b < w0.heap.size) (hqb : q ≠ b) (hB : B ≤ b) : OTeller 103 #[.pointer (some ⟨q, 0, Option.none⟩)] (fun x => (readsX x).length ≤ 1088) (fun x => x = b) (fun told w => JM readsN q b w0 told w ∧ ∀ x ∈ told, (readsX x).length ≤ 1088) B b w0 where
  cf := cf103
  own := by rintro x rfl; exact hb
  ownp := rfl
  size := fun told w h => h.1.2.2.size
  keep := fun told w h x hx => h.1.2.2.block x (by omega) (by omega) (by omega)
  mono := fun told w w' h hb => ⟨⟨h.1.1.below hb, h.1.2.1.below hb, h.1.2.2.trans (Kp.of_below hb)⟩, h.2⟩
  call := by
    rintro told s x w ⟨⟨h1, h2, h3⟩, h4⟩ hs hl hG
    obtain ⟨op, nm, sec, ab, wh, xa, xb, t, e, c, ws⟩ := x
    have hlen := foldN_len readsN (fun x => (readsX x).length ≤ 1088) 1088 (fun x ns hx => by have := addsN_len (readsX x) ns; simp only [readsN]; omega) told h4
    refine (reads103_any s op nm sec ab wh xa xb t e c ws q b B hqb hB _ w hs hG h1 h2 (by omega)).mono ?_
    rintro e' w' ⟨rfl, k1, k2, k3⟩
    refine ⟨rfl, ⟨⟨k1, by simpa [foldN, readsN] using k2, h3.trans k3⟩, fun y hy => ?_⟩, k3⟩
    rcases List.mem_append.1 hy with hy | hy
    · exact h4 y hy
    · rw [List.mem_singleton] at hy
      subst hy
      exact hG
attribute [local irreducible] wpList
set_option maxRecDepth 100000 in
set_option maxHeartbeats 1000000 in
theorem Reads59_any (l : List St) (A : Option Addr) (len cap : Nat) (w : World) (B : Nat) (hB : B ≤ w.heap.size) (h : LR (fun b _ => b < B) 256 A len cap l (fun b o => IsSts w B b o l)) :
    Calls Try.prog 59 #[.slice A len cap] w fun e w' => Below w.heap.size w w' ∧ (((chkL l).2 ≠ 0 ∧ e = .returned (.tuple #[.slice Option.none 0 0, .int .i64 ((chkL l).2 : Nat)])) ∨
      ((chkL l).2 = 0 ∧ ∃ (sl : Value) (ss : List (List UInt8)), e = .returned (.tuple #[sl, .int .i64 0]) ∧ (ss.Nodup ∧ ∀ x, x ∈ ss ↔ x ∈ foldN readsN (ownL l)) ∧ KRow w' w.heap.size sl (ss.mergeSort fun x y => decide (x ≤ y)))) := by
  have HC := Lib.hid (check_any l A len cap w B hB h)
  have HL := Lib.hid (fun w' (hb : Below w.heap.size w w') => (h.imp fun b o hr hp => ⟨hr, IsSts.keep (fun b hb' => hb.block b (by omega)) hr hp⟩ : LR (fun b _ => b < B) 256 A len cap l (fun b o => IsSts w' B b o l)))
  clear h
  obtain ⟨n, hn⟩ : ∃ n, n = (chkL l).2 := ⟨_, rfl⟩
  have HG : Hid (n = 0 → ∀ x ∈ ownL l, (readsX x).length ≤ 1088) := Lib.hid fun h0 => own_reads l (hn ▸ h0)
  have hlen : n = 0 → (ownL l).length ≤ 512 := fun h0 => by
    have h1 := chk_zero _ 0 (by omega) (hn ▸ h0 : (chkL l).2 = 0)
    have := ownL_le l 0
    simp only [List.length_map] at h1
    omega
  rw [← hn] at HC ⊢
  clear hn
  by_cases hn0 : n = 0
  rotate_left
  · have hne : ((n : Int) != 0) = true := by simp; omega
    go_enter Try.func59, Try.ntmps59
    go_wp2_with (go_at_call 78; refine HC.out.mono ?_; rintro e w1 ⟨rfl, hb1⟩)
    go_ret2
    exact ⟨hb1, .inl ⟨hn0, rfl⟩⟩
  · subst hn0
    have hlen := hlen rfl
    have hmm := @run_makeMap Try.prog
    go_enter Try.func59, Try.ntmps59
    go_upto_region 5 with (go_at_call 78; refine HC.out.mono ?_; rintro e w1 ⟨rfl, hb1⟩; have HB1 := Lib.hid hb1)
    obtain ⟨w2, hw2⟩ : ∃ w2, w2 = (w1.alloc (.map #[] 0)).alloc (.cells #[.map (some w1.heap.size)] 120) := ⟨_, rfl⟩
    rw [← hw2]
    have hb12 : Below w1.heap.size w1 w2 := by rw [hw2]; exact ((Below.refl _ w1).alloc (Nat.le_refl _) _).alloc (by simp) _
    have hq2 : Blk w2 (w1.heap.size + 1) 120 (.map (some w1.heap.size)) := by rw [hw2]; exact Blk.at_ (by simp) _ _
    have hm2 : MpN w2 w1.heap.size [] := by rw [hw2]; exact (mp_made w1).below ((Below.refl _ _).alloc (Nat.le_refl _) _)
    have hsz1 := HB1.out.size
    have hbl := hm2.lt
    have T103 := teller103 (w1.heap.size + 1) w1.heap.size B w2 hbl (by omega) (by omega)
    have C98 := Lib.hid (owns_any 103 _ _ _ _ B w1.heap.size w2 T103 l w2 A len cap [] (HL.out w2 (HB1.out.trans (hb12.mono hsz1))) ⟨⟨hq2, hm2, Kp.refl⟩, by simp⟩ (by simp; omega) (HG.out (by first | rfl | trivial)))
    have HB2 := Lib.hid (HB1.out.trans (hb12.mono hsz1))
    obtain ⟨b, hb⟩ : ∃ b, b = w1.heap.size := ⟨_, rfl⟩
    rw [← hb] at C98 hsz1 ⊢
    clear hw2 hb12 hq2 hm2 T103 hb hmm
    go_wp2_with (first
      | (go_at_call 98; refine C98.out.mono ?_; rintro e w3 ⟨rfl, ⟨⟨hq3, hm3, hk3⟩, _⟩, _⟩; have c3 := hq3.cell; have HM3 := Lib.hid hm3; have HK3 := Lib.hid hk3; obtain ⟨D, m, hown, hml, hkeys⟩ := hm3; have HO3 := Lib.hid hown; have HKY := Lib.hid hkeys; have hfl := foldN_len readsN (fun x => (readsX x).length ≤ 1088) 1088 (fun x ns hx => by have := addsN_len (readsX x) ns; simp only [readsN]; omega) (ownL l) (HG.out (by first | rfl | trivial)); simp only [List.nil_append] at hml; clear hown hkeys hq3 hk3)
      | (go_at_call 101; refine (list101_any b m D w3 HO3.out (by have := size_of_owns HO3.out; omega)).mono ?_; rintro e w4 ⟨sl, ss, rfl, hss, hr4, hb4⟩))
    go_ret2
    have hkb : Below w.heap.size w w3 := ⟨HK3.out.os.trans HB2.out.os, HK3.out.tape.trans HB2.out.tape, HK3.out.output.trans HB2.out.output, Nat.le_trans HB2.out.size HK3.out.size, fun k hk => (HK3.out.block k (by have := HB2.out.size; omega) (by omega) (by omega)).trans (HB2.out.block k hk)⟩
    refine ⟨hkb.trans (hb4.mono hkb.size), .inr ⟨trivial, sl, ss, rfl, ⟨hss.1, fun x => ?_⟩, row_low hr4 hkb.size⟩⟩
    rw [hss.2 x]
    simpa using HKY.out x
end Go.Proofs.Ytnknefdpglnbnaa
