/- The program's side of CodeUses: Reads. -/
import Derived.Test.YtnknefdpglnbnaaXk
import Derived.Test.YtnknefdpglnbnaaXe
namespace Go.Proofs.Ytnknefdpglnbnaa
open Go Go.RowKit Go.Maps

def addsN (l : List ByteArray) (ns : List (List UInt8)) : List (List UInt8) := l.foldl (fun ns s => addN s ns) ns
theorem addsN_append (a b : List ByteArray) (ns : List (List UInt8)) : addsN (a ++ b) ns = addsN b (addsN a ns) := by simp [addsN]
theorem addsN_len (l : List ByteArray) : ∀ ns : List (List UInt8), (addsN l ns).length ≤ ns.length + l.length := by
  induction l with
  | nil => intro ns; simp [addsN]
  | cons x l ih =>
    intro ns
    have h1 := ih (addN x ns)
    have h2 := addN_len x ns
    simp only [addsN, List.foldl_cons, List.length_cons] at h1 ⊢
    omega
def JN (b : Nat) (ns0 : List (List UInt8)) (w0 : World) (told : List ByteArray) (w : World) : Prop := MpN w b (addsN told ns0) ∧ Kp (fun x => x = b) b w0 w
theorem cf100 (args : Array Value) (w : World) : (callFunc 100 args).run Try.prog w = .ok (.enter 100 args) w := by go_simp
theorem teller100 (b B : Nat) (ns0 : List (List UInt8)) (w0 : World) (hb : b < w0.heap.size) (hB : B ≤ b) (hl : ns0.length ≤ 1000000) : NTellerM 100 (.map (some b)) (fun x => x = b) (JN b ns0 w0) B b w0 where
  cf := cf100
  own := by rintro x rfl; exact hb
  ownp := rfl
  size := fun told w h => h.2.size
  keep := fun told w h x hx => h.2.block x (by omega) (by omega) (by omega)
  mono := fun told w w' h hb => ⟨h.1.below hb, h.2.trans (Kp.of_below hb)⟩
  call := by
    rintro told s w ⟨h1, h2⟩ hs ht
    have h3 := addsN_len told ns0
    refine (add100_any s b _ w h1 hs (by omega)).mono ?_
    rintro e w' ⟨rfl, k1, k2⟩
    refine ⟨rfl, ⟨?_, h2.trans (kp_of_grown k2)⟩, kp_of_grown k2⟩
    rw [addsN_append]
    exact k1
attribute [local go_sem] SV.g0 SV.g1 SV.g2 SV.g3 SV.g4 SV.g5 SV.g6 SV.g7 SV.g8 SV.g9 SV.g10 SV.g11 SV.g12 SV.g13 SV.g14 SV.g15 SV.g16
attribute [local irreducible] wpList
set_option maxRecDepth 100000 in
set_option maxHeartbeats 2000000 in
theorem reads103_any (s : SV) (op : Int) (nm sec : ByteArray) (ab wh : Int) (xa xb : Ex) (t e c : List St) (ws : List ByteArray) (q b B : Nat) (hqb : q ≠ b) (hBb : B ≤ b) (ns : List (List UInt8)) (w : World) (hs : IsSt w B s (.mk op nm sec ab wh xa xb t e c ws))
    (hr : (readsX (.mk op nm sec ab wh xa xb t e c ws)).length ≤ 1088) (hq : Blk w q 120 (.map (some b))) (hm : MpN w b ns) (hl : ns.length ≤ 1000000) :
    Calls Try.prog 103 #[.agg s.arr, .pointer (some ⟨q, 0, Option.none⟩)] w fun e' w' => e' = .returned (.tuple #[]) ∧ Blk w' q 120 (.map (some b)) ∧ MpN w' b (addsN (readsX (.mk op nm sec ab wh xa xb t e c ws)) ns) ∧ Kp (fun x => x = b) b w w' := by
  obtain ⟨-, -, hxa, hxb, -, -, -, hws⟩ := hs.form
  have hwlen : s.wl = ws.length := by obtain ⟨_, _, _, _, _, e, _⟩ := hws; injection e
  obtain ⟨AA, hAA⟩ : ∃ AA, AA = s.wA := ⟨_, rfl⟩
  have h16 : s.arr[16]? = some (.slice AA ws.length s.wc) := by rw [hAA, ← hwlen]; exact s.at16
  rw [hwlen, ← hAA] at hws
  clear hwlen hAA
  simp only [readsX, List.length_append] at hr
  obtain ⟨w1, hw1⟩ : ∃ w1, w1 = w.alloc (.cells s.arr 58) := ⟨_, rfl⟩
  have hb1 : Below w.heap.size w w1 := by rw [hw1]; exact (Below.refl _ w).alloc (Nat.le_refl _) _
  have hB1 : BlkN w1 w.heap.size 58 s.arr := by rw [hw1]; exact BlkN.at_ rfl _ _
  have hq1 := hq.below hb1
  have hbl := hm.lt
  have hbl1 := (hm.below hb1).lt
  have T100 := teller100 b B ns w1 hbl1 hBb hl
  have J0 : JN b ns w1 [] w1 := ⟨hm.below hb1, Kp.refl⟩
  have hkeep : ∀ v, Kp (fun x => x = b) b w1 v → Blk v q 120 (.map (some b)) ∧ BlkN v w.heap.size 58 s.arr ∧ IsEx v B s.a xa ∧ IsEx v B s.b xb ∧ IsSs v B (.slice AA ws.length s.wc) ws := fun v hv => by
    have hk : ∀ k, k < B → v.heap[k]? = w.heap[k]? := fun k hk => (hv.block k (by omega) (by omega) (by omega)).trans (hb1.block k (by omega))
    exact ⟨(hv.block q hq1.lt hqb hqb).trans hq1, (hv.block _ hB1.lt (by omega) (by omega)).trans hB1, IsEx.keep hk hxa, IsEx.keep hk hxb, IsSsR.keep (fun k o h => hk k h) hws⟩
  have HKE := Lib.hid hkeep
  have HW1 := Lib.hid hw1
  have HKW := Lib.hid (Kp.of_below (O := fun x => x = b) (p := b) hb1)
  have N83 := Lib.hid (fun x => namesM_any 100 (.map (some b)) _ _ B b w1 T100 (by have := hb1.size; omega) x)
  have CA := Lib.hid (N83.out xa w1 (.agg #[.int .u8 s.a0, .int .i64 s.a1, .string s.a2, .slice s.aA s.al s.ac]) [] (hkeep w1 Kp.refl).2.2.1 J0 (by simp; omega))
  have c1 := hq1.cell
  have d5 := hB1.cell 5 s.at5
  have d6 := hB1.cell 6 s.at6
  have d7 := hB1.cell 7 s.at7
  have d8 := hB1.cell 8 s.at8
  have hwl : ws.length ≤ 1088 := by omega
  clear hw1 hq hm hq1 hB1 hb1 T100 J0 hkeep hs hxa hxb hws
  go_enter Try.func103, Try.ntmps103
  go_upto_region 1 with (fail)
  rw [← HW1.out]
  go_wp2_with (first
    | (go_at_call 83; (with_reducible refine (CA.out).mono ?_); rintro e2 w2 ⟨rfl, hj2, hk2⟩; obtain ⟨hq2, hB2, -, hx2, -⟩ := HKE.out w2 hj2.2; have c2 := hq2.cell; have z5 := hB2.cell 9 s.at9; have z6 := hB2.cell 10 s.at10; have z7 := hB2.cell 11 s.at11; have z8 := hB2.cell 12 s.at12; have CB := Lib.hid (N83.out xb w2 (.agg #[.int .u8 s.b0, .int .i64 s.b1, .string s.b2, .slice s.bA s.bl s.bc]) _ hx2 hj2 (by simp; omega)); clear hq2 hB2 hx2 hj2 hk2)
    | (go_at_call 83; (with_reducible refine (CB.out).mono ?_); rintro e3 w3 ⟨rfl, hj3, hk3⟩; obtain ⟨hq3, hB3, -, -, -⟩ := HKE.out w3 hj3.2; have c3 := hq3.cell; have z16 := hB3.cell 16 h16; have HJ3 := Lib.hid hj3; clear hq3 hB3 hj3 hk3))
  obtain ⟨NA, hNA⟩ : ∃ NA, NA = namesX xa ++ namesX xb := ⟨_, rfl⟩
  have hJ3 : JN b ns w1 NA w3 := by rw [hNA]; simpa using HJ3.out
  have HNA := Lib.hid hNA
  have hNl : NA.length + ws.length ≤ 1088 := by rw [hNA, List.length_append]; omega
  have HJ := Lib.hid hJ3
  clear hNA hJ3 HJ3 CA CB c1 c2 c3 z5 z6 z7 z8 z16 d5 d6 d7 d8
  go_loopw [18] (fun i wr => ∃ j : Nat, j ≤ ws.length ∧ i = .int .i64 j ∧ JN b ns w1 (NA ++ ws.take j) wr) (fun i _ => ws.length - (intOf i).toNat)
  case atStart => exact ⟨0, Nat.zero_le _, rfl, by simpa using HJ.out⟩
  case round =>
    obtain ⟨j, hj, rfl, hjr⟩ := hrel
    obtain ⟨hq3, hB3, -, -, hss⟩ := HKE.out wr hjr.2
    have c3 := hq3.cell
    have HJR := Lib.hid hjr
    by_cases hlt : j < ws.length
    · obtain ⟨hl16, hsz, A, cap, hcap, he, hA⟩ := hss
      injection he with he1 he2 he3
      obtain ⟨g, o, hg, hAe, hcell⟩ := hA (by rintro rfl; simp at hlt)
      have ec := hcell j hlt
      have hwA : AA = some ⟨g, o, Option.none⟩ := by rw [he1, hAe]
      subst hwA
      have hlen := addsN_len (NA ++ ws.take j) ns
      have hln : (NA ++ ws.take j).length ≤ 1088 := by simp only [List.length_append, List.length_take]; omega
      have C := Lib.hid (add100_any ws[j] b _ wr hjr.1 (hsz _ (List.getElem_mem hlt)) (by omega))
      clear hq3 hB3 hjr hA hcell hl16 hsz he1 he3 hAe he2 hcap h16
      go_wp2_with (go_at_call 100; (with_reducible refine (C.out).mono ?_); rintro e4 w4 ⟨rfl, hm4, hg4⟩)
      go_roundw
      case rel =>
        refine ⟨j + 1, by omega, by go_num, ?_, HJR.out.2.trans (kp_of_grown hg4)⟩
        rw [List.take_add_one, List.getElem?_eq_getElem hlt, Option.toList_some, ← List.append_assoc, addsN_append]
        exact hm4
      case measure => simp [intOf]; omega
    · obtain rfl : j = ws.length := by omega
      have HQ3 := Lib.hid hq3
      have HRT := Lib.hid (List.take_length (l := ws))
      clear hq3 hB3 hss hjr
      go_wp2_with fail
      go_end0
      have h1 := HJR.out
      rw [HRT.out, HNA.out, List.append_assoc] at h1
      exact ⟨rfl, HQ3.out, h1.1, HKW.out.trans h1.2⟩
end Go.Proofs.Ytnknefdpglnbnaa
