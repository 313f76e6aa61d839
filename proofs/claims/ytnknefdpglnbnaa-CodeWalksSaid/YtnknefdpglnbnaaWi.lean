/- CodeWalks, from the call of Each on: two turns over what it tells. CodeWalks, the whole walk: it returns true for every code and every number. -/
import Derived.Test.YtnknefdpglnbnaaWf
import Derived.Test.YtnknefdpglnbnaaWg
import Derived.Test.YtnknefdpglnbnaaDj
import Derived.Test.YtnknefdpglnbnaaCu
import Derived.LoopIn
import Derived.Test.YtnknefdpglnbnaaCi
import Derived.Test.YtnknefdpglnbnaaCq
namespace Go.Proofs.Ytnknefdpglnbnaa
open Go Go.RowKit Go.Told
attribute [local go_sem] Oper.semAt_some

def dropSeq : Nat → Code → Code
  | 0, c => c
  | n + 1, .seq _ b => dropSeq n b
  | _ + 1, c => c
/-- The last of them is not what comes. -/
def BadW (l : List St) (xs : List TX) : Prop := ∃ pre x, xs = pre ++ [x] ∧ ¬ ∃ h : pre.length < (toldL l).length, keyT x = (toldL l)[pre.length]
theorem badW_none {l : List St} {xs : List TX} (h : BadW l xs) (hp : PreT l xs) : False := by
  obtain ⟨pre, x, rfl, hb⟩ := h
  obtain ⟨m, hm, he⟩ := hp
  have hl := congrArg List.length he
  simp [List.length_take] at hl
  have hpl : pre.length = m := by omega
  subst hpl
  refine hb ⟨hm, ?_⟩
  have h3 := congrArg (fun L => L[pre.length]?) he
  simp only [List.map_append, List.map_cons, List.map_nil] at h3
  rw [List.getElem?_append_right (by simp), List.getElem?_take_of_lt (by omega), List.getElem?_eq_getElem hm] at h3
  simpa using h3
def mkD (D : Nat) : Deferred := { target := .collected D, args := #[] }
/-- How many turns are left. -/
def muW (a : Act) (w : World) : Nat :=
  match a.eval (.tmp 7) with
  | Value.pointer (some q) =>
    (match w.cell? q with
    | some (Value.int _ v) => (2 - v).toNat
    | _ => 0)
  | _ => 0
theorem muW_eq {a : Act} {w : World} {q : Addr} {t : IntKind} {v : Int} (h : a.eval (.tmp 7) = .pointer (some q)) (hc : w.cell? q = some (.int t v)) : muW a w = (2 - v).toNat := by
  unfold muW
  rw [h]
  simp only [hc]
/-- The rows that are wanted, in memory. -/
def RowsAt (l : List St) (Aw : Option Addr) (w : World) : Prop := ∀ (i : Nat) (h : i < (toldL l).length), ∃ (g : Nat) (z : SV), Aw = some ⟨g, 0, Option.none⟩ ∧ g < w.heap.size ∧ w.cell? ⟨g, i * 19, Option.none⟩ = some (.int .i64 ((toldL l)[i]).1) ∧ At w g (i * 19 + 2) z.arr.toList ∧ IsSt w w.heap.size z ((toldL l)[i]).2
/-- Between two turns. -/
def InvW (l : List St) (A0 : Option Addr) (cap0 p3 p4 p5 pE : Nat) (leave : Int) (x13 x14 x15 x16 x17 x18 : Value) (wE : World) (a : Act) (w : World) : Prop :=
  ∃ (k p7 : Nat) (Ds : List Nat) (y8 y23 y24 y25 y26 y27 y67 y68 y69 y70 y71 y72 y73 y74 y75 y76 y77 y78 y79 y80 : Value), a = ⟨#[.slice A0 l.length cap0, .int .i64 leave, undef, .pointer (some ⟨p3, 0, Option.none⟩), .pointer (some ⟨p4, 0, Option.none⟩), .pointer (some ⟨p5, 0, Option.none⟩), .func (.func 91) #[] #[.pointer (some ⟨pE, 0, Option.none⟩)], .pointer (some ⟨p7, 0, Option.none⟩), y8, undef, undef, .bool true, .bool false, x13, x14, x15, x16, x17, x18, .slice A0 l.length cap0, .func (.func 91) #[] #[.pointer (some ⟨pE, 0, Option.none⟩)], .func (.func 91) #[] #[.pointer (some ⟨pE, 0, Option.none⟩)], .bool false, y23, y24, y25, y26, y27, undef, undef, undef, undef, undef, undef, undef, undef, undef, undef, undef, undef, undef, undef, undef, undef, undef, undef, undef, undef, undef, undef, undef, undef, undef, undef, undef, undef, undef, undef, undef, undef, undef, undef, undef, undef, undef, undef, undef, y67, y68, y69, y70, y71, y72, y73, y74, y75, y76, y77, y78, y79, y80, undef], Ds.map mkD⟩ ∧ k ≤ 2 ∧ Ds.length = k ∧ Blk w p7 3 (.int .i64 (k : Nat)) ∧ wE.heap.size ≤ p7 ∧ Below wE.heap.size wE w ∧
    (∀ D ∈ Ds, wE.heap.size ≤ D ∧ w.heap[D]? = some (.deferred (some []))) ∧ Ds.Pairwise (· ≠ ·)
theorem same34_one (x y : St) : ∃ r : Bool, (x = y → r = true) ∧ ∀ (w : World) (B C : Nat) (A : Option Addr) (len cap : Nat) (A' : Option Addr) (len' cap' : Nat),
  LR (fun b _ => b < B) 256 A len cap [x] (fun b o => IsSts w B b o [x]) → LR (fun b _ => b < C) 256 A' len' cap' [y] (fun b o => IsSts w C b o [y]) → B ≤ w.heap.size → C ≤ w.heap.size →
  Calls Try.prog 34 #[.slice A len cap, .slice A' len' cap'] w fun e w' => e = .returned (.bool r) ∧ Below w.heap.size w w' :=
  ⟨sameSts [x] [y], fun e => by subst e; exact sameSts_refl _, fun w B C A len cap A' len' cap' h1 h2 h3 h4 => SameCode34_any [x] [y] w B C A len cap A' len' cap' h1 h2 h3 h4⟩
theorem Try.results11 : Try.f11.results = #[.cell 4 4] := rfl
attribute [local irreducible] wpList wpListIn
attribute [local go_sem] fn_nil
set_option maxRecDepth 100000 in
set_option maxHeartbeats 4000000 in
theorem walks_rest (l : List St) (A0 Aw : Option Addr) (cap0 cw p3 p4 p5 : Nat) (leave : Int) (x13 x14 x15 x16 x17 x18 : Value) (w00 wS : World) (hb0 : Below w00.heap.size w00 wS) (h3 : Blk wS p3 3 (.int .i64 leave)) (h4 : Blk wS p4 4 (.bool false)) (h5 : Blk wS p5 78 (.slice Aw (toldL l).length cw))
    (hlt3 : w00.heap.size ≤ p4) (hR : RowsAt l Aw wS) (hC : LR (fun b _ => b < wS.heap.size) 256 A0 l.length cap0 l (fun b o => IsSts wS wS.heap.size b o l)) :
    (dropSeq 4 (Try.f11.body.getD .skip)).wpIn Fence.wide 9 Try.prog (bodyPostM Fence.wide 9 Try.prog Try.f11 fun e w' => e = .returned (.bool true) ∧ Below w00.heap.size w00 w') ⟨#[.slice A0 l.length cap0, .int .i64 leave, undef, .pointer (some ⟨p3, 0, Option.none⟩), .pointer (some ⟨p4, 0, Option.none⟩), .pointer (some ⟨p5, 0, Option.none⟩), undef, undef, undef, undef, undef, .bool true, .bool false, x13, x14, x15, x16, x17, x18, undef, undef, undef, undef, undef, undef, undef, undef, undef, undef, undef, undef, undef, undef, undef, undef, undef, undef, undef, undef, undef, undef, undef, undef, undef, undef, undef, undef, undef, undef, undef, undef, undef, undef, undef, undef, undef, undef, undef, undef, undef, undef, undef, undef, undef, undef, undef, undef, undef, undef, undef, undef, undef, undef, undef, undef, undef, undef, undef, undef, undef, undef, undef], []⟩ wS := by
  simp only [Try.f11, Option.getD_some, dropSeq]
  gi_wp2_with (first
    | (refine ⟨trivial, ?_⟩; gi_at_call 52; refine (callsIn_wide.2 (each52_any _ _ _ _)).mono ?_; rintro e w3 ⟨rfl, rfl⟩))
  obtain ⟨wE, hwE⟩ : ∃ wE, wE = wS.alloc (Obj.cells #[Value.slice A0 l.length cap0] 42) := ⟨_, rfl⟩
  rw [← hwE]
  have hsE : wE.heap.size = wS.heap.size + 1 := by rw [hwE]; simp
  have hSE : Below wS.heap.size wS wE := by rw [hwE]; exact (Below.refl _ _).alloc (Nat.le_refl _) _
  have hEb : Blk wE wS.heap.size 42 (.slice A0 l.length cap0) := by rw [hwE]; exact Blk.at_ rfl _ _
  have h3E := h3.below hSE
  have h4E := h4.below hSE
  have h5E := h5.below hSE
  have hs0 := hb0.size
  have h0E : Below w00.heap.size w00 wE := hb0.trans (hSE.mono hs0)
  have hRE : RowsAt l Aw wE := fun i h => by
    obtain ⟨g, z, k1, k2, k3, k4, k5⟩ := hR i h
    exact ⟨g, z, k1, by omega, (World.cell?_of_block (hSE.block g k2)).trans k3, At.keep k4 k2 (fun b hb => hSE.block b hb), IsStR.mono (fun b o hb => by omega) (IsStR.keep (fun b o hb => hSE.block b hb) k5)⟩
  have SQ := Lib.hid (each91 8 l A0 l.length cap0 wS.heap.size wE wS.heap.size (by omega) (hC.imp fun b o hr hp => ⟨hr, IsSts.keep (fun b hb => hSE.block b hb) hr hp⟩) hEb)
  obtain ⟨i0, hi, hz0, hz1', hz2'⟩ := info_parts info58
  have l3 := h3E.lt
  have l4 := h4E.lt
  have l5 := h5E.lt
  have H3 := Lib.hid h3E
  have H4 := Lib.hid h4E
  have H5 := Lib.hid h5E
  have HR := Lib.hid hRE
  have H0 := Lib.hid h0E
  clear hwE hSE hEb h3 h4 h5 hb0 hR hC h3E h4E h5E hRE h0E
  rw [← show wE.heap.size = wS.heap.size + 1 from hsE]
  obtain ⟨pE, hpE⟩ : ∃ pE, pE = wS.heap.size := ⟨_, rfl⟩
  rw [← hpE] at SQ hsE ⊢
  clear hpE
  refine wpIn_loop (InvW l A0 cap0 p3 p4 p5 pE leave x13 x14 x15 x16 x17 x18 wE) muW ?h0 ?round
  case h0 => exact ⟨0, wE.heap.size, [], undef, undef, undef, undef, undef, undef, undef, undef, undef, undef, undef, undef, undef, undef, undef, undef, undef, undef, undef, undef, rfl, by omega, rfl, Blk.at_ rfl _ _, Nat.le_refl _, (Below.refl _ _).alloc (Nat.le_refl _) _, by simp, List.Pairwise.nil⟩
  case round =>
    rintro a wr ⟨k, p7, Ds, y8, y23, y24, y25, y26, y27, y67, y68, y69, y70, y71, y72, y73, y74, y75, y76, y77, y78, y79, y80, rfl, hk, hDl, hB7, hp7, hbE, hD, hP⟩
    have c7 := hB7.cell
    have l7 := hB7.lt
    have f7 := hB7.free
    have hsr := hbE.size
    by_cases hk2 : k < 2
    · have hdec : decide ((k : Int) < 2) = true := by simp; omega
      gi_wp2_with fail
      obtain ⟨w4, hw4⟩ : ∃ w4, w4 = wr.alloc (.cells #[.int .i64 0] 3) := ⟨_, rfl⟩
      rw [← hw4]
      obtain ⟨p8, hp8⟩ : ∃ p8, p8 = wr.heap.size := ⟨_, rfl⟩
      have hs4 : w4.heap.size = p8 + 1 := by rw [hw4, hp8]; simp
      have hr4 : Below wr.heap.size wr w4 := by rw [hw4]; exact (Below.refl _ _).alloc (Nat.le_refl _) _
      have B8 : Blk w4 p8 3 (.int .i64 0) := by rw [hw4, hp8]; exact Blk.at_ rfl _ _
      have hE4 : Below wE.heap.size wE w4 := hbE.trans (hr4.mono hsr)
      have B74 := hB7.below hr4
      have hD4 : ∀ D ∈ Ds, wE.heap.size ≤ D ∧ D < p8 ∧ w4.heap[D]? = some (.deferred (some [])) := fun D hd => by
        have := (Array.getElem?_eq_some_iff.1 (hD D hd).2).1
        exact ⟨(hD D hd).1, by omega, (hr4.block D this).trans (hD D hd).2⟩
      rw [← hp8]
      have l7' : p7 < p8 := by omega
      have hE8 : wE.heap.size ≤ p8 := by omega
      have HP8 := Lib.hid hp8
      clear hw4 hD hp8
      refine rangeFunc_told (by omega) (gf := 91) (lb := #[.pointer (some ⟨pE, 0, Option.none⟩)]) rfl (fun args w => by go_simp) (encs := encT) (lo := loT) (Dt := DtT) SQ.out hE4 (fun _ => rfl)
        (fun _ _ _ _ h hs hb => h.stay hs hb) (fun pre W => Blk W p8 3 (.int .i64 (pre.length : Nat)) ∧ Upd p8 w4 W)
        (fun c pre W => (c = .ret ∧ BadW l pre) ∨ (c = .exit 2 ∧ k = 0 ∧ ((pre.length : Nat) : Int) = leave ∧ Blk W p8 3 (.int .i64 (pre.length : Nat)) ∧ Upd p8 w4 W)) ?hI ?hIx ⟨B8, Upd.refl _ _⟩
        (fun x a' W0 W => BlkN W W0.heap.size 58 x.2.1.arr ∧ a' = ⟨#[.slice A0 l.length cap0, .int .i64 leave, undef, .pointer (some ⟨p3, 0, Option.none⟩), .pointer (some ⟨p4, 0, Option.none⟩), .pointer (some ⟨p5, 0, Option.none⟩), .func (.func 91) #[] #[.pointer (some ⟨pE, 0, Option.none⟩)], .pointer (some ⟨p7, 0, Option.none⟩), .pointer (some ⟨p8, 0, Option.none⟩), .int .i64 x.1, .pointer (some ⟨W0.heap.size, 0, Option.none⟩), .bool true, .bool false, x13, x14, x15, x16, x17, x18, .slice A0 l.length cap0, .func (.func 91) #[] #[.pointer (some ⟨pE, 0, Option.none⟩)], .func (.func 91) #[] #[.pointer (some ⟨pE, 0, Option.none⟩)], .bool false, .int .i64 (k : Nat), .bool true, y25, y26, .func (.func 91) #[] #[.pointer (some ⟨pE, 0, Option.none⟩)], .int .i64 x.1, .agg x.2.1.arr, undef, undef, undef, undef, undef, undef, undef, undef, undef, undef, undef, undef, undef, undef, undef, undef, undef, undef, undef, undef, undef, undef, undef, undef, undef, undef, undef, undef, undef, undef, undef, undef, undef, undef, undef, undef, undef, y67, y68, y69, y70, y71, y72, y73, y74, y75, y76, y77, y78, y79, y80, undef], []⟩) ?hAx ?assign ?body ?done ?stop
      case hI =>
        rintro s X Y ⟨h1, h2⟩ hb
        exact ⟨(hb.block _ (by omega)).trans h1, hb.os.trans h2.os, hb.tape.trans h2.tape, hb.output.trans h2.output, Nat.le_trans h2.size hb.size, fun q hq hn => (hb.block q hq).trans (h2.block q hq hn)⟩
      case hIx =>
        rintro c s X Y (h | ⟨h0, h1, h2, h3, h4⟩) hb
        · exact .inl h
        · exact .inr ⟨h0, h1, h2, (hb.block _ (by omega)).trans h3, hb.os.trans h4.os, hb.tape.trans h4.tape, hb.output.trans h4.output, Nat.le_trans h4.size hb.size, fun q hq hn => (hb.block q hq).trans (h4.block q hq hn)⟩
      case hAx =>
        rintro x a' W0 X Y ⟨k1, k2⟩ hs hb
        exact ⟨(hb _ (Nat.le_refl _) k1.lt).trans k1, k2⟩
      case assign =>
        intro lp x W0 K hK
        gi_wp2_with (refine wpListIn_store_blk rfl 58 (.tmp 10) (.tmp 29) rfl i0 hi W0.heap.size x.2.1.arr rfl rfl 58 SV.zero.arr (BlkN.at_ rfl 58 SV.zero.arr) (by rw [hz1']; rfl) rfl (SV.one _) ?_; intro w5 hB5 hbut5)
        refine hK _ _ ⟨hB5, rfl⟩ ?_
        exact hbut5.below (Nat.le_refl _) ((Below.refl _ _).alloc (Nat.le_refl _) _)
      case body =>
        rintro lp pre x a' W0 W ⟨k1, k2⟩ hlo hlo2 hsz ⟨⟨hpl, hd0, hd1⟩, hd⟩ ⟨hBx, rfl⟩
        obtain ⟨d, s, y, lo⟩ := x
        change w4.heap.size + 2 ≤ lo at hlo
        change lo ≤ W0.heap.size at hlo2
        change IsStR W (OwnU lo W) s y at hd
        change BlkN W W0.heap.size 58 s.arr at hBx
        have hkeep : ∀ b, b < wE.heap.size → W.heap[b]? = wE.heap[b]? := fun b hb => (k2.block b (by omega) (by omega)).trans (hE4.block b hb)
        have hWs := k2.size
        have K4W : Blk W p4 4 (.bool false) := (hkeep p4 l4).trans H4.out
        have K3W : Blk W p3 3 (.int .i64 leave) := (hkeep p3 l3).trans H3.out
        have K7W : Blk W p7 3 (.int .i64 (k : Nat)) := (k2.block p7 (by omega) (by omega)).trans B74
        have h5W : W.cell? ⟨p5, 0, Option.none⟩ = some (.slice Aw (toldL l).length cw) := Blk.cell ((hkeep p5 l5).trans H5.out)
        have hlx := hBx.lt
        have hTL := toldL_len l
        gi_wp2_with fail
        by_cases hin : (toldL l).length ≤ pre.length
        · refine reg17_A lp _ Aw (toldL l).length cw pre.length p5 p8 W0.heap.size d W h5W k1.cell (by omega) k1.lt (by omega) (by omega) hin _ _ _ _ _ _ _ _ _ _ _ _ _ _ _ _ _ _ _ _ _ _ _ _ _ _ _ _ _ _ _ _ _ _ _ _ _ _ _ _ _ _ _ _ _ _ _ _ _ _ _ _ _ _ _ _ _ _ _ _ _ _ _ _ _ _ _ _ _ _ _ _ _ _ _ _ _ _ ?_
          intro w5 hb5
          have K45 := K4W.below hb5
          have c45 := K45.cell
          have f45 := K45.free
          have l45 := K45.lt
          gi_wp2_with fail
          exact ⟨kset (KpX.of_below hb5 (by show lo ≤ W.heap.size; omega)) (by omega) _ _, .inl ⟨rfl, pre, _, rfl, fun ⟨h, _⟩ => by omega⟩⟩
        · have hin' : pre.length < (toldL l).length := by omega
          obtain ⟨g, z, hA, hg, hcg, hZ, hzs⟩ := HR.out pre.length hin'
          have hgW : W.cell? ⟨g, pre.length * 19, Option.none⟩ = some (.int .i64 ((toldL l)[pre.length]).1) := (World.cell?_of_block (hkeep g hg)).trans hcg
          by_cases hdd : d = ((toldL l)[pre.length]).1
          · have hdd' : (d != ((toldL l)[pre.length]).1) = false := by simpa using hdd
            obtain ⟨r, hr, hS⟩ := same34_one y ((toldL l)[pre.length]).2
            refine reg17_C lp _ Aw (toldL l).length cw pre.length p5 p8 W0.heap.size d g ((toldL l)[pre.length]).1 W h5W k1.cell (by omega) k1.lt (by omega) (by omega) hin' hA (by omega) hgW hdd' s z r hBx (At.keep hZ hg (fun b hb => hkeep b hb)) ?hsame _ _ _ _ _ _ _ _ _ _ _ _ _ _ _ _ _ _ _ _ _ _ _ _ _ _ _ _ _ _ _ _ _ _ _ _ _ _ _ _ _ _ _ _ _ _ _ _ _ _ _ _ _ _ _ _ _ _ _ _ _ _ _ _ _ _ _ _ _ _ _ _ _ _ _ _ _ _ ?_
            case hsame =>
              intro u p q hu hp hq
              exact hS u u.heap.size u.heap.size _ 1 1 _ 1 1 (LR_one hp hp.lt (IsStR.mono (fun b o hb => by have := hb.lt; have := hu.size; omega) (IsStR.keep (fun b o hb => hu.block b hb.lt) hd)))
                (LR_one hq hq.lt (IsStR.mono (fun b o hb => by have := hu.size; omega) (IsStR.keep (w := wE) (fun b o hb => (hu.block b (by omega)).trans (hkeep b hb)) hzs))) (Nat.le_refl _) (Nat.le_refl _)
            intro w5 p q hb5
            cases r with
            | false =>
              have K45 := K4W.below hb5
              have c45 := K45.cell
              have f45 := K45.free
              have l45 := K45.lt
              gi_wp2_with fail
              exact ⟨kset (KpX.of_below hb5 (by show lo ≤ W.heap.size; omega)) (by omega) _ _, .inl ⟨rfl, pre, _, rfl, fun ⟨h, e⟩ => by
                have := hr (congrArg Prod.snd e)
                cases this⟩⟩
            | true =>
              have hs5 := hb5.size
              have BX5 : BlkN w5 W0.heap.size 58 s.arr := (hb5.block _ hlx).trans hBx
              have K85 := k1.below hb5
              have K75 := K7W.below hb5
              have K35 := K3W.below hb5
              have h56 : Below w5.heap.size w5 (w5.alloc (.cells s.arr 58)) := (Below.refl _ _).alloc (Nat.le_refl _) _
              have hW6 : Below W.heap.size W (w5.alloc (.cells s.arr 58)) := hb5.trans (h56.mono hs5)
              have K86 := K85.below h56
              have K76 := K75.below h56
              have K36 := K35.below h56
              have BN : BlkN (w5.alloc (.cells s.arr 58)) w5.heap.size 58 s.arr := BlkN.at_ rfl _ _
              have SH := shL_of (w := w5.alloc (.cells s.arr 58)) (lo := lo) (l := [y]) (LR_one BN ⟨by omega, _, _, BN⟩ (IsStR.mono (fun b o hb => hb.below hW6) (IsStR.keep (fun b o hb => hW6.block b hb.lt) hd)))
              have SP := Lib.hid (spoil53_any [y] lo _ _ _ (Nat.le_refl _) SH)
              gi_wp2_with (first
                | (refine wpListIn_load 58 (.tmp 10) rfl (by kernel_rfl) ⟨W0.heap.size, 0, Option.none⟩ rfl (.agg s.arr) (run_loadVar_blk Try.underlying58 hi BX5 (by rw [hz1']; rfl)) ?_)
                | (refine wpListIn_buildS 42 1 #[(0, .tmp 55)] rfl (by kernel_rfl) #[(0, .agg s.arr)] rfl _ (buildS42 s w5) ?_)
                | (refine ⟨trivial, ?_⟩; gi_at_call 53; refine (CallsIn.inRound lp (callsIn_wide.2 SP.out)).mono ?_; rintro e w7 ⟨rfl, hsp⟩; have K87 : Blk w7 p8 3 (.int .i64 (pre.length : Nat)) := (hsp.block p8 K86.lt (.inl (by omega))).trans K86; have K77 : Blk w7 p7 3 (.int .i64 (k : Nat)) := (hsp.block p7 K76.lt (.inl (by omega))).trans K76; have K37 : Blk w7 p3 3 (.int .i64 leave) := (hsp.block p3 K36.lt (.inl (by omega))).trans K36; have c87 := K87.cell; have f87 := K87.free; have l87 := K87.lt; have c77 := K77.cell; have c37 := K37.cell; have HSP := Lib.hid hsp; clear hsp))
              all_goals
                have hsp := HSP.out
                have hlen : (((pre ++ [(d, s, y, lo)]).length : Nat) : Int) = (pre.length : Nat) + 1 := by simp
                have hK8' : Blk (w7.setCell ⟨p8, 0, Option.none⟩ (.int .i64 ((pre.length : Nat) + 1))) p8 3 (.int .i64 ((pre ++ [(d, s, y, lo)]).length : Nat)) := by rw [hlen]; exact K87.set _
                have hU : Upd p8 w4 (w7.setCell ⟨p8, 0, Option.none⟩ (.int .i64 ((pre.length : Nat) + 1))) :=
                  Upd.set (w := w7) ⟨hsp.os.trans (hW6.os.trans k2.os), hsp.tape.trans (hW6.tape.trans k2.tape), hsp.output.trans (hW6.output.trans k2.output), Nat.le_trans hWs (Nat.le_trans hW6.size hsp.size), fun q hq hn => (hsp.block q (by have := hW6.size; omega) (.inl (by omega))).trans ((hW6.block q (by omega)).trans (k2.block q hq hn))⟩ _ _
                have hX : KpX w4.heap.size lo W (w7.setCell ⟨p8, 0, Option.none⟩ (.int .i64 ((pre.length : Nat) + 1))) :=
                  kset ⟨hsp.os.trans hW6.os, hsp.tape.trans hW6.tape, hsp.output.trans hW6.output, Nat.le_trans hW6.size hsp.size, fun b _ h2 => (hsp.block b (by have := hW6.size; omega) (.inl h2)).trans (hW6.block b (by omega))⟩ (by omega) _ _
                first
                | exact ⟨hX, hK8', hU⟩
                | exact ⟨hX, .inr ⟨rfl, ‹k = 0›, by rw [hlen]; simpa using ‹(((pre.length : Nat) : Int) + 1 == leave) = true›, hK8', hU⟩⟩
          · have hdd' : (d != ((toldL l)[pre.length]).1) = true := by simpa using hdd
            refine reg17_B lp _ Aw (toldL l).length cw pre.length p5 p8 W0.heap.size d g ((toldL l)[pre.length]).1 W h5W k1.cell (by omega) k1.lt (by omega) (by omega) hin' hA (by omega) hgW hdd' _ _ _ _ _ _ _ _ _ _ _ _ _ _ _ _ _ _ _ _ _ _ _ _ _ _ _ _ _ _ _ _ _ _ _ _ _ _ _ _ _ _ _ _ _ _ _ _ _ _ _ _ _ _ _ _ _ _ _ _ _ _ _ _ _ _ _ _ _ _ _ _ _ _ _ _ _ _ ?_
            intro w5 hb5
            have K45 := K4W.below hb5
            have c45 := K45.cell
            have f45 := K45.free
            have l45 := K45.lt
            gi_wp2_with fail
            exact ⟨kset (KpX.of_below hb5 (by show lo ≤ W.heap.size; omega)) (by omega) _ _, .inl ⟨rfl, pre, _, rfl, fun ⟨h, e⟩ => hdd (congrArg Prod.fst e)⟩⟩
      case done =>
        rintro D xs W hDD hA ⟨k1, k2⟩ hK
        have hxl : xs.length = (toldL l).length := by rw [← hA]; simp
        rw [hxl] at k1
        clear hA hxl
        have hWs := k2.size
        have hkeep : ∀ b, b < wE.heap.size → W.heap[b]? = wE.heap[b]? := fun b hb => (k2.block b (by omega) (by omega)).trans (hE4.block b hb)
        have K3W : Blk W p3 3 (.int .i64 leave) := (hkeep p3 l3).trans H3.out
        have K7W : Blk W p7 3 (.int .i64 (k : Nat)) := (k2.block p7 (by omega) (by omega)).trans B74
        have K5W : Blk W p5 78 (.slice Aw (toldL l).length cw) := (hkeep p5 l5).trans H5.out
        have c3W := K3W.cell
        have c7W := K7W.cell
        have c5W := K5W.cell
        have c8W := k1.cell
        have hKl := (Array.getElem?_eq_some_iff.1 hK).1
        have l7W := K7W.lt
        have HA := Lib.hid k2
        have HKk := Lib.hid hK
        clear hkeep k2 hK
        gi_wp2_with fail
        refine ⟨⟨k + 1, W.heap.size, D :: Ds, _, _, _, _, _, _, _, _, _, _, _, _, _, _, _, _, _, _, _, _, rfl, by omega, by simp [hDl], ?_, by omega, ?_, ?_, ?_⟩, ?_⟩
        · have := Blk.new W 3 (.int .i64 (((k : Nat) : Int) + 1))
          simpa using this
        · have hb1 : Below wE.heap.size wE W := ⟨HA.out.os.trans hE4.os, HA.out.tape.trans hE4.tape, HA.out.output.trans hE4.output, by omega, fun b hb => (HA.out.block b (by omega) (by omega)).trans (hE4.block b hb)⟩
          exact hb1.alloc (by omega) _
        · intro D' hD'
          have hnew : ∀ b, b < W.heap.size → (W.alloc (.cells #[.int .i64 (((k : Nat) : Int) + 1)] 3)).heap[b]? = W.heap[b]? := fun b hb => Below.heap_alloc _ _ _ hb
          rcases List.mem_cons.1 hD' with rfl | hD'
          · exact ⟨by omega, (hnew _ hKl).trans HKk.out⟩
          · obtain ⟨q1, q2, q3⟩ := hD4 D' hD'
            exact ⟨q1, (hnew _ (by omega)).trans ((HA.out.block _ (by omega) (by omega)).trans q3)⟩
        · refine List.Pairwise.cons (fun D' hD' => ?_) hP
          have := hD4 D' hD'
          omega
        · rw [muW_eq (q := ⟨W.heap.size, 0, Option.none⟩) rfl (Blk.new W 3 (.int .i64 (((k : Nat) : Int) + 1))).cell, muW_eq (q := ⟨p7, 0, Option.none⟩) rfl c7]
          omega
      case stop =>
        rintro D c xs W hDD hS hx hK
        rcases hx with ⟨rfl, hb⟩ | ⟨rfl, rfl, hle, k1, k2⟩
        · exact (badW_none hb hS).elim
        · have hl' : (((xs.length : Nat) : Int) != leave) = false := by simp [hle]
          clear hle
          rw [show ((0 : Nat) : Int) = 0 from rfl] at c7 B74
          clear hS
          have hWs := k2.size
          have hkeep : ∀ b, b < wE.heap.size → W.heap[b]? = wE.heap[b]? := fun b hb => (k2.block b (by omega) (by omega)).trans (hE4.block b hb)
          have K3W : Blk W p3 3 (.int .i64 leave) := (hkeep p3 l3).trans H3.out
          have K7W : Blk W p7 3 (.int .i64 0) := (k2.block p7 (by omega) (by omega)).trans B74
          have K5W : Blk W p5 78 (.slice Aw (toldL l).length cw) := (hkeep p5 l5).trans H5.out
          have c3W := K3W.cell
          have c7W := K7W.cell
          have c5W := K5W.cell
          have c8W := k1.cell
          have hKl := (Array.getElem?_eq_some_iff.1 hK).1
          have l7W := K7W.lt
          have HA := Lib.hid k2
          have HKk := Lib.hid hK
          clear hkeep k2 hK
          gi_wp2_with fail
          all_goals
            refine ⟨⟨0 + 1, W.heap.size, D :: Ds, _, _, _, _, _, _, _, _, _, _, _, _, _, _, _, _, _, _, _, _, rfl, by omega, by simp [hDl], ?_, by omega, ?_, ?_, ?_⟩, ?_⟩
            · have := Blk.new W 3 (.int .i64 1)
              simpa using this
            · have hb1 : Below wE.heap.size wE W := ⟨HA.out.os.trans hE4.os, HA.out.tape.trans hE4.tape, HA.out.output.trans hE4.output, by omega, fun b hb => (HA.out.block b (by omega) (by omega)).trans (hE4.block b hb)⟩
              exact hb1.alloc (by omega) _
            · intro D' hD'
              have hnew : ∀ b, b < W.heap.size → (W.alloc (.cells #[.int .i64 1] 3)).heap[b]? = W.heap[b]? := fun b hb => Below.heap_alloc _ _ _ hb
              rcases List.mem_cons.1 hD' with rfl | hD'
              · exact ⟨by omega, (hnew _ hKl).trans HKk.out⟩
              · obtain ⟨q1, q2, q3⟩ := hD4 D' hD'
                exact ⟨q1, (hnew _ (by omega)).trans ((HA.out.block _ (by omega) (by omega)).trans q3)⟩
            · refine List.Pairwise.cons (fun D' hD' => ?_) hP
              have := hD4 D' hD'
              omega
            · rw [muW_eq (q := ⟨W.heap.size, 0, Option.none⟩) rfl (Blk.new W 3 (.int .i64 1)).cell, muW_eq (q := ⟨p7, 0, Option.none⟩) rfl c7]
              omega
    · obtain rfl : k = 2 := by omega
      rw [show ((2 : Nat) : Int) = 2 from rfl] at c7
      have K4 := H4.out.below hbE
      have C17 := Lib.hid fun w' => lives_any w'
      obtain ⟨D2, D1, rfl⟩ : ∃ D2 D1, Ds = [D2, D1] := by
        match Ds, hDl with
        | [D2, D1], _ => exact ⟨D2, D1, rfl⟩
      have hD2 := hD D2 (by simp)
      have hD1 := hD D1 (by simp)
      have hne : D2 ≠ D1 := by simpa using hP
      gi_wp2_with (first
        | (refine ⟨trivial, ?_⟩; gi_at_call 17; refine (callsIn_wide.2 (C17.out _)).mono ?_; rintro e w9 ⟨rfl, hb9⟩; have K49 := K4.below hb9; have c49 := K49.cell; have f49 := K49.free; have l49 := K49.lt))
      have hK10 := (KeepsOthers.setCell w9 ⟨p4, 0, Option.none⟩ (.bool true)).same D2 _ ((hb9.block D2 (Array.getElem?_eq_some_iff.1 hD2.2).1).trans hD2.2) rfl
      have hK11 := (KeepsOthers.setCell w9 ⟨p4, 0, Option.none⟩ (.bool true)).same D1 _ ((hb9.block D1 (Array.getElem?_eq_some_iff.1 hD1.2).1).trans hD1.2) rfl
      have hK12 := (World.putObj_heap_other (o := .deferred Option.none) (fun e => hne e.symm)).trans hK11
      have hW9 : Below w00.heap.size w00 w9 := (H0.out.trans (hbE.mono (by omega))).trans (hb9.mono (by omega))
      have hW10 : Below w00.heap.size w00 (w9.setCell ⟨p4, 0, Option.none⟩ (.bool true)) := hW9.setCell (by simp; omega) _
      have hbz : (((w9.setCell ⟨p4, 0, Option.none⟩ (.bool true)).putObj D2 (.deferred Option.none)).putObj D1 (.deferred Option.none)).cell? ⟨p4, 0, Option.none⟩ = some (.bool true) :=
        Blk.cell (T := 4) ((World.putObj_heap_other (by have := hD1.1; omega)).trans ((World.putObj_heap_other (by have := hD2.1; omega)).trans (K49.set (.bool true))))
      have hBz : Below w00.heap.size w00 (((w9.setCell ⟨p4, 0, Option.none⟩ (.bool true)).putObj D2 (.deferred Option.none)).putObj D1 (.deferred Option.none)) :=
        (hW10.trans (belowK_b (w := w00) (Nat.le_refl _) _ D2 _ _ (by have := hD2.1; omega) hK10 rfl rfl)).trans (belowK_b (w := w00) (Nat.le_refl _) _ D1 _ _ (by have := hD1.1; omega) hK12 rfl rfl)
      exact ⟨by simp, .inl ⟨_, _, rfl, run_takeDeferred hK10, ⟨by simp, .inl ⟨_, _, rfl, run_takeDeferred hK12, ⟨_, by simp only [results]; simp [go_sem, hbz], rfl, hBz⟩⟩⟩⟩⟩
end Go.Proofs.Ytnknefdpglnbnaa
namespace Go.Proofs.Ytnknefdpglnbnaa
open Go Go.RowKit Go.Told
theorem rows_toldL (l : List St) (hz : (chkL l).2 = 0) : (rowsX l).map (fun r => (r.1, r.2.2)) = toldL l := by
  have h := flatsI_flats l 0 false
  have hl := chk_zero _ 0 (by omega) hz
  have he := congrArg List.length h
  simp only [List.length_map] at he hl
  unfold rowsX toldL
  rw [if_pos hz, List.take_of_length_le (by omega), h]
theorem rowsAt_of {l : List St} {w : World} {B lo : Nat} {A : Option Addr} {cap : Nat} {xs : List Value} (hz : (chkL l).2 = 0) (h : GRow RdW 84 19 w B lo (.slice A (toldL l).length cap) (rowsX l) xs) : RowsAt l A w := by
  intro i hi
  have hr := rows_toldL l hz
  have hlen : (rowsX l).length = (toldL l).length := by rw [← hr]; simp
  obtain ⟨A1, cap1, he, _, hne⟩ := h.list
  injection he with e1 e2 e3
  subst e1
  obtain ⟨g, hg, hA, hall⟩ := hne (by intro hn; rw [hn] at hlen; simp at hlen; omega)
  obtain ⟨cs, hcs, hat, s, hcs2, hst⟩ := hall i (by omega)
  rw [hcs2] at hat
  have hk : (toldL l)[i] = (((rowsX l)[i]'(by omega)).1, ((rowsX l)[i]'(by omega)).2.2) := by
    have := congrArg (fun L => L[i]?) hr
    simp only [List.getElem?_map] at this
    rw [List.getElem?_eq_getElem (by omega), List.getElem?_eq_getElem hi] at this
    simpa using this.symm
  have hat2 := hat.tail.tail
  rw [show 0 + i * 19 + 1 + 1 = i * 19 + 2 by omega] at hat2
  have h0 := hat 0 _ rfl
  rw [Nat.zero_add, Nat.add_zero] at h0
  rw [hk]
  exact ⟨g, s, hA, hg.2, h0, hat2, IsStR.mono (fun b o hr => hr.2) hst⟩
attribute [local irreducible] wpList wpListIn
set_option maxRecDepth 100000 in
set_option maxHeartbeats 2000000 in
theorem walks_walk (l : List St) (A : Option Addr) (len cap : Nat) (leave : Int) (w : World) (h : LR (fun b _ => b < w.heap.size) 256 A len cap l (fun b o => IsSts w w.heap.size b o l)) :
    Calls Try.prog 11 #[.slice A len cap, .int .i64 leave] w fun e w' => e = .returned (.bool true) ∧ Below w.heap.size w w' := by
  have hlen := h.1
  subst hlen
  have HL := Lib.hid h
  have KL := Lib.hid (fun w' (hb : Below w.heap.size w w') => (HL.out.imp fun b o hr hp => ⟨hr, IsSts.keep (fun b hb' => hb.block b hb') hr hp⟩ : LR (fun b _ => b < w.heap.size) 256 A l.length cap l (fun b o => IsSts w' w.heap.size b o l)))
  clear h
  refine (callsIn_wide (n := 9)).1 ?_
  refine callsIn_of_wp_marks Try.func11 rfl trivial ?_ rfl
  simp only [Try.ntmps11, List.size_toArray, List.length_cons, List.length_nil, Nat.reduceAdd, Nat.reduceSub, Array.replicate_succ, Array.replicate_zero, List.push_toArray, List.append_toArray, List.nil_append, List.cons_append]
  refine wpIn_wide.2 ?_
  go_upto_region 4 with (go_at_call 17; refine (lives_any _).mono ?_; rintro e w1 ⟨rfl, hb1⟩)
  rename_i Ka hKa Kb hKb
  have main : ∀ (A0 Aw : Option Addr) (cap0 cw : Nat) (x13 x14 x15 x16 x17 x18 : Value) (wS : World), Below w.heap.size w wS → Blk wS w.heap.size 3 (.int .i64 leave) → Blk wS (w.heap.size + 1) 4 (.bool false) → Blk wS w1.heap.size 78 (.slice Aw (toldL l).length cw) → RowsAt l Aw wS →
      LR (fun b _ => b < wS.heap.size) 256 A0 l.length cap0 l (fun b o => IsSts wS wS.heap.size b o l) → Ka ⟨#[.slice A0 l.length cap0, .int .i64 leave, undef, .pointer (some ⟨w.heap.size, 0, Option.none⟩), .pointer (some ⟨w.heap.size + 1, 0, Option.none⟩), .pointer (some ⟨w1.heap.size, 0, Option.none⟩), undef, undef, undef, undef, undef, .bool true, .bool false, x13, x14, x15, x16, x17, x18, undef, undef, undef, undef, undef, undef, undef, undef, undef, undef, undef, undef, undef, undef, undef, undef, undef, undef, undef, undef, undef, undef, undef, undef, undef, undef, undef, undef, undef, undef, undef, undef, undef, undef, undef, undef, undef, undef, undef, undef, undef, undef, undef, undef, undef, undef, undef, undef, undef, undef, undef, undef, undef, undef, undef, undef, undef, undef, undef, undef, undef, undef, undef], []⟩ wS :=
    fun A0 Aw cap0 cw x13 x14 x15 x16 x17 x18 wS k1 k2 k3 k4 k5 k6 => hKa _ _ (wpIn_wide.1 (walks_rest l A0 Aw cap0 cw _ _ _ leave x13 x14 x15 x16 x17 x18 w wS k1 k2 k3 k4 (by omega) k5 k6))
  clear hKa
  have HMain := Lib.hid main
  clear main
  have hs1 : w.heap.size + 2 ≤ w1.heap.size := by have := hb1.size; simp only [World.size_alloc] at this; exact this
  have hW1 : Below w.heap.size w w1 := (((Below.refl _ w).alloc (Nat.le_refl _) _).alloc (by simp) _).trans (hb1.mono (by simp; omega))
  have h31 : Blk w1 w.heap.size 3 (.int .i64 leave) := ((Blk.at_ rfl _ _).alloc _).below hb1
  have h41 : Blk w1 (w.heap.size + 1) 4 (.bool false) := (Blk.at_ (by simp) _ _).below hb1
  obtain ⟨w2, hw2⟩ : ∃ w2, w2 = w1.alloc (.cells #[.slice Option.none 0 0] 78) := ⟨_, rfl⟩
  rw [← hw2]
  have h12 : Below w1.heap.size w1 w2 := by rw [hw2]; exact (Below.refl _ _).alloc (Nat.le_refl _) _
  have h52 : Blk w2 w1.heap.size 78 (.slice Option.none 0 0) := by rw [hw2]; exact Blk.at_ rfl _ _
  have hW2 := hW1.trans (h12.mono (by omega))
  have h32 := h31.below h12
  have h42 := h41.below h12
  have hs2 := hW2.size
  clear hw2 hb1
  have C31 := Lib.hid (May31_any l A l.length cap w2 w.heap.size hW2.size (KL.out _ hW2))
  by_cases hz : (chkL l).2 = 0
  · rw [hz] at C31
    have hT : (rowsX l).length = (toldL l).length := by rw [← rows_toldL l hz]; simp
    go_wp2_with (first
      | (go_at_call 31; refine C31.out.mono ?_; rintro e w3 ⟨rfl, hb3⟩; have hs3 := hb3.size; have hW3 := hW2.trans (hb3.mono hs2); have h53 := h52.below hb3; have c53 := h53.cell; have f53 := h53.free; have l53 := h53.lt)
      | (go_at_call 51; refine (Walk51_any l A l.length cap w3 w.heap.size hW3.size (KL.out _ hW3)).mono ?_; rintro e w4 ⟨sl, xs, rfl, hrow, hb4⟩; obtain ⟨A1, cap1, rfl, hcap1, hne⟩ := hrow.list; have hs4 := hb4.size; have h54 := h53.below hb4; have c54 := h54.cell; have f54 := h54.free; have l54 := h54.lt; rw [hT] at hrow ⊢; have HROW := Lib.hid hrow; clear hne hrow)
      | (go_at_call 27; refine (own27_any l A l.length cap _ w.heap.size (by simp [World.setCell]; omega) (KL.out _ ((hW3.trans (hb4.mono hW3.size)).setCell (by simp; omega) _))).mono ?_; rintro e w5 ⟨A5, cap5, rfl, hl5, hb5⟩; have HL5 := Lib.hid hl5; clear hl5))
    have hW5 : Below w.heap.size w w5 := ((hW3.trans (hb4.mono hW3.size)).setCell (by simp; omega) _).trans (hb5.mono (by simp [World.setCell]; omega))
    have hrow5 := (HROW.out.upd ((Upd.refl w1.heap.size w4).set 0 (.slice A1 (toldL l).length cap1)) (by omega) (by omega)).below hb5
    refine HMain.out A5 A1 cap5 cap1 _ _ _ _ _ _ w5 hW5 ((((h32.below hb3).below hb4).setOther (by simp; omega) _).below hb5) ((((h42.below hb3).below hb4).setOther (by simp; omega) _).below hb5) ((h54.set _).below hb5) (rowsAt_of hz hrow5) ?_
    exact HL5.out.imp fun b o hr hp => ⟨hr.lt, IsStsR.mono (fun b o hb => hb.lt) hp⟩
  · obtain ⟨z, hzz⟩ : ∃ z, z = (chkL l).2 := ⟨_, rfl⟩
    rw [← hzz] at C31
    have hne : ((z : Int) == 0) = false := by simp; omega
    have hT : toldL l = [] := by unfold toldL; rw [if_neg hz]
    clear hz hzz
    go_wp2_with (go_at_call 31; refine C31.out.mono ?_; rintro e w3 ⟨rfl, hb3⟩)
    have hs3 := hb3.size
    have hW3 := hW2.trans (hb3.mono hs2)
    refine HMain.out A Option.none cap 0 _ _ _ _ _ _ w3 hW3 (h32.below hb3) (h42.below hb3) (by rw [hT]; exact h52.below hb3) (fun i hi => by rw [hT] at hi; simp at hi) ?_
    exact (KL.out _ hW3).imp fun b o hr hp => ⟨by omega, IsStsR.mono (fun b o hb => by omega) hp⟩
end Go.Proofs.Ytnknefdpglnbnaa
