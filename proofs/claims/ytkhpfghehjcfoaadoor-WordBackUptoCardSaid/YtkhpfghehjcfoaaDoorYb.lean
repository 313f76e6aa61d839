/- The statement WordReads: any text is read as a value, or told how far it goes well, as the document says; asked again it is the same. No conditions. -/
import Derived.Test.YtkhpfghehjcfoaaDoorT
import Derived.Test.YtkhpfghehjcfoaaDoorVe
import Derived.Test.YtkhpfghehjcfoaaDoorWa
import Derived.Test.YtkhpfghehjcfoaaDoorX
namespace Go.Proofs.YtkhpfghehjcfoaaDoor
open Go.ChangeShapes Go.WideShapes Go.ChangeAt Go.RowKit

/-- What Read answers. -/
def readX (s : ByteArray) : Va × Int × Int := match readL s.data.toList with
  | .ok x _ => (x, 0, 0)
  | .no t => (zeroVa, ((s.size - t.length : Nat) : Int), 30)
theorem ReadP.x {s : ByteArray} {n : Nat} {e : Ending} {w : World} (h : ReadP s n e w) : ∃ k n0 t A len cap r, e = .returned (.tuple #[.agg #[.int .u8 k, .int .i64 n0, .string t, .slice A len cap, .int .i64 r], .int .i64 (readX s).2.1, .int .i64 (readX s).2.2]) ∧ IsVaR w (Own34 w n) (.agg #[.int .u8 k, .int .i64 n0, .string t, .slice A len cap, .int .i64 r]) (readX s).1 := by
  unfold ReadP at h
  unfold readX
  cases hL : readL s.data.toList with
  | no t =>
    rw [hL] at h
    exact ⟨_, _, _, _, _, _, _, h, IsVaR.zero _ _⟩
  | ok x t =>
    rw [hL] at h
    obtain ⟨v, rfl, hv⟩ := h
    obtain ⟨k, n0, t, A, len, cap, r, rfl⟩ := hv.shape
    exact ⟨_, _, _, _, _, _, _, rfl, hv⟩
set_option maxRecDepth 100000 in
set_option maxHeartbeats 4000000 in
theorem reads_law (s : ByteArray) (hs : s.size ≤ 140737488351232) (w : World) (hv : Vars w) : Calls Tryd.prog 3 #[.string s] w fun e w' => e = .returned (.bool true) ∧ Below w.heap.size w w' := by
  obtain ⟨X, at_, er, hX⟩ : ∃ X a e, readX s = (X, a, e) := ⟨_, _, _, rfl⟩
  have C12 : Hid (∀ w', Calls Tryd.prog 12 #[.string s] w' fun e w2 => Below w'.heap.size w' w2 ∧ ∃ k n t A len cap r, e = .returned (.tuple #[.agg #[.int .u8 k, .int .i64 n, .string t, .slice A len cap, .int .i64 r], .int .i64 at_, .int .i64 er]) ∧ IsVaR w2 (Own34 w2 w'.heap.size) (.agg #[.int .u8 k, .int .i64 n, .string t, .slice A len cap, .int .i64 r]) X) :=
    Lib.hid (fun w' => (read_any s hs w').mono fun e w2 h => ⟨h.1, by have := h.2.x; rw [hX] at this; exact this⟩)
  have C13 : Hid (∀ w', Calls Tryd.prog 13 #[.string s] w' fun e w2 => Below w'.heap.size w' w2 ∧ ∃ k n t A len cap r, e = .returned (.tuple #[.agg #[.int .u8 k, .int .i64 n, .string t, .slice A len cap, .int .i64 r], .int .i64 at_, .int .i64 er]) ∧ IsVaR w2 (Own34 w2 w'.heap.size) (.agg #[.int .u8 k, .int .i64 n, .string t, .slice A len cap, .int .i64 r]) X) :=
    Lib.hid (fun w' => (rread_any s hs w').mono fun e w2 h => ⟨h.1, by have := h.2.x; rw [hX] at this; exact this⟩)
  clear hX
  have HV := Lib.hid hv
  clear hv
  go_enter Tryd.func3, Tryd.ntmps3
  go_upto_region 2 with (first | (go_at_call 12; refine (C12.out _).mono ?_; rintro e w1 ⟨hb1, k1, n1, s1, A1, len1, cap1, r1, rfl, hx1⟩; have HB1 := Lib.hid hb1; have HX1 := Lib.hid hx1; clear hb1 hx1))
  obtain ⟨X1, hX1⟩ : ∃ X, X = w1.alloc (.cells #[.int .u8 k1, .int .i64 n1, .string s1, .slice A1 len1 cap1, .int .i64 r1] 26) := ⟨_, rfl⟩
  have HC1 : Hid (BlkN X1 w1.heap.size 26 #[.int .u8 k1, .int .i64 n1, .string s1, .slice A1 len1 cap1, .int .i64 r1]) := Lib.hid (by rw [hX1]; exact BlkN.at_ rfl _ _)
  have HL1 : Hid (Below w1.heap.size w1 X1) := Lib.hid (by rw [hX1]; exact (Below.refl _ _).alloc (Nat.le_refl _) _)
  rw [← hX1]
  clear hX1
  have hz1 := HC1.out.lt
  go_upto_region 3 with (first | (go_at_call 12; refine (C12.out _).mono ?_; rintro e w2 ⟨hb2, k2, n2, s2, A2, len2, cap2, r2, rfl, hx2⟩; have HB2 := Lib.hid hb2; have HX2 := Lib.hid hx2; clear hb2 hx2))
  obtain ⟨X2, hX2⟩ : ∃ X, X = w2.alloc (.cells #[.int .u8 k2, .int .i64 n2, .string s2, .slice A2 len2 cap2, .int .i64 r2] 26) := ⟨_, rfl⟩
  have HC2 : Hid (BlkN X2 w2.heap.size 26 #[.int .u8 k2, .int .i64 n2, .string s2, .slice A2 len2 cap2, .int .i64 r2]) := Lib.hid (by rw [hX2]; exact BlkN.at_ rfl _ _)
  have HL2 : Hid (Below w2.heap.size w2 X2) := Lib.hid (by rw [hX2]; exact (Below.refl _ _).alloc (Nat.le_refl _) _)
  rw [← hX2]
  clear hX2
  have hz2 := HC2.out.lt
  go_upto_region 4 with (first | (go_at_call 13; refine (C13.out _).mono ?_; rintro e w3 ⟨hb3, k3, n3, s3, A3, len3, cap3, r3, rfl, hx3⟩; have HB3 := Lib.hid hb3; have HX3 := Lib.hid hx3; clear hb3 hx3))
  obtain ⟨X3, hX3⟩ : ∃ X, X = w3.alloc (.cells #[.int .u8 k3, .int .i64 n3, .string s3, .slice A3 len3 cap3, .int .i64 r3] 26) := ⟨_, rfl⟩
  have HC3 : Hid (BlkN X3 w3.heap.size 26 #[.int .u8 k3, .int .i64 n3, .string s3, .slice A3 len3 cap3, .int .i64 r3]) := Lib.hid (by rw [hX3]; exact BlkN.at_ rfl _ _)
  have HL3 : Hid (Below w3.heap.size w3 X3) := Lib.hid (by rw [hX3]; exact (Below.refl _ _).alloc (Nat.le_refl _) _)
  rw [← hX3]
  clear hX3
  have hz3 := HC3.out.lt
  have HK2 : Hid (Below X1.heap.size X1 X3) := Lib.hid (bnext HB2.out (bnext HL2.out (bnext HB3.out HL3.out)))
  have HK1 : Hid (Below w1.heap.size w1 X3) := Lib.hid (bnext HL1.out HK2.out)
  have HK3 : Hid (Below w2.heap.size w2 X3) := Lib.hid (bnext HL2.out (bnext HB3.out HL3.out))
  have HK0 : Hid (Below w.heap.size w X3) := Lib.hid (bnext HB1.out HK1.out)
  have C14 : Hid (Calls Tryd.prog 14 #[.agg #[.int .u8 k1, .int .i64 n1, .string s1, .slice A1 len1 cap1, .int .i64 r1], .agg #[.int .u8 k2, .int .i64 n2, .string s2, .slice A2 len2 cap2, .int .i64 r2], .agg #[.int .u8 k3, .int .i64 n3, .string s3, .slice A3 len3 cap3, .int .i64 r3]] X3 fun e w' => e = .returned (.bool true) ∧ Below w.heap.size X3 w') := Lib.hid (same_any X X3 w.heap.size X1.heap.size _ _ _
    (((HX1.out.mono (R' := fun b o => RW X3 w.heap.size X1.heap.size b o ∧ b < w1.heap.size) fun b o h => by
      have hl := h.lt
      obtain ⟨h1, h2, cur, h3⟩ := h
      exact ⟨⟨h1, by have := HL1.out.size; omega, h2, cur, h3.below HK1.out⟩, hl⟩).keep fun b o h => HK1.out.block b h.2).mono fun b o h => h.1)
    ((HX2.out.below HK3.out).mono fun b o h => ⟨h.1, h.lt⟩)
    ((HX3.out.below HL3.out).mono fun b o h => ⟨by have := h.1; have := HB2.out.size; have := HL2.out.size; omega, h.lt⟩)
    (by have := HB1.out.size; omega) HK2.out.size)
  have g1 := HC1.out.below HK2.out
  have g2 := HC2.out.below (bnext HB3.out HL3.out)
  have g3 := HC3.out
  have l1 := g1.lt
  have l2 := g2.lt
  have d10 := g1.cell 0 rfl
  have d11 := g1.cell 1 rfl
  have d12 := g1.cell 2 rfl
  have d13 := g1.cell 3 rfl
  have d14 := g1.cell 4 rfl
  have d20 := g2.cell 0 rfl
  have d21 := g2.cell 1 rfl
  have d22 := g2.cell 2 rfl
  have d23 := g2.cell 3 rfl
  have d24 := g2.cell 4 rfl
  have d30 := g3.cell 0 rfl
  have d31 := g3.cell 1 rfl
  have d32 := g3.cell 2 rfl
  have d33 := g3.cell 3 rfl
  have d34 := g3.cell 4 rfl
  clear g1 g2 g3 C12 C13
  go_wp2_with (first | (go_at_call 14; refine C14.out.mono ?_; rintro e w4 ⟨rfl, hb4⟩; have HB4 := Lib.hid hb4; clear hb4) | (go_at_call 15; refine (awake_any _ (HV.out.on (HK0.out.trans HB4.out))).mono ?_; rintro e w5 ⟨rfl, hb5⟩))
  go_ret
  exact ⟨rfl, bnext (HK0.out.trans HB4.out) hb5⟩
theorem wordReads_reads (os : Os) {H : Type} (enc : TypeId × Value → H) : ∃ places, DataW.whole enc Tryd.prog ((World.doorLaid Tryd.prog 4000 os).forCall (fun _ _ => 0) ⟨#[], #[.string ⟨#[]⟩], []⟩).memory Tryd.f3.params.toList Rows.wordReadsSpec.vars false (#[.string ⟨#[]⟩] : Array Value).toList 8 = some ([.lit (.string [])], [], places) :=
  ⟨[], by kernel_rfl⟩
set_option maxRecDepth 100000 in
theorem wordReads_lifted (os : Os) (started : os.Started) (H : Type) (enc : TypeId × Value → H) (F : Stop.Interp) :
    ReturnsInHanded {} Tryd.checked os 3 .any ((OpenSpec.ofChange Rows.wordReadsSpec).preRow enc Tryd.prog Tryd.f3 Rows.wordReadsRow.domain false Rows.wordReadsRow.laid) (((OpenSpec.ofChange Rows.wordReadsSpec).at F).post enc Tryd.prog Tryd.f3 false true false false) := by
  obtain ⟨places, hx⟩ := wordReads_reads os enc
  refine returnsInHanded_of_row (C := Tryd.checked) (s := OpenSpec.ofChange Rows.wordReadsSpec) own started (by kernel_rfl) Tryd.func3
    (witness_row_atRef (enc := enc) (C := Tryd.checked) false (World.doorLaid Tryd.prog 4000 os) #[.string ⟨#[]⟩] rfl (by kernel_rfl) (by kernel_rfl) (by kernel_rfl)
      (OpenSpec.preRow_of_cond 8 hx (by kernel_rfl) (fun k hk => by cases hk) (by kernel_rfl) (laidRun_met os _))) ?_
  intro W base args ds gs before hval hW _ hcond hsz hL _ _
  have hv := vars_of_laid hL
  refine LawRow.law_contract (tb := 4) (fn := Tryd.f3) (s := Rows.wordReadsSpec) (by kernel_rfl) (by kernel_rfl) rfl rfl Tryd.underlying4 (fun ds h => ?_) hW (fun p hA0 hlt hgs => ?_)
  · match ds, h with
    | [_], _ => rfl
  · have hA : DataW.TrodAll enc Tryd.prog W 0 (fun _ => true) true Tryd.f3.params.toList args.toList ds p := hA0
    subst hgs
    rw [Tryd.params3] at hA hval
    obtain ⟨v, d, rfl, rfl, hd⟩ := trodAll_one hA
    obtain ⟨s, rfl, hs⟩ := open_arg9 (hval 0 9 v rfl rfl) hd hsz
    exact reads_law s hs W hv
theorem wordReads_holds : Rows.WordReadsSaid :=
  OpenClaim.holds_of_cond 3 Tryd.f3 rfl rfl rfl rfl rfl rfl rfl ⟨rfl, rfl, rfl, rfl, rfl⟩ rfl rfl rfl rfl rfl (by kernel_rfl) Tryd.func3 (by kernel_rfl)
    (of_decide_eq_true (by kernel_rfl)) (by unfold Func.isWrapper; first | (rw [if_pos (by decide +kernel)]; kernel_rfl) | (rw [if_neg (by decide +kernel)]; exact ⟨rfl, rfl⟩))
    (fun os started H enc _ F => by rw [OpenClaim.pre_eq_preRow]; exact wordReads_lifted os started H enc F)
theorem wordReads_plain (f : FuncId) (fn : Func) (hf : Tryd.pinned.checked.prog.funcNamed "postern/posternlaw03.WordReads" = some f) (hfn : Tryd.pinned.checked.prog.funcs[f]? = some fn) :
    true = Tryd.pinned.checked.prog.looks [] ∧ ∀ (j : Nat) t, fn.params[j]? = some t → Tryd.pinned.checked.prog.wantsStandIn t = false := by
  obtain rfl : f = 3 := Option.some.inj ((show Tryd.prog.funcNamed "postern/posternlaw03.WordReads" = some 3 by kernel_rfl).symm.trans hf) |>.symm
  obtain rfl : fn = Tryd.f3 := (Option.some.inj (Tryd.func3.symm.trans hfn)).symm
  refine ⟨by kernel_rfl, fun j t ht => ?_⟩
  have hall : (Tryd.f3.params.toList.all fun u => !Tryd.prog.wantsStandIn u) = true := by kernel_rfl
  have hm : t ∈ Tryd.f3.params.toList := by simpa using Array.mem_of_getElem? ht
  exact (show Tryd.prog.wantsStandIn t = false by simpa using List.all_eq_true.1 hall t hm)
theorem wordReads_card : Rows.WordReadsCardSaid :=
  Claim7.holds_tied_plain_at .later [] _ _ _ _ wordReads_holds (fun _ h => by cases h) (by kernel_rfl) (fun _ h => by cases h) wordReads_row_tie rfl ⟨rfl, rfl⟩ (by kernel_rfl) rfl wordReads_plain (by kernel_rfl)
end Go.Proofs.YtkhpfghehjcfoaaDoor
