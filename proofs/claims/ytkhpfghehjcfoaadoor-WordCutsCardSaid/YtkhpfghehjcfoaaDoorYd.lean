/- The statement WordCuts: any line is cut into the tokens that the document says, or told where it goes wrong; asked again it is the same. No conditions. -/
import Derived.Test.YtkhpfghehjcfoaaDoorT
import Derived.Test.YtkhpfghehjcfoaaDoorXd
import Derived.Test.YtkhpfghehjcfoaaDoorXe
import Derived.Test.YtkhpfghehjcfoaaDoorX
namespace Go.Proofs.YtkhpfghehjcfoaaDoor
open Go.ChangeShapes Go.WideShapes Go.ChangeAt Go.RowKit

/-- What Cut answers. -/
def cutX (s : ByteArray) : List Tk × Int × Int := if 1048576 < s.size then ([], 0, 4) else match cutR s with
  | .ok l _ => (l, 0, 0)
  | .no t => ([], ((s.size - t.length : Nat) : Int), 30)
theorem CutP.x {s : ByteArray} {n : Nat} {e : Ending} {w : World} (h : CutP s n e w) : ∃ A cap, e = .returned (.tuple #[.slice A (cutX s).1.length cap, .int .i64 (cutX s).2.1, .int .i64 (cutX s).2.2]) ∧ TRow w n (.slice A (cutX s).1.length cap) (cutX s).1 := by
  unfold CutP at h
  unfold cutX
  by_cases hl : 1048576 < s.size
  · rw [if_pos hl] at h ⊢
    exact ⟨_, _, h, TRow.nil _ _⟩
  · rw [if_neg hl] at h ⊢
    cases hL : cutR s with
    | no t =>
      rw [hL] at h
      exact ⟨_, _, h, TRow.nil _ _⟩
    | ok x t =>
      rw [hL] at h
      obtain ⟨v, rfl, hv⟩ := h
      obtain ⟨A, cap, rfl, _⟩ := hv.slice
      exact ⟨_, _, rfl, hv⟩
theorem cutX_len (s : ByteArray) : (cutX s).1.length ≤ 1048577 := by
  unfold cutX
  by_cases hl : 1048576 < s.size
  · rw [if_pos hl]; simp
  · rw [if_neg hl]
    cases hL : cutR s with
    | no t => simp
    | ok x t =>
      have := cutL_len _ _ _ _ _ _ _ hL
      simp at this ⊢
      omega
set_option maxRecDepth 100000 in
set_option maxHeartbeats 4000000 in
theorem cuts_law (s : ByteArray) (hs : s.size ≤ 140737488351232) (w : World) (hv : Vars w) : Calls Tryd.prog 5 #[.string s] w fun e w' => e = .returned (.bool true) ∧ Below w.heap.size w w' := by
  have hlen := cutX_len s
  obtain ⟨X, at_, er, hX⟩ : ∃ X a e, cutX s = (X, a, e) := ⟨_, _, _, rfl⟩
  rw [hX] at hlen
  have hlen : X.length ≤ 1048577 := hlen
  obtain ⟨tp, q, hq⟩ := hv.err
  have C20 : Hid (∀ w', Below w.heap.size w w' → Calls Tryd.prog 20 #[.string s] w' fun e w2 => Below w'.heap.size w' w2 ∧ ∃ A cap, e = .returned (.tuple #[.slice A X.length cap, .int .i64 at_, .int .i64 er]) ∧ TRow w2 w'.heap.size (.slice A X.length cap) X) :=
    Lib.hid (fun w' hb => (cut_any s hs w' tp q (varB hq hb)).mono fun e w2 h => ⟨h.1, by have := h.2.x; rw [hX] at this; exact this⟩)
  have C21 : Hid (∀ w', Calls Tryd.prog 21 #[.string s] w' fun e w2 => Below w'.heap.size w' w2 ∧ ∃ A cap, e = .returned (.tuple #[.slice A X.length cap, .int .i64 at_, .int .i64 er]) ∧ TRow w2 w'.heap.size (.slice A X.length cap) X) :=
    Lib.hid (fun w' => (rcut_any s hs w').mono fun e w2 h => ⟨h.1, by have := h.2.x; rw [hX] at this; exact this⟩)
  clear hX hq
  have HV := Lib.hid hv
  clear hv
  go_enter Tryd.func5, Tryd.ntmps5
  go_upto_region 2 with (first | (go_at_call 20; refine (C20.out _ (Below.refl _ _)).mono ?_; rintro e w1 ⟨hb1, A1, cap1, rfl, hx1⟩; have HB1 := Lib.hid hb1; have HX1 := Lib.hid hx1; clear hb1 hx1))
  go_upto_region 3 with (first | (go_at_call 20; refine (C20.out _ HB1.out).mono ?_; rintro e w2 ⟨hb2, A2, cap2, rfl, hx2⟩; have HB2 := Lib.hid hb2; have HX2 := Lib.hid hx2; clear hb2 hx2))
  go_upto_region 4 with (first | (go_at_call 21; refine (C21.out _).mono ?_; rintro e w3 ⟨hb3, A3, cap3, rfl, hx3⟩; have HB3 := Lib.hid hb3; have HX3 := Lib.hid hx3; clear hb3 hx3))
  have HK0 : Hid (Below w.heap.size w w3) := Lib.hid (bnext HB1.out (bnext HB2.out HB3.out))
  have C22 : Hid (Calls Tryd.prog 22 #[.slice A1 X.length cap1, .slice A2 X.length cap2, .slice A3 X.length cap3] w3 fun e w' => e = .returned (.bool true) ∧ Below w.heap.size w3 w') := Lib.hid (tokens_any X (by omega) w3 w.heap.size w1.heap.size _ _ _ (HX1.out.below (bnext HB2.out HB3.out)) (fun g hg => (HX1.out.blk hg).2) (HX2.out.below HB3.out) (HX3.out.low HB2.out.size) HB1.out.size (Nat.le_trans HB2.out.size HB3.out.size))
  clear C20 C21
  go_wp2_with (first | (go_at_call 22; refine C22.out.mono ?_; rintro e w4 ⟨rfl, hb4⟩; have HB4 := Lib.hid hb4; clear hb4) | (go_at_call 15; refine (awake_any _ (HV.out.on (HK0.out.trans HB4.out))).mono ?_; rintro e w5 ⟨rfl, hb5⟩))
  go_ret
  exact ⟨rfl, bnext (HK0.out.trans HB4.out) hb5⟩
theorem wordCuts_reads (os : Os) {H : Type} (enc : TypeId × Value → H) : ∃ places, DataW.whole enc Tryd.prog ((World.doorLaid Tryd.prog 4000 os).forCall (fun _ _ => 0) ⟨#[], #[.string ⟨#[]⟩], []⟩).memory Tryd.f5.params.toList Rows.wordCutsSpec.vars false (#[.string ⟨#[]⟩] : Array Value).toList 8 = some ([.lit (.string [])], [], places) :=
  ⟨[], by kernel_rfl⟩
set_option maxRecDepth 100000 in
theorem wordCuts_lifted (os : Os) (started : os.Started) (H : Type) (enc : TypeId × Value → H) (F : Stop.Interp) :
    ReturnsInHanded {} Tryd.checked os 5 .any ((OpenSpec.ofChange Rows.wordCutsSpec).preRow enc Tryd.prog Tryd.f5 Rows.wordCutsRow.domain false Rows.wordCutsRow.laid) (((OpenSpec.ofChange Rows.wordCutsSpec).at F).post enc Tryd.prog Tryd.f5 false true false false) := by
  obtain ⟨places, hx⟩ := wordCuts_reads os enc
  refine returnsInHanded_of_row (C := Tryd.checked) (s := OpenSpec.ofChange Rows.wordCutsSpec) own started (by kernel_rfl) Tryd.func5
    (witness_row_atRef (enc := enc) (C := Tryd.checked) false (World.doorLaid Tryd.prog 4000 os) #[.string ⟨#[]⟩] rfl (by kernel_rfl) (by kernel_rfl) (by kernel_rfl)
      (OpenSpec.preRow_of_cond 8 hx (by kernel_rfl) (fun k hk => by cases hk) (by kernel_rfl) (laidRun_met os _))) ?_
  intro W base args ds gs before hval hW _ hcond hsz hL _ _
  have hv := vars_of_laid hL
  refine LawRow.law_contract (tb := 4) (fn := Tryd.f5) (s := Rows.wordCutsSpec) (by kernel_rfl) (by kernel_rfl) rfl rfl Tryd.underlying4 (fun ds h => ?_) hW (fun p hA0 hlt hgs => ?_)
  · match ds, h with
    | [_], _ => rfl
  · have hA : DataW.TrodAll enc Tryd.prog W 0 (fun _ => true) true Tryd.f5.params.toList args.toList ds p := hA0
    subst hgs
    rw [Tryd.params5] at hA hval
    obtain ⟨v, d, rfl, rfl, hd⟩ := trodAll_one hA
    obtain ⟨s, rfl, hs⟩ := open_arg9 (hval 0 9 v rfl rfl) hd hsz
    exact cuts_law s hs W hv
theorem wordCuts_holds : Rows.WordCutsSaid :=
  OpenClaim.holds_of_cond 5 Tryd.f5 rfl rfl rfl rfl rfl rfl rfl ⟨rfl, rfl, rfl, rfl, rfl⟩ rfl rfl rfl rfl rfl (by kernel_rfl) Tryd.func5 (by kernel_rfl)
    (of_decide_eq_true (by kernel_rfl)) (by unfold Func.isWrapper; first | (rw [if_pos (by decide +kernel)]; kernel_rfl) | (rw [if_neg (by decide +kernel)]; exact ⟨rfl, rfl⟩))
    (fun os started H enc _ F => by rw [OpenClaim.pre_eq_preRow]; exact wordCuts_lifted os started H enc F)
theorem wordCuts_plain (f : FuncId) (fn : Func) (hf : Tryd.pinned.checked.prog.funcNamed "postern/posternlaw03.WordCuts" = some f) (hfn : Tryd.pinned.checked.prog.funcs[f]? = some fn) :
    true = Tryd.pinned.checked.prog.looks [] ∧ ∀ (j : Nat) t, fn.params[j]? = some t → Tryd.pinned.checked.prog.wantsStandIn t = false := by
  obtain rfl : f = 5 := Option.some.inj ((show Tryd.prog.funcNamed "postern/posternlaw03.WordCuts" = some 5 by kernel_rfl).symm.trans hf) |>.symm
  obtain rfl : fn = Tryd.f5 := (Option.some.inj (Tryd.func5.symm.trans hfn)).symm
  refine ⟨by kernel_rfl, fun j t ht => ?_⟩
  have hall : (Tryd.f5.params.toList.all fun u => !Tryd.prog.wantsStandIn u) = true := by kernel_rfl
  have hm : t ∈ Tryd.f5.params.toList := by simpa using Array.mem_of_getElem? ht
  exact (show Tryd.prog.wantsStandIn t = false by simpa using List.all_eq_true.1 hall t hm)
theorem wordCuts_card : Rows.WordCutsCardSaid :=
  Claim7.holds_tied_plain_at .later [] _ _ _ _ wordCuts_holds (fun _ h => by cases h) (by kernel_rfl) (fun _ h => by cases h) wordCuts_row_tie rfl ⟨rfl, rfl⟩ (by kernel_rfl) rfl wordCuts_plain (by kernel_rfl)
end Go.Proofs.YtkhpfghehjcfoaaDoor
