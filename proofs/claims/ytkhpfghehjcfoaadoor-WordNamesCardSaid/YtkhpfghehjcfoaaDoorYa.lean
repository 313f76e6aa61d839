/- The statement WordNames: the numbers of layer 3, and some answers that the document fixes. No arguments, no conditions. -/
import Derived.Test.YtkhpfghehjcfoaaDoorT
namespace Go.Proofs.YtkhpfghehjcfoaaDoor
open Go.ChangeShapes Go.WideShapes Go.ChangeAt Go.RowKit

set_option maxHeartbeats 1000000 in
theorem names_law (w : World) (hv : Vars w) : Calls Tryd.prog 8 #[] w fun e w' => e = .returned (.bool true) ∧ Below w.heap.size w w' := by
  have C := Lib.hid (awake_any w hv)
  clear hv
  go_enter Tryd.func8, Tryd.ntmps8
  go_wp2_with (go_at_call 15; refine C.out.mono ?_; rintro e w1 ⟨rfl, hb1⟩)
  go_ret
  exact ⟨rfl, hb1⟩
theorem wordNames_reads (os : Os) {H : Type} (enc : TypeId × Value → H) : ∃ places, DataW.whole enc Tryd.prog ((World.doorLaid Tryd.prog 4000 os).forCall (fun _ _ => 0) ⟨#[], #[], []⟩).memory Tryd.f8.params.toList Rows.wordNamesSpec.vars false (#[] : Array Value).toList 8 = some ([], [], places) :=
  ⟨[], by kernel_rfl⟩
set_option maxRecDepth 100000 in
theorem wordNames_lifted (os : Os) (started : os.Started) (H : Type) (enc : TypeId × Value → H) (F : Stop.Interp) :
    ReturnsInHanded {} Tryd.checked os 8 .any ((OpenSpec.ofChange Rows.wordNamesSpec).preRow enc Tryd.prog Tryd.f8 Rows.wordNamesRow.domain false Rows.wordNamesRow.laid) (((OpenSpec.ofChange Rows.wordNamesSpec).at F).post enc Tryd.prog Tryd.f8 false true false false) := by
  obtain ⟨places, hx⟩ := wordNames_reads os enc
  refine returnsInHanded_of_row (C := Tryd.checked) (s := OpenSpec.ofChange Rows.wordNamesSpec) own started (by kernel_rfl) Tryd.func8
    (witness_row_atRef (enc := enc) (C := Tryd.checked) false (World.doorLaid Tryd.prog 4000 os) #[] rfl (by kernel_rfl) (by kernel_rfl) (by kernel_rfl)
      (OpenSpec.preRow_of_cond 8 hx (by kernel_rfl) (fun k hk => by cases hk) (by kernel_rfl) (laidRun_met os _))) ?_
  intro W base args ds gs before hval hW _ hcond hsz hL _ _
  have hv := vars_of_laid hL
  refine LawRow.law_contract (tb := 4) (fn := Tryd.f8) (s := Rows.wordNamesSpec) (by kernel_rfl) (by kernel_rfl) rfl rfl Tryd.underlying4 (fun ds h => ?_) hW (fun p hA0 hlt hgs => ?_)
  · match ds, h with
    | [], _ => rfl
  · have hA : DataW.TrodAll enc Tryd.prog W 0 (fun _ => true) true Tryd.f8.params.toList args.toList ds p := hA0
    subst hgs
    rw [Tryd.params8] at hA hval
    obtain ⟨rfl, rfl, rfl⟩ := trodAll_none hA
    exact names_law W hv
theorem wordNames_holds : Rows.WordNamesSaid :=
  OpenClaim.holds_of_cond 8 Tryd.f8 rfl rfl rfl rfl rfl rfl rfl ⟨rfl, rfl, rfl, rfl, rfl⟩ rfl rfl rfl rfl rfl (by kernel_rfl) Tryd.func8 (by kernel_rfl)
    (of_decide_eq_true (by kernel_rfl)) (by unfold Func.isWrapper; first | (rw [if_pos (by decide +kernel)]; kernel_rfl) | (rw [if_neg (by decide +kernel)]; exact ⟨rfl, rfl⟩))
    (fun os started H enc _ F => by rw [OpenClaim.pre_eq_preRow]; exact wordNames_lifted os started H enc F)
theorem wordNames_plain (f : FuncId) (fn : Func) (hf : Tryd.pinned.checked.prog.funcNamed "postern/posternlaw03.WordNames" = some f) (hfn : Tryd.pinned.checked.prog.funcs[f]? = some fn) :
    true = Tryd.pinned.checked.prog.looks [] ∧ ∀ (j : Nat) t, fn.params[j]? = some t → Tryd.pinned.checked.prog.wantsStandIn t = false := by
  obtain rfl : f = 8 := Option.some.inj ((show Tryd.prog.funcNamed "postern/posternlaw03.WordNames" = some 8 by kernel_rfl).symm.trans hf) |>.symm
  obtain rfl : fn = Tryd.f8 := (Option.some.inj (Tryd.func8.symm.trans hfn)).symm
  refine ⟨by kernel_rfl, fun j t ht => ?_⟩
  have hall : (Tryd.f8.params.toList.all fun u => !Tryd.prog.wantsStandIn u) = true := by kernel_rfl
  have hm : t ∈ Tryd.f8.params.toList := by simpa using Array.mem_of_getElem? ht
  exact (show Tryd.prog.wantsStandIn t = false by simpa using List.all_eq_true.1 hall t hm)
theorem wordNames_card : Rows.WordNamesCardSaid :=
  Claim7.holds_tied_plain_at .later [] _ _ _ _ wordNames_holds (fun _ h => by cases h) (by kernel_rfl) (fun _ h => by cases h) wordNames_row_tie rfl ⟨rfl, rfl⟩ (by kernel_rfl) rfl wordNames_plain (by kernel_rfl)
end Go.Proofs.YtkhpfghehjcfoaaDoor
