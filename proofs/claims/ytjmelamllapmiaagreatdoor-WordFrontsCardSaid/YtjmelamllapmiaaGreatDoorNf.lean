/- The statement WordFronts: the value that any tokens begin with is the one that the document says, they stay as they were; the tokens of any value are what the document says. No conditions. -/
import Derived.Test.YtjmelamllapmiaaGreatDoorT
import Derived.Test.YtjmelamllapmiaaGreatDoorNe
import Derived.Test.YtjmelamllapmiaaGreatDoorXl
namespace Go.Proofs.YtjmelamllapmiaaGreatDoor
open Go.ChangeShapes Go.WideShapes Go.ChangeAt Go.RowKit


theorem wordFronts_reads (os : Os) {H : Type} (enc : TypeId × Value → H) : ∃ places, DataW.whole enc Tryz.prog ((World.doorLaid Tryz.prog 4000 os).forCall (fun _ _ => 0) ⟨#[], #[.slice Option.none 0 0, .agg #[.int .u8 0, .int .i64 0, .string ⟨#[]⟩, .slice Option.none 0 0, .int .i64 0]], []⟩).memory Tryz.f3.params.toList Rows.wordFrontsSpec.vars false (#[.slice Option.none 0 0, .agg #[.int .u8 0, .int .i64 0, .string ⟨#[]⟩, .slice Option.none 0 0, .int .i64 0]] : Array Value).toList 8 = some ([.nil, .agg [.lit (.int .u8 0), .lit (.int .i64 0), .lit (.string []), .nil, .lit (.int .i64 0)]], [], places) :=
  ⟨[], by kernel_rfl⟩
set_option maxRecDepth 100000 in
theorem wordFronts_lifted (os : Os) (started : os.Started) (H : Type) (enc : TypeId × Value → H) (F : Stop.Interp) :
    ReturnsInHanded {} Tryz.checked os 3 .any ((OpenSpec.ofChange Rows.wordFrontsSpec).preRow enc Tryz.prog Tryz.f3 Rows.wordFrontsRow.domain false Rows.wordFrontsRow.laid) (((OpenSpec.ofChange Rows.wordFrontsSpec).at F).post enc Tryz.prog Tryz.f3 false true false false) := by
  obtain ⟨places, hx⟩ := wordFronts_reads os enc
  refine returnsInHanded_of_row (C := Tryz.checked) (s := OpenSpec.ofChange Rows.wordFrontsSpec) own started (by kernel_rfl) Tryz.func3
    (witness_row_atRef (enc := enc) (C := Tryz.checked) false (World.doorLaid Tryz.prog 4000 os) #[.slice Option.none 0 0, .agg #[.int .u8 0, .int .i64 0, .string ⟨#[]⟩, .slice Option.none 0 0, .int .i64 0]] rfl (by kernel_rfl) (by kernel_rfl) (by kernel_rfl)
      (OpenSpec.preRow_of_cond 8 hx (by kernel_rfl) (fun k hk => by cases hk) (by kernel_rfl) (laidRun_met os _))) ?_
  intro W base args ds gs before hval hW _ hcond hsz hL _ _
  have hv := vars_of_laid hL
  refine LawRow.law_contract (tb := 4) (fn := Tryz.f3) (s := Rows.wordFrontsSpec) (by kernel_rfl) (by kernel_rfl) rfl rfl Tryz.underlying4 (fun ds h => ?_) hW (fun p hA0 hlt hgs => ?_)
  · match ds, h with
    | [_, _], _ => rfl
  · have hA : DataW.TrodAll enc Tryz.prog W 0 (fun _ => true) true Tryz.f3.params.toList args.toList ds p := hA0
    subst hgs
    rw [Tryz.params3] at hA hval
    obtain ⟨v0, v1, d0, d1, p0, p1, rfl, rfl, rfl, h0, h1⟩ := trodAll_two hA
    obtain ⟨l, hl, hok, -, -⟩ := open_arg40 (hval 0 22 v0 rfl rfl) h0 (fun q hq => hlt q (by simp [hq])) (LawRow.weights_at (j := 0) hsz rfl rfl) (Rows.uptoBulk d0) (Nat.le_refl _)
    obtain ⟨x, hx, hfx⟩ := open_arg26F (hval 1 27 v1 rfl rfl) h1 (fun q hq => hlt q (by simp [hq])) (LawRow.weights_at (j := 1) hsz rfl rfl)
    exact fronts_law l v0 x v1 W hl (fun t ht => ⟨(hok t ht).1, trivial⟩) hx hfx hv
theorem wordFronts_holds : Rows.WordFrontsSaid :=
  OpenClaim.holds_of_cond 3 Tryz.f3 rfl rfl rfl rfl rfl rfl rfl ⟨rfl, rfl, rfl, rfl, rfl⟩ rfl rfl rfl rfl rfl (by kernel_rfl) Tryz.func3 (by kernel_rfl)
    (of_decide_eq_true (by kernel_rfl)) (by unfold Func.isWrapper; first | (rw [if_pos (by decide +kernel)]; kernel_rfl) | (rw [if_neg (by decide +kernel)]; exact ⟨rfl, rfl⟩))
    (fun os started H enc _ F => by rw [OpenClaim.pre_eq_preRow]; exact wordFronts_lifted os started H enc F)
theorem wordFronts_plain (f : FuncId) (fn : Func) (hf : Tryz.pinned.checked.prog.funcNamed "postern/posternlaw03.WordFronts" = some f) (hfn : Tryz.pinned.checked.prog.funcs[f]? = some fn) :
    true = Tryz.pinned.checked.prog.looks [] ∧ ∀ (j : Nat) t, fn.params[j]? = some t → Tryz.pinned.checked.prog.wantsStandIn t = false := by
  obtain rfl : f = 3 := Option.some.inj ((show Tryz.prog.funcNamed "postern/posternlaw03.WordFronts" = some 3 by kernel_rfl).symm.trans hf) |>.symm
  obtain rfl : fn = Tryz.f3 := (Option.some.inj (Tryz.func3.symm.trans hfn)).symm
  refine ⟨by kernel_rfl, fun j t ht => ?_⟩
  have hall : (Tryz.f3.params.toList.all fun u => !Tryz.prog.wantsStandIn u) = true := by kernel_rfl
  have hm : t ∈ Tryz.f3.params.toList := by simpa using Array.mem_of_getElem? ht
  exact (show Tryz.prog.wantsStandIn t = false by simpa using List.all_eq_true.1 hall t hm)
theorem wordFronts_card : Rows.WordFrontsCardSaid :=
  Claim7.holds_tied_plain_at .later [] _ _ _ _ wordFronts_holds (fun _ h => by cases h) (by kernel_rfl) (fun _ h => by cases h) wordFronts_row_tie rfl ⟨rfl, rfl⟩ (by kernel_rfl) rfl wordFronts_plain (by kernel_rfl)
end Go.Proofs.YtjmelamllapmiaaGreatDoor
