/- The statement CodeUses: for every code the law returns true; no conditions. -/
import Derived.Test.YtnknefdpglnbnaaXq
import Derived.Test.YtnknefdpglnbnaaOc
namespace Go.Proofs.Ytnknefdpglnbnaa
open Go.ChangeShapes Go.WideShapes Go.ChangeAt Go.RowKit

set_option maxRecDepth 100000 in
theorem uses_lifted (os : Os) (started : os.Started) (H : Type) (enc : TypeId × Value → H) :
    ReturnsInHanded {} Try.checked os 14 .any (Rows.codeUsesSpec.pre6 enc Try.prog Try.f14 Rows.codeUsesRow.domain false) (Rows.codeUsesSpec.post enc Try.prog Try.f14 false true false false) := by
  refine LawRow.law_lifted (C := Try.checked) (tb := 4) (by kernel_rfl) started (by kernel_rfl) Try.func14 (by kernel_rfl) (by kernel_rfl) rfl rfl Try.underlying4 (fun ds h => ?_)
    (ChangeSpec.witness6 (enc := enc) (C := Try.checked) false ⟨#[], #[.slice Option.none 0 0], []⟩ 8 (by kernel_rfl) (by kernel_rfl) (by kernel_rfl) (by kernel_rfl)) ?_
  · match ds, h with
    | [_], _ => rfl
  · intro W base args ds p hval0 hA0 hlt hsz
    have hval : ∀ (j : Nat) t v, Try.f14.params[j]? = some t → args[j]? = some v → Value.okWide Try.prog W .any base t v := hval0
    have hA : DataW.TrodAll enc Try.prog W 0 (fun _ => true) true Try.f14.params.toList args.toList ds p := hA0
    rw [Try.params14] at hA hval
    obtain ⟨v0, d0, rfl, rfl, h0⟩ := trodAll_one hA
    obtain ⟨A0, l0, c0, L0, rfl, n0, hL0⟩ := open_arg42 (hval 0 42 v0 rfl rfl) h0 hlt (LawRow.weights_at (j := 0) hsz rfl rfl)
    exact uses_walk L0 A0 l0 c0 W hL0

theorem uses_holds : Rows.CodeUsesSaid :=
  OpenClaim.holds_of_wide 14 Try.f14 rfl rfl rfl rfl rfl rfl rfl ⟨rfl, rfl, rfl, rfl, rfl⟩ rfl rfl rfl rfl rfl (by kernel_rfl) Try.func14 (by kernel_rfl)
    (of_decide_eq_true (by kernel_rfl)) (by unfold Func.isWrapper; first | (rw [if_pos (by decide +kernel)]; kernel_rfl) | (rw [if_neg (by decide +kernel)]; exact ⟨rfl, rfl⟩))
    (fun os started H enc _ => uses_lifted os started H enc)
end Go.Proofs.Ytnknefdpglnbnaa
