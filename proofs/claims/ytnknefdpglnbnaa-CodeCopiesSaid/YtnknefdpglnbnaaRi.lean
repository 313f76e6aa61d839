/- The statement CodeCopies: for every two codes the law returns true; no conditions. -/
import Derived.Test.YtnknefdpglnbnaaDk
import Derived.Test.YtnknefdpglnbnaaOc
namespace Go.Proofs.Ytnknefdpglnbnaa
open Go.ChangeShapes Go.WideShapes Go.ChangeAt Go.RowKit

set_option maxRecDepth 100000 in
theorem copies_lifted (os : Os) (started : os.Started) (H : Type) (enc : TypeId × Value → H) :
    ReturnsInHanded {} Try.checked os 13 .any (Rows.codeCopiesSpec.pre6 enc Try.prog Try.f13 Rows.codeCopiesRow.domain false) (Rows.codeCopiesSpec.post enc Try.prog Try.f13 false true false false) := by
  refine LawRow.law_lifted (C := Try.checked) (tb := 4) (by kernel_rfl) started (by kernel_rfl) Try.func13 (by kernel_rfl) (by kernel_rfl) rfl rfl Try.underlying4 (fun ds h => ?_)
    (ChangeSpec.witness6 (enc := enc) (C := Try.checked) false ⟨#[], #[.slice Option.none 0 0, .slice Option.none 0 0], []⟩ 8 (by kernel_rfl) (by kernel_rfl) (by kernel_rfl) (by kernel_rfl)) ?_
  · match ds, h with
    | [_, _], _ => rfl
  · intro W base args ds p hval0 hA0 hlt hsz
    have hval : ∀ (j : Nat) t v, Try.f13.params[j]? = some t → args[j]? = some v → Value.okWide Try.prog W .any base t v := hval0
    have hA : DataW.TrodAll enc Try.prog W 0 (fun _ => true) true Try.f13.params.toList args.toList ds p := hA0
    rw [Try.params13] at hA hval
    obtain ⟨v0, v1, d0, d1, p0, p1, rfl, rfl, rfl, h0, h1⟩ := trodAll_two hA
    obtain ⟨A0, l0, c0, L0, rfl, _, hL0⟩ := open_arg42 (hval 0 42 v0 rfl rfl) h0 (fun q hq => hlt q (List.mem_append_left _ hq)) (LawRow.weights_at (j := 0) hsz rfl rfl)
    obtain ⟨A1, l1, c1, L1, rfl, _, hL1⟩ := open_arg42 (hval 1 42 v1 rfl rfl) h1 (fun q hq => hlt q (List.mem_append_right _ hq)) (LawRow.weights_at (j := 1) hsz rfl rfl)
    exact copies_walk L0 L1 A0 l0 c0 A1 l1 c1 W hL0 hL1

theorem copies_holds : Rows.CodeCopiesSaid :=
  OpenClaim.holds_of_wide 13 Try.f13 rfl rfl rfl rfl rfl rfl rfl ⟨rfl, rfl, rfl, rfl, rfl⟩ rfl rfl rfl rfl rfl (by kernel_rfl) Try.func13 (by kernel_rfl)
    (of_decide_eq_true (by kernel_rfl)) (by unfold Func.isWrapper; first | (rw [if_pos (by decide +kernel)]; kernel_rfl) | (rw [if_neg (by decide +kernel)]; exact ⟨rfl, rfl⟩))
    (fun os started H enc _ => copies_lifted os started H enc)
end Go.Proofs.Ytnknefdpglnbnaa
