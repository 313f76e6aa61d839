/- The statement CodeFree: for every names and every expression the law returns true; no conditions. -/
import Derived.Test.YtnknefdpglnbnaaXt
import Derived.Test.YtnknefdpglnbnaaOf
namespace Go.Proofs.Ytnknefdpglnbnaa
open Go.ChangeShapes Go.WideShapes Go.ChangeAt Go.RowKit

set_option maxRecDepth 100000 in
theorem free_lifted (os : Os) (started : os.Started) (H : Type) (enc : TypeId × Value → H) :
    ReturnsInHanded {} Try.checked os 15 .any (Rows.codeFreeSpec.pre6 enc Try.prog Try.f15 Rows.codeFreeRow.domain false) (Rows.codeFreeSpec.post enc Try.prog Try.f15 false true false false) := by
  refine LawRow.law_lifted (C := Try.checked) (tb := 4) (by kernel_rfl) started (by kernel_rfl) Try.func15 (by kernel_rfl) (by kernel_rfl) rfl rfl Try.underlying4 (fun ds h => ?_)
    (ChangeSpec.witness6 (enc := enc) (C := Try.checked) false ⟨#[], #[.slice Option.none 0 0, .agg #[.int .u8 0, .int .i64 0, .string ⟨#[]⟩, .slice Option.none 0 0]], []⟩ 8 (by kernel_rfl) (by kernel_rfl) (by kernel_rfl) (by kernel_rfl)) ?_
  · match ds, h with
    | [_, _], _ => rfl
  · intro W base args ds p hval0 hA0 hlt hsz
    have hval : ∀ (j : Nat) t v, Try.f15.params[j]? = some t → args[j]? = some v → Value.okWide Try.prog W .any base t v := hval0
    have hA : DataW.TrodAll enc Try.prog W 0 (fun _ => true) true Try.f15.params.toList args.toList ds p := hA0
    rw [Try.params15] at hA hval
    obtain ⟨v0, v1, d0, d1, p0, p1, rfl, rfl, rfl, h0, h1⟩ := trodAll_two hA
    obtain ⟨ns, hns⟩ := open_arg22 (hval 0 22 v0 rfl rfl) h0 (fun q hq => hlt q (List.mem_append_left _ hq)) (LawRow.weights_at (j := 0) hsz rfl rfl)
    obtain ⟨x, hx⟩ := open_arg26 (hval 1 26 v1 rfl rfl) h1 (fun q hq => hlt q (List.mem_append_right _ hq)) (LawRow.weights_at (j := 1) hsz rfl rfl)
    exact free_walk ns x W v0 v1 hns hx

theorem free_holds : Rows.CodeFreeSaid :=
  OpenClaim.holds_of_wide 15 Try.f15 rfl rfl rfl rfl rfl rfl rfl ⟨rfl, rfl, rfl, rfl, rfl⟩ rfl rfl rfl rfl rfl (by kernel_rfl) Try.func15 (by kernel_rfl)
    (of_decide_eq_true (by kernel_rfl)) (by unfold Func.isWrapper; first | (rw [if_pos (by decide +kernel)]; kernel_rfl) | (rw [if_neg (by decide +kernel)]; exact ⟨rfl, rfl⟩))
    (fun os started H enc _ => free_lifted os started H enc)
end Go.Proofs.Ytnknefdpglnbnaa
