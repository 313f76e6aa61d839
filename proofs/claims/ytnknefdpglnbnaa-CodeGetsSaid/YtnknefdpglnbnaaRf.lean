/- The statement CodeGets: for every names, every two texts and every value the law returns true; no conditions. -/
import Derived.Test.YtnknefdpglnbnaaNc
import Derived.Test.YtnknefdpglnbnaaOf
namespace Go.Proofs.Ytnknefdpglnbnaa
open Go.ChangeShapes Go.WideShapes Go.ChangeAt Go.RowKit

set_option maxRecDepth 100000 in
theorem gets_lifted (os : Os) (started : os.Started) (H : Type) (enc : TypeId × Value → H) :
    ReturnsInHanded {} Try.checked os 9 .any (Rows.codeGetsSpec.pre6 enc Try.prog Try.f9 Rows.codeGetsRow.domain false) (Rows.codeGetsSpec.post enc Try.prog Try.f9 false true false false) := by
  refine LawRow.law_lifted (C := Try.checked) (tb := 4) (by kernel_rfl) started (by kernel_rfl) Try.func9 (by kernel_rfl) (by kernel_rfl) rfl rfl Try.underlying4 (fun ds h => ?_)
    (ChangeSpec.witness6 (enc := enc) (C := Try.checked) false ⟨#[], #[.slice Option.none 0 0, .agg #[.string ⟨#[]⟩, .string ⟨#[]⟩], .agg #[.int .u8 0, .int .i64 0, .string ⟨#[]⟩, .slice Option.none 0 0, .int .i64 0]], []⟩ 9 (by kernel_rfl) (by kernel_rfl) (by kernel_rfl) (by kernel_rfl)) ?_
  · match ds, h with
    | [_, _, _], _ => rfl
  · intro W base args ds p hval0 hA0 hlt hsz
    have hval : ∀ (j : Nat) t v, Try.f9.params[j]? = some t → args[j]? = some v → Value.okWide Try.prog W .any base t v := hval0
    have hA : DataW.TrodAll enc Try.prog W 0 (fun _ => true) true Try.f9.params.toList args.toList ds p := hA0
    rw [Try.params9] at hA hval
    obtain ⟨v0, v1, v2, d0, d1, d2, p0, p1, p2, rfl, rfl, rfl, h0, h1, h2⟩ := trodAll_three hA
    obtain ⟨ns, hns⟩ := open_arg22 (hval 0 22 v0 rfl rfl) h0 (fun q hq => hlt q (by simp [hq])) (LawRow.weights_at (j := 0) hsz rfl rfl)
    obtain ⟨sa, sb, rfl, hsa, _⟩ := open_arg70 (hval 1 70 v1 rfl rfl) h1 (LawRow.weights_at (j := 1) hsz rfl rfl)
    obtain ⟨x, hx⟩ := open_arg34 (hval 2 34 v2 rfl rfl) h2 (fun q hq => hlt q (by simp [hq])) (LawRow.weights_at (j := 2) hsz rfl rfl)
    exact gets_walk ns sa sb x W v0 v2 hns hsa hx

theorem gets_holds : Rows.CodeGetsSaid :=
  OpenClaim.holds_of_wide 9 Try.f9 rfl rfl rfl rfl rfl rfl rfl ⟨rfl, rfl, rfl, rfl, rfl⟩ rfl rfl rfl rfl rfl (by kernel_rfl) Try.func9 (by kernel_rfl)
    (of_decide_eq_true (by kernel_rfl)) (by unfold Func.isWrapper; first | (rw [if_pos (by decide +kernel)]; kernel_rfl) | (rw [if_neg (by decide +kernel)]; exact ⟨rfl, rfl⟩))
    (fun os started H enc _ => gets_lifted os started H enc)
end Go.Proofs.Ytnknefdpglnbnaa
