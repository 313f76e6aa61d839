/- The statement CodeNames: for every names, every text and every texts the law returns true; no conditions. -/
import Derived.Test.YtnknefdpglnbnaaMd
import Derived.Test.YtnknefdpglnbnaaOe
namespace Go.Proofs.Ytnknefdpglnbnaa
open Go.ChangeShapes Go.WideShapes Go.ChangeAt Go.RowKit

set_option maxRecDepth 100000 in
theorem names_lifted (os : Os) (started : os.Started) (H : Type) (enc : TypeId × Value → H) :
    ReturnsInHanded {} Try.checked os 7 .any (Rows.codeNamesSpec.pre6 enc Try.prog Try.f7 Rows.codeNamesRow.domain false) (Rows.codeNamesSpec.post enc Try.prog Try.f7 false true false false) := by
  refine LawRow.law_lifted (C := Try.checked) (tb := 4) (by kernel_rfl) started (by kernel_rfl) Try.func7 (by kernel_rfl) (by kernel_rfl) rfl rfl Try.underlying4 (fun ds h => ?_)
    (ChangeSpec.witness6 (enc := enc) (C := Try.checked) false ⟨#[], #[.slice Option.none 0 0, .string ⟨#[]⟩, .slice Option.none 0 0], []⟩ 8 (by kernel_rfl) (by kernel_rfl) (by kernel_rfl) (by kernel_rfl)) ?_
  · match ds, h with
    | [_, _, _], _ => rfl
  · intro W base args ds p hval0 hA0 hlt hsz
    have hval : ∀ (j : Nat) t v, Try.f7.params[j]? = some t → args[j]? = some v → Value.okWide Try.prog W .any base t v := hval0
    have hA : DataW.TrodAll enc Try.prog W 0 (fun _ => true) true Try.f7.params.toList args.toList ds p := hA0
    rw [Try.params7] at hA hval
    obtain ⟨v0, v1, v2, d0, d1, d2, p0, p1, p2, rfl, rfl, rfl, h0, h1, h2⟩ := trodAll_three hA
    obtain ⟨ns, hns⟩ := open_arg22 (hval 0 22 v0 rfl rfl) h0 (fun q hq => hlt q (by simp [hq])) (LawRow.weights_at (j := 0) hsz rfl rfl)
    obtain ⟨sx, rfl, hsx⟩ := open_arg9 (hval 1 9 v1 rfl rfl) h1 (LawRow.weights_at (j := 1) hsz rfl rfl)
    obtain ⟨ss, hss, hnil⟩ := open_arg56n (hval 2 56 v2 rfl rfl) h2 (fun q hq => hlt q (by simp [hq])) (LawRow.weights_at (j := 2) hsz rfl rfl)
    exact names_walk ns sx ss W v0 v2 hns hsx hss hnil

theorem names_holds : Rows.CodeNamesSaid :=
  OpenClaim.holds_of_wide 7 Try.f7 rfl rfl rfl rfl rfl rfl rfl ⟨rfl, rfl, rfl, rfl, rfl⟩ rfl rfl rfl rfl rfl (by kernel_rfl) Try.func7 (by kernel_rfl)
    (of_decide_eq_true (by kernel_rfl)) (by unfold Func.isWrapper; first | (rw [if_pos (by decide +kernel)]; kernel_rfl) | (rw [if_neg (by decide +kernel)]; exact ⟨rfl, rfl⟩))
    (fun os started H enc _ => names_lifted os started H enc)
end Go.Proofs.Ytnknefdpglnbnaa
