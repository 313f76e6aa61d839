/- The statement CodeJoins: for every two codes the law returns true; no conditions. -/
import Derived.Test.YtnknefdpglnbnaaPh
import Derived.Test.YtnknefdpglnbnaaOc
namespace Go.Proofs.Ytnknefdpglnbnaa
open Go.ChangeShapes Go.WideShapes Go.ChangeAt Go.RowKit

theorem joins_law (c d : List St) (Ac Ad : Option Addr) (lc cc ld cd : Nat) (w : World) (hc : LR (fun b _ => b < w.heap.size) 256 Ac lc cc c (fun b o => IsSts w w.heap.size b o c)) (hd : LR (fun b _ => b < w.heap.size) 256 Ad ld cd d (fun b o => IsSts w w.heap.size b o d)) (hnc : Ac = Option.none → cc = 0) (hnd : Ad = Option.none → cd = 0) :
    Calls Try.prog 6 #[.slice Ac lc cc, .slice Ad ld cd] w fun e w' => e = .returned (.bool true) ∧ Below w.heap.size w w' := by
  by_cases h1 : (chkL c).2 = 0
  · by_cases h2 : (chkL d).2 = 0
    · by_cases h3 : (flats c 0).length + (flats d 0).length ≤ 512
      · exact joins_short c d Ac Ad lc cc ld cd w hc hd hnc hnd h1 h2 h3
      · exact joins_long c d Ac Ad lc cc ld cd w hc hd hnc hnd h1 h2 (by omega)
    · exact joins_not c d Ac Ad lc cc ld cd w hc hd (.inr h2)
  · exact joins_not c d Ac Ad lc cc ld cd w hc hd (.inl h1)
set_option maxRecDepth 100000 in
theorem joins_lifted (os : Os) (started : os.Started) (H : Type) (enc : TypeId × Value → H) :
    ReturnsInHanded {} Try.checked os 6 .any (Rows.codeJoinsSpec.pre6 enc Try.prog Try.f6 Rows.codeJoinsRow.domain false) (Rows.codeJoinsSpec.post enc Try.prog Try.f6 false true false false) := by
  refine LawRow.law_lifted (C := Try.checked) (tb := 4) (by kernel_rfl) started (by kernel_rfl) Try.func6 (by kernel_rfl) (by kernel_rfl) rfl rfl Try.underlying4 (fun ds h => ?_)
    (ChangeSpec.witness6 (enc := enc) (C := Try.checked) false ⟨#[], #[.slice Option.none 0 0, .slice Option.none 0 0], []⟩ 8 (by kernel_rfl) (by kernel_rfl) (by kernel_rfl) (by kernel_rfl)) ?_
  · match ds, h with
    | [_, _], _ => rfl
  · intro W base args ds p hval0 hA0 hlt hsz
    have hval : ∀ (j : Nat) t v, Try.f6.params[j]? = some t → args[j]? = some v → Value.okWide Try.prog W .any base t v := hval0
    have hA : DataW.TrodAll enc Try.prog W 0 (fun _ => true) true Try.f6.params.toList args.toList ds p := hA0
    rw [Try.params6] at hA hval
    obtain ⟨v0, v1, d0, d1, p0, p1, rfl, rfl, rfl, h0, h1⟩ := trodAll_two hA
    obtain ⟨A0, l0, c0, L0, rfl, n0, hL0⟩ := open_arg42 (hval 0 42 v0 rfl rfl) h0 (fun q hq => hlt q (List.mem_append_left _ hq)) (LawRow.weights_at (j := 0) hsz rfl rfl)
    obtain ⟨A1, l1, c1, L1, rfl, n1, hL1⟩ := open_arg42 (hval 1 42 v1 rfl rfl) h1 (fun q hq => hlt q (List.mem_append_right _ hq)) (LawRow.weights_at (j := 1) hsz rfl rfl)
    exact joins_law L0 L1 A0 A1 l0 c0 l1 c1 W hL0 hL1 n0 n1

theorem joins_holds : Rows.CodeJoinsSaid :=
  OpenClaim.holds_of_wide 6 Try.f6 rfl rfl rfl rfl rfl rfl rfl ⟨rfl, rfl, rfl, rfl, rfl⟩ rfl rfl rfl rfl rfl (by kernel_rfl) Try.func6 (by kernel_rfl)
    (of_decide_eq_true (by kernel_rfl)) (by unfold Func.isWrapper; first | (rw [if_pos (by decide +kernel)]; kernel_rfl) | (rw [if_neg (by decide +kernel)]; exact ⟨rfl, rfl⟩))
    (fun os started H enc _ => joins_lifted os started H enc)
end Go.Proofs.Ytnknefdpglnbnaa
