/- The statement TopMeets: for every world as plain data, every reference and every slice of sets the law returns true; no conditions. -/
import Derived.Test.YthafojadcodkoaaUm
namespace Go.Proofs.Ythafojadcodkoaa
open Go.ChangeShapes Go.WideShapes Go.ChangeAt Go.RowKit

theorem WorldA.below {w w' : World} {c0 c1 c2 c4 : Value} {ps cs ms : List Int} {xs : List (Int × WV × Pt)} (h : WorldA w c0 c1 c2 c4 ps cs ms xs) (hb : Below w.heap.size w w') : WorldA w' c0 c1 c2 c4 ps cs ms xs := by
  obtain ⟨h1, h2, h3, A, cap, rfl, h4, h5, h6⟩ := h
  refine ⟨h1.below hb, h2.below hb, h3.below hb, A, cap, rfl, h4, h5, fun j hj => ?_⟩
  obtain ⟨b, o, hA, hbw, hat, hwh⟩ := h6 j hj
  exact ⟨b, o, hA, Nat.lt_of_lt_of_le hbw hb.size, fun k v hv => (hb.cell (p := ⟨b, o + j * 17 + k, Option.none⟩) hbw).trans (hat k v hv), (hwh.keep fun b o h => hb.block b h).mono fun b o h => Nat.lt_of_lt_of_le h hb.size⟩
theorem WorldA.one {w : World} {c0 c1 c2 c4 : Value} {ps cs ms : List Int} {xs : List (Int × WV × Pt)} (h : WorldA w c0 c1 c2 c4 ps cs ms xs) (n : Int) : ∀ u ∈ #[c0, c1, c2, .int .i64 n, c4], u.oneCell' = true := by
  obtain ⟨⟨A0, p0, rfl, -⟩, ⟨A1, p1, rfl, -⟩, ⟨A4, p4, rfl, -⟩, A, cap, rfl, -⟩ := h
  intro u hu
  simp only [List.mem_toArray, List.mem_cons, List.not_mem_nil, or_false] at hu
  rcases hu with rfl | rfl | rfl | rfl | rfl <;> rfl
theorem weights_leT {t : TypeId} {H : Type} {d : DataW H} (hs : (DataW.weightsEach Try.prog [t] [d]).all (· ≤ reachBytes) = true) : ∀ q ∈ d.weights Try.prog t, q ≤ 140737488351232 := fun q hq => by
  have hr : reachBytes = 140737488351232 := by decide
  have h1 : q ∈ DataW.weightsEach Try.prog [t] [d] := by simpa [DataW.weightsEach] using hq
  have := List.all_eq_true.1 hs q h1
  rw [hr] at this
  simpa using this
set_option maxRecDepth 100000 in
theorem topMeets_lifted (os : Os) (started : os.Started) (H : Type) (enc : TypeId × Value → H) :
    ReturnsInHanded {} Try.checked os 3 .any (Rows.topMeetsSpec.pre6 enc Try.prog Try.f3 Rows.topMeetsRow.domain false) (Rows.topMeetsSpec.post enc Try.prog Try.f3 false true false false) := by
  refine LawRow.law_lifted (C := Try.checked) (tb := 4) (by kernel_rfl) started (by kernel_rfl) Try.func3 (by kernel_rfl) (by kernel_rfl) rfl rfl Try.underlying4 (fun ds h => ?_)
    (ChangeSpec.witness6 (enc := enc) (C := Try.checked) false ⟨#[], #[.agg #[.slice Option.none 0 0, .slice Option.none 0 0, .slice Option.none 0 0, .int .i64 0, .slice Option.none 0 0], .int .i64 0, .slice Option.none 0 0], []⟩ 8 (by kernel_rfl) (by kernel_rfl) (by kernel_rfl) (by kernel_rfl)) ?_
  · match ds, h with
    | [_, _, _], _ => rfl
  · intro W base args ds p hval0 hA0 hlt hsz
    have hval : ∀ (j : Nat) t v, Try.f3.params[j]? = some t → args[j]? = some v → Value.okWide Try.prog W .any base t v := hval0
    have hA : DataW.TrodAll enc Try.prog W 0 (fun _ => true) true Try.f3.params.toList args.toList ds p := hA0
    rw [Try.params3] at hA hval
    obtain ⟨v0, v1, v2, d0, d1, d2, p0, p1, p2, rfl, rfl, rfl, h0, h1, h2⟩ := trodAll_three hA
    obtain ⟨cs, rfl, _⟩ := okWide_struct Try.underlying27 (hval 0 27 v0 rfl rfl)
    obtain ⟨r, rfl, rfl, rfl, _⟩ := open_int Try.underlying25 (hval 1 25 v1 rfl rfl) h1
    obtain ⟨a2, len2, cap2, rfl⟩ := okWide_slice Try.underlying28 (hval 2 28 v2 rfl rfl)
    obtain ⟨fuel0, hf0⟩ := h0
    obtain ⟨fuel2, hf2⟩ := h2
    have hf0' : DataW.trod enc Try.prog W 0 (fun _ => true) true fuel0 27 cs.toList = some (d0, p0) := by simpa [Value.cells] using hf0
    have hf2' : DataW.trod enc Try.prog W 0 (fun _ => true) true fuel2 28 [.slice a2 len2 cap2] = some (d2, p2) := by simpa [Value.cells] using hf2
    obtain ⟨c0, c1, c2, c4, last, ps, ks, ms, ts, hc, hw⟩ := open_world fuel0 _ _ hf0' (fun q hq => hlt q (by simp [hq])) (Nat.le_refl _) (weights_leT (LawRow.weights_at (j := 0) hsz rfl rfl))
    obtain ⟨xs, hxs⟩ := open_sets fuel2 _ _ hf2' (fun q hq => hlt q (by simp [hq])) (weights_leT (LawRow.weights_at (j := 2) hsz rfl rfl))
    have hcs : cs = #[c0, c1, c2, .int .i64 last, c4] := by rw [← Array.toArray_toList (xs := cs), hc]
    rw [hcs]
    exact meets_law ownWhat_any W c0 c1 c2 (.int .i64 last) c4 r _ xs hxs (hw.one last) (fun w' hb => from_any new_any w' c0 c1 c2 c4 last ps ks ms ts (hw.below hb)) lives_any

theorem topMeets_holds : Rows.TopMeetsSaid :=
  OpenClaim.holds_of_wide 3 Try.f3 rfl rfl rfl rfl rfl rfl rfl ⟨rfl, rfl, rfl, rfl, rfl⟩ rfl rfl rfl rfl rfl (by kernel_rfl) Try.func3 (by kernel_rfl)
    (of_decide_eq_true (by kernel_rfl)) (by unfold Func.isWrapper; first | (rw [if_pos (by decide +kernel)]; kernel_rfl) | (rw [if_neg (by decide +kernel)]; exact ⟨rfl, rfl⟩))
    (fun os started H enc _ => topMeets_lifted os started H enc)
end Go.Proofs.Ythafojadcodkoaa
