/- The statement WordTokens, where what it reads is of bulk at most 1048576: what is joined is cut into the same tokens; what is cut is joined, no longer, and cut into the same; the first tokens of a value are it, whatever stands behind. -/
import Derived.Test.YtkhpfghehjcfoaaDoorT
import Derived.Test.YtkhpfghehjcfoaaDoorXy
namespace Go.Proofs.YtkhpfghehjcfoaaDoor
open Go.ChangeShapes Go.WideShapes Go.ChangeAt Go.RowKit

theorem bulk_all {H : Type} {l : List (DataW H)} (h : Rows.uptoSmall H l = true) (d : DataW H) (hd : d ∈ l) : Rows.uptoBulk d ≤ 1048576 := by
  unfold Rows.uptoSmall at h
  have h := of_decide_eq_true h
  have := bulk_mem hd
  omega

theorem wordTokens_reads (os : Os) {H : Type} (enc : TypeId × Value → H) : ∃ places, DataW.whole enc Tryd.prog ((World.doorLaid Tryd.prog 4000 os).forCall (fun _ _ => 0) ⟨#[], #[.slice Option.none 0 0, .string ⟨#[]⟩, .agg #[.int .u8 0, .int .i64 0, .string ⟨#[]⟩, .slice Option.none 0 0, .int .i64 0]], []⟩).memory Tryd.f11.params.toList Rows.wordTokensSpec.vars false (#[.slice Option.none 0 0, .string ⟨#[]⟩, .agg #[.int .u8 0, .int .i64 0, .string ⟨#[]⟩, .slice Option.none 0 0, .int .i64 0]] : Array Value).toList 8 = some ([.nil, .lit (.string []), .agg [.lit (.int .u8 0), .lit (.int .i64 0), .lit (.string []), .nil, .lit (.int .i64 0)]], [], places) :=
  ⟨[], by kernel_rfl⟩
set_option maxRecDepth 100000 in
theorem wordTokens_lifted (os : Os) (started : os.Started) (H : Type) (enc : TypeId × Value → H) (F : Stop.Interp) :
    ReturnsInHanded {} Tryd.checked os 11 .any ((Rows.OpenSpec.upto Rows.wordTokensSpec).preRow enc Tryd.prog Tryd.f11 Rows.wordTokensUptoRow.domain false Rows.wordTokensUptoRow.laid) (((Rows.OpenSpec.upto Rows.wordTokensSpec).at F).post enc Tryd.prog Tryd.f11 false true false false) := by
  obtain ⟨places, hx⟩ := wordTokens_reads os enc
  refine returnsInHanded_of_row (C := Tryd.checked) (s := Rows.OpenSpec.upto Rows.wordTokensSpec) own started (by kernel_rfl) Tryd.func11
    (witness_row_atRef (enc := enc) (C := Tryd.checked) false (World.doorLaid Tryd.prog 4000 os) #[.slice Option.none 0 0, .string ⟨#[]⟩, .agg #[.int .u8 0, .int .i64 0, .string ⟨#[]⟩, .slice Option.none 0 0, .int .i64 0]] rfl (by kernel_rfl) (by kernel_rfl) (by kernel_rfl)
      (OpenSpec.preRow_of_cond 8 hx (by kernel_rfl) (fun k hk => by cases hk; kernel_rfl) (by kernel_rfl) (laidRun_met os _))) ?_
  intro W base args ds gs before hval hW _ hcond hsz hL _ _
  have hv := vars_of_laid hL
  refine LawRow.law_contract (tb := 4) (fn := Tryd.f11) (s := Rows.wordTokensSpec) (by kernel_rfl) (by kernel_rfl) rfl rfl Tryd.underlying4 (fun ds h => ?_) hW (fun p hA0 hlt hgs => ?_)
  · match ds, h with
    | [_, _, _], _ => rfl
  · have hA : DataW.TrodAll enc Tryd.prog W 0 (fun _ => true) true Tryd.f11.params.toList args.toList ds p := hA0
    subst hgs
    rw [Tryd.params11] at hA hval
    obtain ⟨v0, v1, v2, d0, d1, d2, p0, p1, p2, rfl, rfl, rfl, h0, h1, h2⟩ := trodAll_three hA
    obtain ⟨l, hl, hok, -, hlen⟩ := open_arg40 (hval 0 40 v0 rfl rfl) h0 (fun q hq => hlt q (by simp [hq])) (LawRow.weights_at (j := 0) hsz rfl rfl) 1048576 (bulk_all (hcond _ rfl) d0 (by simp))
    obtain ⟨s, rfl, rfl, rfl, hs⟩ := Go.ChangeMaps.open_string Tryd.underlying9 (hval 1 9 v1 rfl rfl) h1
    have hbk := bulk_all (hcond _ rfl) _ (List.mem_cons_of_mem _ (List.mem_cons_self ..))
    simp only [Rows.uptoBulk] at hbk
    have hsl : s.data.toList.length = s.size := by simp
    obtain ⟨x, hx, hfx⟩ := open_arg26F (hval 2 26 v2 rfl rfl) h2 (fun q hq => hlt q (by simp [hq])) (LawRow.weights_at (j := 2) hsz rfl rfl)
    exact tokens_law l v0 s (by omega) x v2 W hl (fun t ht => ⟨(hok t ht).2.1, (hok t ht).2.2.1, (hok t ht).2.2.2.1⟩) hlen hx hfx hv
theorem wordTokens_holds : Rows.WordTokensUptoSaid :=
  OpenClaim.holds_of_cond 11 Tryd.f11 rfl rfl rfl rfl rfl rfl rfl ⟨rfl, rfl, rfl, rfl, rfl⟩ rfl rfl rfl rfl rfl (by kernel_rfl) Tryd.func11 (by kernel_rfl)
    (of_decide_eq_true (by kernel_rfl)) (by unfold Func.isWrapper; first | (rw [if_pos (by decide +kernel)]; kernel_rfl) | (rw [if_neg (by decide +kernel)]; exact ⟨rfl, rfl⟩))
    (fun os started H enc _ F => by rw [OpenClaim.pre_eq_preRow]; exact wordTokens_lifted os started H enc F)
theorem wordTokens_plain (f : FuncId) (fn : Func) (hf : Tryd.pinned.checked.prog.funcNamed "postern/posternlaw03.WordTokens" = some f) (hfn : Tryd.pinned.checked.prog.funcs[f]? = some fn) :
    true = Tryd.pinned.checked.prog.looks [] ∧ ∀ (j : Nat) t, fn.params[j]? = some t → Tryd.pinned.checked.prog.wantsStandIn t = false := by
  obtain rfl : f = 11 := Option.some.inj ((show Tryd.prog.funcNamed "postern/posternlaw03.WordTokens" = some 11 by kernel_rfl).symm.trans hf) |>.symm
  obtain rfl : fn = Tryd.f11 := (Option.some.inj (Tryd.func11.symm.trans hfn)).symm
  refine ⟨by kernel_rfl, fun j t ht => ?_⟩
  have hall : (Tryd.f11.params.toList.all fun u => !Tryd.prog.wantsStandIn u) = true := by kernel_rfl
  have hm : t ∈ Tryd.f11.params.toList := by simpa using Array.mem_of_getElem? ht
  exact (show Tryd.prog.wantsStandIn t = false by simpa using List.all_eq_true.1 hall t hm)
theorem wordTokens_card : Rows.WordTokensUptoCardSaid :=
  Claim7.holds_tied_plain_at .later [] _ _ _ _ wordTokens_holds (fun _ h => by cases h) (by kernel_rfl) (fun _ h => by cases h) wordTokensUpto_row_tie rfl ⟨rfl, rfl⟩ (by kernel_rfl) rfl wordTokens_plain (by kernel_rfl)
end Go.Proofs.YtkhpfghehjcfoaaDoor
