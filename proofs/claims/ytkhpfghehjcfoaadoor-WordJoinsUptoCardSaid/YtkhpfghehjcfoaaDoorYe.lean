/- The statement WordJoins, where what it reads is of bulk at most 1048576: any tokens are joined as the document says; they stay as they were. -/
import Derived.Test.YtkhpfghehjcfoaaDoorT
import Derived.Test.YtkhpfghehjcfoaaDoorXg
import Derived.Test.YtkhpfghehjcfoaaDoorXh
import Derived.Test.YtkhpfghehjcfoaaDoorXi
namespace Go.Proofs.YtkhpfghehjcfoaaDoor
open Go.ChangeShapes Go.WideShapes Go.ChangeAt Go.RowKit

set_option maxRecDepth 100000 in
set_option maxHeartbeats 4000000 in
theorem joins_law (l : List Tk) (v : Value) (w : World) (h : IsTks w w.heap.size v l) (hok : ∀ t ∈ l, t.s.length ≤ 1048576 ∧ (-9223372036854775808 ≤ t.n ∧ t.n ≤ 9223372036854775807) ∧ (-9223372036854775808 ≤ t.r ∧ t.r ≤ 9223372036854775807)) (hl : l.length ≤ 1048576) (hv : Vars w) :
    Calls Tryd.prog 9 #[v] w fun e w' => e = .returned (.bool true) ∧ Below w.heap.size w w' := by
  have hh := h
  obtain ⟨hl48, A, cap, hcap, rfl, h7⟩ := h
  have H7 := Lib.hid h7
  have HH := Lib.hid hh
  have HOK := Lib.hid hok
  have HTK : Hid (∀ t ∈ l, TkOk t) := Lib.hid (fun t ht => ⟨by have := (hok t ht).1; omega, (hok t ht).2.1, (hok t ht).2.2⟩)
  have HV := Lib.hid hv
  clear h7 hh hok hv
  go_enter Tryd.func9, Tryd.ntmps9
  go_wp2_with fail
  go_loopw [3, 4] (fun nx ix wr => ∃ j m : Nat, nx = .int .i64 m ∧ ix = .int .i64 j ∧ j ≤ l.length ∧ m ≤ j * 1048576 ∧ wr = w) (fun _ ix _ => l.length - (intOf ix).toNat)
  case atStart => exact ⟨0, 0, rfl, rfl, by omega, by omega, rfl⟩
  case round =>
    obtain ⟨j, m, rfl, rfl, hj, hm, rfl⟩ := hrel
    by_cases hlt : j < l.length
    · obtain ⟨ab, ao, hbB, hA, hx⟩ := H7.out (by rintro rfl; simp at hlt)
      subst hA
      obtain ⟨e0, e1, e2, e3, e4⟩ := At.five' (hx j hlt)
      have hts := (HOK.out _ (List.getElem_mem hlt)).1
      have hts2 : (txtV l[j].s).size ≤ 1048576 := hts
      have hji : (j : Int) < l.length := by omega
      clear hx
      go_wp2_with fail
      go_roundw
      case rel => exact ⟨j + 1, m + (txtV l[j].s).size, by go_num, by go_num, by omega, by omega, trivial⟩
      case measure => simp only [intOf]; omega
    have hji : ¬ (j : Int) < l.length := by omega
    have hjl : j = l.length := by omega
    clear hlt hj
    by_cases hbig : 524288 < m ∨ 100000 < l.length
    · have hb : (524288 : Int) < m ∨ (¬ (524288 : Int) < m ∧ (100000 : Int) < l.length) := by omega
      clear hbig
      rcases hb with hb | ⟨hb, hb2⟩
      all_goals
        go_wp2_with (first | (go_at_call 15; refine (awake_any _ HV.out).mono ?_; rintro e w5 ⟨rfl, hb5⟩))
        go_ret
        exact ⟨rfl, hb5⟩
    have hb1 : ¬ (524288 : Int) < m := by omega
    have hb2 : ¬ (100000 : Int) < l.length := by omega
    clear hbig
    obtain ⟨J, hJ⟩ : ∃ J, J = joinR l := ⟨_, rfl⟩
    have C27 := Lib.hid (handed_any wr HH.out (Nat.le_refl _) (by omega))
    have C28 := Lib.hid (fun w' (hb : Below wr.heap.size wr w') (lo : Nat) (v : Value) (hh : Handed w' lo v l) => join_any w' (hh.tks hl48) (Nat.le_refl _) HTK.out (HV.out.tab.on hb))
    have C29 := Lib.hid (fun w' (hb : Below wr.heap.size wr w') => rjoin_any (B := wr.heap.size) w' (HH.out.keep fun b h => hb.block b h) hb.size HTK.out (HV.out.tab.on hb))
    have C30 := Lib.hid (fun w' (hb : Below wr.heap.size wr w') (lo : Nat) (v : Value) (hh : Handed w' lo v l) => left_any (B := wr.heap.size) w' hh (HH.out.keep fun b h => hb.block b h) hb.size)
    rw [← hJ] at C28 C29
    clear hJ
    go_wp2_with (first
      | (go_at_call 27; refine C27.out.mono ?_; rintro e w1 ⟨hb1', v1, rfl, hv1⟩; have HB1 := Lib.hid hb1'; have HV1 := Lib.hid hv1; clear hb1' hv1)
      | (go_at_call 28; refine (C28.out _ HB1.out _ _ HV1.out).mono ?_; rintro e w2 ⟨hb2', rfl⟩; have HB2 := Lib.hid (bnext HB1.out hb2'); have HV2 := Lib.hid (HV1.out.below hb2'); clear hb2')
      | (go_at_call 29; refine (C29.out _ HB2.out).mono ?_; rintro e w3 ⟨hb3', rfl⟩; have HB3 := Lib.hid (bnext HB2.out hb3'); have HV3 := Lib.hid (HV2.out.below hb3'); clear hb3')
      | (go_at_call 30; refine (C30.out _ HB3.out _ _ HV3.out).mono ?_; rintro e w4 ⟨rfl, hb4'⟩; have HB4 := Lib.hid (bnext HB3.out hb4'); clear hb4')
      | (go_at_call 15; refine (awake_any _ (HV.out.on HB4.out)).mono ?_; rintro e w5 ⟨rfl, hb5⟩))
    go_ret
    exact ⟨rfl, bnext HB4.out hb5⟩
theorem bulk_all {H : Type} {l : List (DataW H)} (h : Rows.uptoSmall H l = true) (d : DataW H) (hd : d ∈ l) : Rows.uptoBulk d ≤ 1048576 := by
  unfold Rows.uptoSmall at h
  have h := of_decide_eq_true h
  have := bulk_mem hd
  omega
theorem wordJoins_reads (os : Os) {H : Type} (enc : TypeId × Value → H) : ∃ places, DataW.whole enc Tryd.prog ((World.doorLaid Tryd.prog 4000 os).forCall (fun _ _ => 0) ⟨#[], #[.slice Option.none 0 0], []⟩).memory Tryd.f9.params.toList Rows.wordJoinsSpec.vars false (#[.slice Option.none 0 0] : Array Value).toList 8 = some ([.nil], [], places) :=
  ⟨[], by kernel_rfl⟩
set_option maxRecDepth 100000 in
theorem wordJoins_lifted (os : Os) (started : os.Started) (H : Type) (enc : TypeId × Value → H) (F : Stop.Interp) :
    ReturnsInHanded {} Tryd.checked os 9 .any ((Rows.OpenSpec.upto Rows.wordJoinsSpec).preRow enc Tryd.prog Tryd.f9 Rows.wordJoinsUptoRow.domain false Rows.wordJoinsUptoRow.laid) (((Rows.OpenSpec.upto Rows.wordJoinsSpec).at F).post enc Tryd.prog Tryd.f9 false true false false) := by
  obtain ⟨places, hx⟩ := wordJoins_reads os enc
  refine returnsInHanded_of_row (C := Tryd.checked) (s := Rows.OpenSpec.upto Rows.wordJoinsSpec) own started (by kernel_rfl) Tryd.func9
    (witness_row_atRef (enc := enc) (C := Tryd.checked) false (World.doorLaid Tryd.prog 4000 os) #[.slice Option.none 0 0] rfl (by kernel_rfl) (by kernel_rfl) (by kernel_rfl)
      (OpenSpec.preRow_of_cond 8 hx (by kernel_rfl) (fun k hk => by cases hk; kernel_rfl) (by kernel_rfl) (laidRun_met os _))) ?_
  intro W base args ds gs before hval hW _ hcond hsz hL _ _
  have hv := vars_of_laid hL
  refine LawRow.law_contract (tb := 4) (fn := Tryd.f9) (s := Rows.wordJoinsSpec) (by kernel_rfl) (by kernel_rfl) rfl rfl Tryd.underlying4 (fun ds h => ?_) hW (fun p hA0 hlt hgs => ?_)
  · match ds, h with
    | [_], _ => rfl
  · have hA : DataW.TrodAll enc Tryd.prog W 0 (fun _ => true) true Tryd.f9.params.toList args.toList ds p := hA0
    subst hgs
    rw [Tryd.params9] at hA hval
    obtain ⟨v, d, rfl, rfl, hd⟩ := trodAll_one hA
    obtain ⟨l, hl, hok, -, hlen⟩ := open_arg40 (hval 0 40 v rfl rfl) hd (fun q hq => hlt q hq) hsz 1048576 (bulk_all (hcond _ rfl) d (by simp))
    exact joins_law l v W hl (fun t ht => ⟨(hok t ht).2.1, (hok t ht).2.2.1, (hok t ht).2.2.2.1⟩) hlen hv
theorem wordJoins_holds : Rows.WordJoinsUptoSaid :=
  OpenClaim.holds_of_cond 9 Tryd.f9 rfl rfl rfl rfl rfl rfl rfl ⟨rfl, rfl, rfl, rfl, rfl⟩ rfl rfl rfl rfl rfl (by kernel_rfl) Tryd.func9 (by kernel_rfl)
    (of_decide_eq_true (by kernel_rfl)) (by unfold Func.isWrapper; first | (rw [if_pos (by decide +kernel)]; kernel_rfl) | (rw [if_neg (by decide +kernel)]; exact ⟨rfl, rfl⟩))
    (fun os started H enc _ F => by rw [OpenClaim.pre_eq_preRow]; exact wordJoins_lifted os started H enc F)
theorem wordJoins_plain (f : FuncId) (fn : Func) (hf : Tryd.pinned.checked.prog.funcNamed "postern/posternlaw03.WordJoins" = some f) (hfn : Tryd.pinned.checked.prog.funcs[f]? = some fn) :
    true = Tryd.pinned.checked.prog.looks [] ∧ ∀ (j : Nat) t, fn.params[j]? = some t → Tryd.pinned.checked.prog.wantsStandIn t = false := by
  obtain rfl : f = 9 := Option.some.inj ((show Tryd.prog.funcNamed "postern/posternlaw03.WordJoins" = some 9 by kernel_rfl).symm.trans hf) |>.symm
  obtain rfl : fn = Tryd.f9 := (Option.some.inj (Tryd.func9.symm.trans hfn)).symm
  refine ⟨by kernel_rfl, fun j t ht => ?_⟩
  have hall : (Tryd.f9.params.toList.all fun u => !Tryd.prog.wantsStandIn u) = true := by kernel_rfl
  have hm : t ∈ Tryd.f9.params.toList := by simpa using Array.mem_of_getElem? ht
  exact (show Tryd.prog.wantsStandIn t = false by simpa using List.all_eq_true.1 hall t hm)
theorem wordJoins_card : Rows.WordJoinsUptoCardSaid :=
  Claim7.holds_tied_plain_at .later [] _ _ _ _ wordJoins_holds (fun _ h => by cases h) (by kernel_rfl) (fun _ h => by cases h) wordJoinsUpto_row_tie rfl ⟨rfl, rfl⟩ (by kernel_rfl) rfl wordJoins_plain (by kernel_rfl)
end Go.Proofs.YtkhpfghehjcfoaaDoor
