/- The statement WordQuotes, where what it reads is of bulk at most 1048576: any bytes quoted, and any text told back as a quoted form, as the document says. -/
import Derived.Test.YtkhpfghehjcfoaaDoorT
import Derived.Test.YtkhpfghehjcfoaaDoorVd
import Derived.Test.YtkhpfghehjcfoaaDoorKa
namespace Go.Proofs.YtkhpfghehjcfoaaDoor
open Go.ChangeShapes Go.WideShapes Go.ChangeAt Go.RowKit

/-- What Unquote answers. -/
def unqX (s : ByteArray) : ByteArray × Int × Int := match unqL s.size s.data.toList with
  | .ok b _ => (txtV b, 0, 0)
  | .no t => (⟨#[]⟩, ((s.size - t.length : Nat) : Int), 30)
theorem UnqP.x {s : ByteArray} {e : Ending} (h : UnqP s e) : e = .returned (.tuple #[.string (unqX s).1, .int .i64 (unqX s).2.1, .int .i64 (unqX s).2.2]) := by
  unfold UnqP at h
  unfold unqX
  cases hL : unqL s.size s.data.toList with
  | no t => rw [hL] at h; exact h
  | ok x t => rw [hL] at h; exact h
set_option maxRecDepth 100000 in
set_option maxHeartbeats 4000000 in
theorem quotes_law (s : ByteArray) (hs : 4 * s.size + 2 ≤ 140737488351232) (w : World) (hv : Vars w) : Calls Tryd.prog 4 #[.string s] w fun e w' => e = .returned (.bool true) ∧ Below w.heap.size w w' := by
  obtain ⟨X, at_, er, hX⟩ : ∃ X a e, unqX s = (X, a, e) := ⟨_, _, _, rfl⟩
  have C16 := Lib.hid (fun w' => (unquote_any s (by omega) w').mono fun e w2 h => (show Below w'.heap.size w' w2 ∧ e = .returned (.tuple #[.string X, .int .i64 at_, .int .i64 er]) from ⟨h.1, by have := h.2.x; rw [hX] at this; exact this⟩))
  have C17 := Lib.hid (fun w' => (runquote_any s (by omega) w').mono fun e w2 h => (show Below w'.heap.size w' w2 ∧ e = .returned (.tuple #[.string X, .int .i64 at_, .int .i64 er]) from ⟨h.1, by have := h.2.x; rw [hX] at this; exact this⟩))
  obtain ⟨Q, hQ⟩ : ∃ Q, Q = txtV (quoteL s.data.toList) := ⟨_, rfl⟩
  have C18 := Lib.hid (fun w' => (Quote_any s (by omega) w'))
  have C19 := Lib.hid (fun w' => (rQuote_any s (by omega) w'))
  rw [← hQ] at C18 C19
  clear hX hQ
  have HV := Lib.hid hv
  clear hv
  go_enter Tryd.func4, Tryd.ntmps4
  go_wp2_with (first
    | (go_at_call 16; refine (C16.out _).mono ?_; rintro e w1 ⟨hb1, rfl⟩)
    | (go_at_call 17; refine (C17.out _).mono ?_; rintro e w2 ⟨hb2, rfl⟩)
    | (go_at_call 18; refine (C18.out _).mono ?_; rintro e w3 ⟨hb3, rfl⟩)
    | (go_at_call 19; refine (C19.out _).mono ?_; rintro e w4 ⟨hb4, rfl⟩; have HB4 := Lib.hid (bnext hb1 (bnext hb2 (bnext hb3 hb4))))
    | (go_at_call 15; refine (awake_any _ (HV.out.on HB4.out)).mono ?_; rintro e w5 ⟨rfl, hb5⟩))
  go_ret
  exact ⟨rfl, bnext HB4.out hb5⟩
/-- A text's bulk bounds its length. -/
theorem bulk_text {H : Type} {s : ByteArray} {l : List (DataW H)} (h : Rows.uptoSmall H (.lit (.string s.data.toList) :: l) = true) : s.size ≤ 1048576 := by
  unfold Rows.uptoSmall at h
  have h := of_decide_eq_true h
  simp only [Rows.uptoBulkAll, Rows.uptoBulk] at h
  have : s.data.toList.length = s.size := by simp
  omega
theorem wordQuotes_reads (os : Os) {H : Type} (enc : TypeId × Value → H) : ∃ places, DataW.whole enc Tryd.prog ((World.doorLaid Tryd.prog 4000 os).forCall (fun _ _ => 0) ⟨#[], #[.string ⟨#[]⟩], []⟩).memory Tryd.f4.params.toList Rows.wordQuotesSpec.vars false (#[.string ⟨#[]⟩] : Array Value).toList 8 = some ([.lit (.string [])], [], places) :=
  ⟨[], by kernel_rfl⟩
set_option maxRecDepth 100000 in
theorem wordQuotes_lifted (os : Os) (started : os.Started) (H : Type) (enc : TypeId × Value → H) (F : Stop.Interp) :
    ReturnsInHanded {} Tryd.checked os 4 .any ((Rows.OpenSpec.upto Rows.wordQuotesSpec).preRow enc Tryd.prog Tryd.f4 Rows.wordQuotesUptoRow.domain false Rows.wordQuotesUptoRow.laid) (((Rows.OpenSpec.upto Rows.wordQuotesSpec).at F).post enc Tryd.prog Tryd.f4 false true false false) := by
  obtain ⟨places, hx⟩ := wordQuotes_reads os enc
  refine returnsInHanded_of_row (C := Tryd.checked) (s := Rows.OpenSpec.upto Rows.wordQuotesSpec) own started (by kernel_rfl) Tryd.func4
    (witness_row_atRef (enc := enc) (C := Tryd.checked) false (World.doorLaid Tryd.prog 4000 os) #[.string ⟨#[]⟩] rfl (by kernel_rfl) (by kernel_rfl) (by kernel_rfl)
      (OpenSpec.preRow_of_cond 8 hx (by kernel_rfl) (fun k hk => by cases hk; kernel_rfl) (by kernel_rfl) (laidRun_met os _))) ?_
  intro W base args ds gs before hval hW _ hcond hsz hL _ _
  have hv := vars_of_laid hL
  refine LawRow.law_contract (tb := 4) (fn := Tryd.f4) (s := Rows.wordQuotesSpec) (by kernel_rfl) (by kernel_rfl) rfl rfl Tryd.underlying4 (fun ds h => ?_) hW (fun p hA0 hlt hgs => ?_)
  · match ds, h with
    | [_], _ => rfl
  · have hA : DataW.TrodAll enc Tryd.prog W 0 (fun _ => true) true Tryd.f4.params.toList args.toList ds p := hA0
    subst hgs
    rw [Tryd.params4] at hA hval
    obtain ⟨v, d, rfl, rfl, hd⟩ := trodAll_one hA
    obtain ⟨s, rfl, rfl, rfl, hs⟩ := Go.ChangeMaps.open_string Tryd.underlying9 (hval 0 9 v rfl rfl) hd
    have hb := bulk_text (hcond _ rfl)
    exact quotes_law s (by omega) W hv
theorem wordQuotes_holds : Rows.WordQuotesUptoSaid :=
  OpenClaim.holds_of_cond 4 Tryd.f4 rfl rfl rfl rfl rfl rfl rfl ⟨rfl, rfl, rfl, rfl, rfl⟩ rfl rfl rfl rfl rfl (by kernel_rfl) Tryd.func4 (by kernel_rfl)
    (of_decide_eq_true (by kernel_rfl)) (by unfold Func.isWrapper; first | (rw [if_pos (by decide +kernel)]; kernel_rfl) | (rw [if_neg (by decide +kernel)]; exact ⟨rfl, rfl⟩))
    (fun os started H enc _ F => by rw [OpenClaim.pre_eq_preRow]; exact wordQuotes_lifted os started H enc F)
theorem wordQuotes_plain (f : FuncId) (fn : Func) (hf : Tryd.pinned.checked.prog.funcNamed "postern/posternlaw03.WordQuotes" = some f) (hfn : Tryd.pinned.checked.prog.funcs[f]? = some fn) :
    true = Tryd.pinned.checked.prog.looks [] ∧ ∀ (j : Nat) t, fn.params[j]? = some t → Tryd.pinned.checked.prog.wantsStandIn t = false := by
  obtain rfl : f = 4 := Option.some.inj ((show Tryd.prog.funcNamed "postern/posternlaw03.WordQuotes" = some 4 by kernel_rfl).symm.trans hf) |>.symm
  obtain rfl : fn = Tryd.f4 := (Option.some.inj (Tryd.func4.symm.trans hfn)).symm
  refine ⟨by kernel_rfl, fun j t ht => ?_⟩
  have hall : (Tryd.f4.params.toList.all fun u => !Tryd.prog.wantsStandIn u) = true := by kernel_rfl
  have hm : t ∈ Tryd.f4.params.toList := by simpa using Array.mem_of_getElem? ht
  exact (show Tryd.prog.wantsStandIn t = false by simpa using List.all_eq_true.1 hall t hm)
theorem wordQuotes_card : Rows.WordQuotesUptoCardSaid :=
  Claim7.holds_tied_plain_at .later [] _ _ _ _ wordQuotes_holds (fun _ h => by cases h) (by kernel_rfl) (fun _ h => by cases h) wordQuotesUpto_row_tie rfl ⟨rfl, rfl⟩ (by kernel_rfl) rfl wordQuotes_plain (by kernel_rfl)
end Go.Proofs.YtkhpfghehjcfoaaDoor
