/- Clone of numbers; spare. -/
import Derived.Test.YthafojadcodkoaaUd
namespace Go.Proofs.Ythafojadcodkoaa
open Go.RowKit Go.ChangeMaps

/-- v is a slice with these cells. -/
def RowA (w : World) (v : Value) (cs : List Value) : Prop := ∃ A cap, v = .slice A cs.length cap ∧ cs.length ≤ cap ∧ (A = Option.none → cs = [] ∧ cap = 0) ∧ cs.length * 8 ≤ 140737488351232 ∧ (∀ u ∈ cs, u.oneCell' = true) ∧ ∀ ad, A = some ad → ∀ j u, cs[j]? = some u → ∃ b o, ad = ⟨b, o, Option.none⟩ ∧ b < w.heap.size ∧ w.cell? ⟨b, o + j, Option.none⟩ = some u
theorem info45 : (Try.prog.info? 45).map (fun i => (i.zero, i.size, i.bytes)) = some (some (.int .i64 0), 1, 8) := by kernel_rfl
section
variable {w : World} {hi p tm fm : Nat} {ps cs ms : Value} {L : List Ent} {FL : List ((Int × Nat) × Int)} {lt : Int}
attribute [local irreducible] wpList
set_option maxRecDepth 100000 in
set_option maxHeartbeats 2000000 in
theorem clone19_any (w : World) (v : Value) (cs : List Value) (h : RowA w v cs) :
    Calls Try.prog 19 #[v] w fun e w' => Below w.heap.size w w' ∧ ∃ A' cap', e = .returned (.slice A' cs.length cap') := by
  obtain ⟨A, cap, rfl, hcap, hn, hlen, h1, hc⟩ := h
  obtain ⟨i0, hi, hz0, hz1, hz2⟩ := info_parts info3
  have HIN := Lib.hid hi
  clear hi
  cases A with
  | none =>
    obtain ⟨rfl, rfl⟩ := hn rfl
    have heq := fun w => Lib.run_eql_slice_nil (P := Try.prog) w 23 3 Option.none 0 0 0 0 Try.underlying23
    clear hc hn h1
    go_enter Try.func19, Try.ntmps19
    go_wp2_with fail
    go_ret
    exact ⟨Below.refl _ _, _, _, rfl⟩
  | some ad =>
    have hcl := hc ad rfl
    have heq := fun w => Lib.run_eql_slice_nil (P := Try.prog) w 23 3 (some ad) cs.length cap 0 0 Try.underlying23
    have HCL := Lib.hid hcl
    have H1 := Lib.hid h1
    have hba : Below w.heap.size w (w.alloc (.cells #[] 3)) := (Below.refl _ _).alloc (Nat.le_refl _) _
    have HBA := Lib.hid hba
    have hown : (w.alloc (.cells #[] 3)).ownsRow w.heap.size 3 1 (.slice (some ⟨w.heap.size, 0, Option.none⟩) 0 0) 0 [] := ⟨rfl, .inr ⟨w.heap.size, 0, #[], rfl, Nat.le_refl _, (BlkN.at_ (w := w) rfl 3 #[]), Nat.le_refl _, by unfold maxLen; omega, rfl, rfl⟩⟩
    have HOWN := Lib.hid hown
    clear hc hn h1 hcl hba hown
    go_enter Try.func19, Try.ntmps19
    go_wp2_with (refine wpList_append_row _ rfl (.tmp 5) (.tmp 6) 23 rfl w.heap.size 3 i0 _ 1 8 Try.underlying23 HIN.out hz0 hz1 hz2 rfl (by decide) (.slice (some ⟨w.heap.size, 0, Option.none⟩) 0 0) 0 [] rfl HOWN.out ad cs.length cap cs rfl (by simp) ?hy2 H1.out ?hy4 ?hy5 ?hy6 ?_)
    case hy2 =>
      intro j u hu
      obtain ⟨b, o, had, hbw, hcc⟩ := HCL.out j u hu
      rw [had, Addr.add_lit]
      exact (HBA.out.cell (p := ⟨b, o + j, Option.none⟩) hbw).trans hcc
    case hy4 => unfold maxLen; omega
    case hy5 => omega
    case hy6 => simp
    intro v' w3 hown' hgrow hor
    have hb3 : Below w.heap.size w w3 := HBA.out.grown hgrow (by simp) (fun g hg => by simp [Value.ownBlock] at hg; omega)
    have HB3 := Lib.hid hb3
    obtain ⟨A2, cap2, he⟩ : ∃ A2 cap2, v' = .slice A2 cs.length cap2 := by
      rcases hown'.2 with ⟨rfl, h0⟩ | ⟨g, cap2, cur, rfl, _⟩
      · exact ⟨_, _, by rw [show cs.length = 0 by omega]⟩
      · first | exact ⟨_, _, rfl⟩ | exact ⟨_, _, by rw [Nat.zero_add]⟩
    subst he
    clear hown' hgrow hor hb3
    go_wp2_with fail
    go_ret
    exact ⟨HB3.out, _, _, rfl⟩
set_option maxRecDepth 100000 in
set_option maxHeartbeats 2000000 in
theorem clone26_any (w : World) (v : Value) (cs : List Value) (h : RowA w v cs) :
    Calls Try.prog 26 #[v] w fun e w' => Below w.heap.size w w' ∧ ∃ A' cap', e = .returned (.slice A' cs.length cap') := by
  obtain ⟨A, cap, rfl, hcap, hn, hlen, h1, hc⟩ := h
  obtain ⟨i0, hi, hz0, hz1, hz2⟩ := info_parts info45
  have HIN := Lib.hid hi
  clear hi
  cases A with
  | none =>
    obtain ⟨rfl, rfl⟩ := hn rfl
    have heq := fun w => Lib.run_eql_slice_nil (P := Try.prog) w 22 45 Option.none 0 0 0 0 Try.underlying22
    clear hc hn h1
    go_enter Try.func26, Try.ntmps26
    go_wp2_with fail
    go_ret
    exact ⟨Below.refl _ _, _, _, rfl⟩
  | some ad =>
    have hcl := hc ad rfl
    have heq := fun w => Lib.run_eql_slice_nil (P := Try.prog) w 22 45 (some ad) cs.length cap 0 0 Try.underlying22
    have HCL := Lib.hid hcl
    have H1 := Lib.hid h1
    have hba : Below w.heap.size w (w.alloc (.cells #[] 45)) := (Below.refl _ _).alloc (Nat.le_refl _) _
    have HBA := Lib.hid hba
    have hown : (w.alloc (.cells #[] 45)).ownsRow w.heap.size 45 1 (.slice (some ⟨w.heap.size, 0, Option.none⟩) 0 0) 0 [] := ⟨rfl, .inr ⟨w.heap.size, 0, #[], rfl, Nat.le_refl _, (BlkN.at_ (w := w) rfl 45 #[]), Nat.le_refl _, by unfold maxLen; omega, rfl, rfl⟩⟩
    have HOWN := Lib.hid hown
    clear hc hn h1 hcl hba hown
    go_enter Try.func26, Try.ntmps26
    go_wp2_with (refine wpList_append_row _ rfl (.tmp 5) (.tmp 6) 22 rfl w.heap.size 45 i0 _ 1 8 Try.underlying22 HIN.out hz0 hz1 hz2 rfl (by decide) (.slice (some ⟨w.heap.size, 0, Option.none⟩) 0 0) 0 [] rfl HOWN.out ad cs.length cap cs rfl (by simp) ?hy2 H1.out ?hy4 ?hy5 ?hy6 ?_)
    case hy2 =>
      intro j u hu
      obtain ⟨b, o, had, hbw, hcc⟩ := HCL.out j u hu
      rw [had, Addr.add_lit]
      exact (HBA.out.cell (p := ⟨b, o + j, Option.none⟩) hbw).trans hcc
    case hy4 => unfold maxLen; omega
    case hy5 => omega
    case hy6 => simp
    intro v' w3 hown' hgrow hor
    have hb3 : Below w.heap.size w w3 := HBA.out.grown hgrow (by simp) (fun g hg => by simp [Value.ownBlock] at hg; omega)
    have HB3 := Lib.hid hb3
    obtain ⟨A2, cap2, he⟩ : ∃ A2 cap2, v' = .slice A2 cs.length cap2 := by
      rcases hown'.2 with ⟨rfl, h0⟩ | ⟨g, cap2, cur, rfl, _⟩
      · exact ⟨_, _, by rw [show cs.length = 0 by omega]⟩
      · first | exact ⟨_, _, rfl⟩ | exact ⟨_, _, by rw [Nat.zero_add]⟩
    subst he
    clear hown' hgrow hor hb3
    go_wp2_with fail
    go_ret
    exact ⟨HB3.out, _, _, rfl⟩

set_option maxRecDepth 100000 in
set_option maxHeartbeats 2000000 in
theorem ones46_any (a : Int) (h0 : 0 ≤ a) (h1 : a < 64) (w : World) : Calls Try.prog 46 #[.int .u64 a] w fun e w' => (∃ v : Int, e = .returned (.int .i64 v) ∧ 0 ≤ v ∧ v ≤ 127) ∧ w = w' := by
  obtain ⟨m, rfl⟩ : ∃ m : Fin 64, a = ((m : Nat) : Int) := ⟨⟨a.toNat, by omega⟩, by simp; omega⟩
  clear h0 h1
  go_enter Try.func46, Try.ntmps46
  go_wp2_with fail
  go_ret
  refine ⟨⟨_, rfl, ?_⟩, rfl⟩
  clear w
  revert m
  decide +kernel
set_option maxRecDepth 100000 in
set_option maxHeartbeats 4000000 in
theorem spare_any (h : Wd w hi p tm fm ps cs ms L FL lt) (hnd : (L.map (·.r)).Nodup) (hall : ∀ E ∈ L, ∃ n, endsF (gr L) n E.r = true) :
    Calls Try.prog 18 #[.pointer (some ⟨p, 0, Option.none⟩)] w fun e w' => Below w.heap.size w w' ∧ ∃ v : Int, e = .returned (.int .i64 v) := by
  obtain ⟨P, hP1, hP2⟩ : ∃ P : Ending → World → Prop, (∀ (w' : World) (v : Int), Below w.heap.size w w' → P (.returned (.int .i64 v)) w') ∧ (∀ e w', P e w' → Below w.heap.size w w' ∧ ∃ v : Int, e = .returned (.int .i64 v)) := ⟨_, fun w' v h1 => ⟨h1, v, rfl⟩, fun e w' h => h⟩
  refine Calls.mono (R := P) ?_ hP2
  have HP := Lib.hid hP1
  clear hP1 hP2
  have c2 := h.blk.cell (v := .map (some tm)) 2 rfl
  have HW := Lib.hid h
  obtain ⟨es, clock, hb, hm, hnb, hold⟩ := h.things
  have htl := h.things.lt
  have HMB := Lib.hid hb
  have HM := Lib.hid hm
  have HNB := Lib.hid hnb
  have HOLD := Lib.hid hold
  have HND := Lib.hid hnd
  have HALL := Lib.hid hall
  clear h hb hm hnb hold hnd hall
  go_enter Try.func18, Try.ntmps18
  go_wp2_with (refine wpList_range _ rfl (.tmp 9) rfl tm rfl HMB.out ?_; intro w1 hb1 hi1; have HB1 := Lib.hid hb1; have HI1 := Lib.hid hi1; clear hb1 hi1)
  go_simp
  go_loopw [3] (fun nv wr => ∃ (n : Int) (seen : Array Nat), nv = .int .i64 n ∧ It wr w.heap.size tm clock seen ∧ Below w.heap.size w wr) (fun _ wr => (leftOf es (wr.iterSeen w.heap.size)).size)
  case atStart => exact ⟨0, _, rfl, HI1.out, HB1.out⟩
  case round =>
    obtain ⟨n, seen, rfl, hit, hbr⟩ := hrel
    have HIT := Lib.hid hit
    have HBR := Lib.hid hbr
    have hrl := hit.lt
    clear hit hbr HI1 HB1 c2
    have htb : wr.heap[tm]? = some (.map es clock) := (HBR.out.block tm htl).trans HMB.out
    have HTB := Lib.hid htb
    clear htb
    go_upto_region 3 with fail
    refine wp_region_lit ?_
    refine wpList_nextT wr rfl (.tmp 10) rfl w.heap.size tm rfl HIT.out HTB.out HOLD.out HM.out (fun hs => ?_) (fun e he E hE hk hv w2 hu hit2 => ?_)
    · clear hs
      go_wp2_with fail
      exact HP.out _ _ HBR.out
    · have hem := (mem_left he).1
      have HEM := Lib.hid hem
      have HB2 := Lib.hid (below_upd HBR.out hu (Nat.le_refl _) HBR.out.size)
      have HT2 : Hid (w2.heap[tm]? = some (.map es clock)) := Lib.hid ((HB2.out.block tm htl).trans HMB.out)
      have HIT2 := Lib.hid hit2
      have HW2 := Lib.hid (HW.out.below HB2.out)
      have HK := Lib.hid hk
      have HV := Lib.hid hv
      have hw2 := HB2.out.size
      have HLT := Lib.hid (left_shrinks es seen e he)
      obtain ⟨N, hN⟩ := HALL.out E hE
      have ha64 := able_lt hN
      have C7 := Lib.hid (able_any HW2.out E.r _ ⟨N, hN, rfl⟩)
      obtain ⟨a, ha⟩ : ∃ a, a = ableF (gr L) N E.r := ⟨_, rfl⟩
      rw [← ha] at C7 ha64
      have C46 := fun w' => ones46_any (a : Int) (by omega) (by omega) w'
      have HC46 := Lib.hid C46
      have hblk := (HW2.out.each _ hE).2.1
      have k0 := hblk.cell (v := .int .u8 E.s.k) 0 E.s.at0
      clear he hem hE hk hv hu hit2 hblk C46 ha hN
      go_upto_region 4 with fail
      refine wp_region_lit ?_
      refine wpList_entryT (E := E) w2 rfl (.tmp 10) rfl w.heap.size tm rfl HIT2.out HT2.out HEM.out HNB.out HK.out HV.out ?_
      cases h14 : (E.s.k == 14) with
      | true =>
        go_wp2_with fail
        go_roundw
        case rel => exact ⟨_, _, rfl, HIT2.out, HB2.out⟩
        case measure => rw [HIT2.out.seen, HIT.out.seen]; exact HLT.out
      | false =>
        go_wp2_with (first
          | (go_at_call 7; with_reducible refine C7.out.mono ?_; rintro e3 w3 ⟨hb3, rfl⟩; have HB3 := Lib.hid (bnext HB2.out hb3); have HIT3 := Lib.hid (HIT2.out.keep (hb3.block _ HIT2.out.lt)); clear hb3)
          | (go_at_call 46; with_reducible refine (HC46.out _).mono ?_; rintro e4 w4 ⟨⟨v4, rfl, hv0, hv1⟩, rfl⟩))
        go_roundw
        case rel => exact ⟨_, _, rfl, HIT3.out, HB3.out⟩
        case measure => rw [HIT3.out.seen, HIT.out.seen]; exact HLT.out
end
end Go.Proofs.Ythafojadcodkoaa
