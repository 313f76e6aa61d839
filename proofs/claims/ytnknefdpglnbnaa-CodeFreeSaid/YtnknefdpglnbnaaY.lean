/- slices.ContainsFunc and IndexFunc over names, at makes$1. Small lemmas for makes: loads from a block known whole. -/
import Derived.Test.YtnknefdpglnbnaaU
import Derived.Test.YtnknefdpglnbnaaR
namespace Go.Proofs.Ytnknefdpglnbnaa
open Go.RowKit

set_option maxRecDepth 100000 in
set_option maxHeartbeats 1000000 in
theorem indexF_any {B : Nat} {v : Value} {l : List ByteArray} (w : World) (h : IsSs w B v l) (hB : B ≤ w.heap.size) :
    Calls Try.prog 123 #[v, .func (.func 156) #[] #[]] w fun e w' => (∃ i : Int, e = .returned (.int .i64 i) ∧ decide (0 ≤ i) = !(l.all mayN)) ∧ Below w.heap.size w w' := by
  obtain ⟨hlen, hsz, A, cap, hcap, rfl, h7⟩ := h
  have H7 := Lib.hid h7
  have hl : l.length ≤ 140737488351232 := by omega
  clear h7 hsz
  go_enter Try.func123, Try.ntmps123
  go_wp2_with fail
  go_loopw [8] (fun i wr => ∃ k : Nat, k ≤ l.length ∧ i = .int .i64 k ∧ (l.take k).all mayN = true ∧ Below w.heap.size w wr)
    (fun i _ => l.length - (intOf i).toNat)
  case atStart => exact ⟨0, Nat.zero_le _, rfl, by simp, Below.refl _ _⟩
  case round =>
    obtain ⟨k, hk, rfl, hu, hnx⟩ := hrel
    have HU := Lib.hid hu
    have HN := Lib.hid hnx
    clear hu hnx
    by_cases hlt : k < l.length
    · obtain ⟨b, o, hbB, hA, hx⟩ := H7.out (by rintro rfl; simp at hlt)
      subst hA
      have hcell : wr.cell? ⟨b, o + k, Option.none⟩ = some (.string l[k]) := (HN.out.cell (by show b < _; omega)).trans (hx k hlt)
      obtain ⟨sk, hsk⟩ : ∃ sk, sk = l[k] := ⟨_, rfl⟩
      rw [← hsk] at hcell
      have HK := Lib.hid hsk
      clear hsk hx
      have q := fun w' => makes1_any sk w'
      cases hm : mayN sk
      · have HM := Lib.hid hm
        rw [hm] at q
        clear hm
        go_wp2_with (go_at_call 156; refine (q _).mono ?_; rintro e w1 ⟨rfl, hb1⟩)
        go_ret
        refine ⟨⟨_, rfl, ?_⟩, HN.out.trans (hb1.mono HN.out.size)⟩
        have hf : l.all mayN = false := by
          rw [Bool.eq_false_iff]; intro ha
          have := List.all_eq_true.1 ha l[k] (List.getElem_mem hlt)
          rw [← HK.out, HM.out] at this; cases this
        simp [hf]
      · have HM := Lib.hid hm
        rw [hm] at q
        clear hm
        go_wp2_with (go_at_call 156; refine (q _).mono ?_; rintro e w1 ⟨rfl, hb1⟩)
        go_round
        case rel => exact ⟨k + 1, by omega, by go_num, by rw [List.take_succ_eq_append_getElem hlt, List.all_append, HU.out, ← HK.out]; simp [HM.out], HN.out.trans (hb1.mono HN.out.size)⟩
        case measure => simp [intOf]; omega
    · obtain rfl : k = l.length := by omega
      go_wp2_with fail
      go_ret
      exact ⟨⟨_, rfl, by have := HU.out; rw [List.take_length] at this; simp [this]⟩, HN.out⟩
theorem containsF_any {B : Nat} {v : Value} {l : List ByteArray} (w : World) (h : IsSs w B v l) (hB : B ≤ w.heap.size) :
    Calls Try.prog 87 #[v, .func (.func 156) #[] #[]] w fun e w' => e = .returned (.bool (!(l.all mayN))) ∧ Below w.heap.size w w' := by
  have HH := Lib.hid h
  obtain ⟨hlen, hsz, A, cap, hcap, rfl, h7⟩ := h
  clear h7 hsz
  go_enter Try.func87, Try.ntmps87
  go_wp2_with (go_at_call 123; refine (indexF_any _ HH.out hB).mono ?_; rintro e w1 ⟨⟨i, rfl, hi⟩, hb1⟩; have HI := Lib.hid hi; clear hi)
  go_ret
  exact ⟨by rw [← HI.out]; rfl, hb1⟩
end Go.Proofs.Ytnknefdpglnbnaa
namespace Go.Proofs.Ytnknefdpglnbnaa
open Go.RowKit

theorem SV.g0 (s : SV) (h : 0 < s.arr.size) : s.arr[0]'h = .int .u8 s.op := rfl
theorem SV.g1 (s : SV) (h : 1 < s.arr.size) : s.arr[1]'h = .string s.nm := rfl
theorem SV.g2 (s : SV) (h : 2 < s.arr.size) : s.arr[2]'h = .string s.sec := rfl
theorem SV.g3 (s : SV) (h : 3 < s.arr.size) : s.arr[3]'h = .int .u8 s.ab := rfl
theorem SV.g4 (s : SV) (h : 4 < s.arr.size) : s.arr[4]'h = .int .u8 s.wh := rfl
theorem SV.g5 (s : SV) (h : 5 < s.arr.size) : s.arr[5]'h = .int .u8 s.a0 := rfl
theorem SV.g6 (s : SV) (h : 6 < s.arr.size) : s.arr[6]'h = .int .i64 s.a1 := rfl
theorem SV.g7 (s : SV) (h : 7 < s.arr.size) : s.arr[7]'h = .string s.a2 := rfl
theorem SV.g8 (s : SV) (h : 8 < s.arr.size) : s.arr[8]'h = .slice s.aA s.al s.ac := rfl
theorem SV.g9 (s : SV) (h : 9 < s.arr.size) : s.arr[9]'h = .int .u8 s.b0 := rfl
theorem SV.g10 (s : SV) (h : 10 < s.arr.size) : s.arr[10]'h = .int .i64 s.b1 := rfl
theorem SV.g11 (s : SV) (h : 11 < s.arr.size) : s.arr[11]'h = .string s.b2 := rfl
theorem SV.g12 (s : SV) (h : 12 < s.arr.size) : s.arr[12]'h = .slice s.bA s.bl s.bc := rfl
theorem SV.g13 (s : SV) (h : 13 < s.arr.size) : s.arr[13]'h = .slice s.tA s.tl s.tc := rfl
theorem SV.g14 (s : SV) (h : 14 < s.arr.size) : s.arr[14]'h = .slice s.eA s.el s.ec := rfl
theorem SV.g15 (s : SV) (h : 15 < s.arr.size) : s.arr[15]'h = .slice s.cA s.cl s.cc := rfl
theorem SV.g16 (s : SV) (h : 16 < s.arr.size) : s.arr[16]'h = .slice s.wA s.wl s.wc := rfl
theorem wpQuiet_load {P : Program} {ops : Array Oper} {C : World → Prop} {Q : Act → Prop} {o : Oper} {rest : List Oper} {a : Act} (hg : o.guard = Option.none) (T : TypeId) (p : Operand) (hop : o.op = Op.load T p) (q : Addr) (hp : a.eval p = .pointer (some q)) (v : Value)
    (hl : ∀ w, C w → (loadVar T q).run P w = .ok v w) (h : wpQuiet P ops C Q rest (a.put o.dst v)) : wpQuiet P ops C Q (o :: rest) a := by
  refine wpQuiet_step fun K hK => ?_
  rw [if_pos (by simp [Region.wanted, hg])]
  refine ⟨v, fun w hw => ?_, hK _ h⟩
  simp [Oper.quietAt, execOp, hop, hp, Instr.loadAt, Instr.sureAddr, hl w hw, Result.andThen, Oper.quietUpon]
theorem wpList_load_blk {P : Program} {w : World} {ops : Array Oper} {rest : List Oper} {o : Oper} {a : Act} {Q : Exit → Act → World → Prop} (hg : o.guard = Option.none) (T : TypeId) (p : Operand) (hop : o.op = Op.load T p) (q : Addr) (hp : a.eval p = .pointer (some q)) (v : Value)
    (hl : (loadVar T q).run P w = .ok v w) (h : wpList P ops Q rest (a.put o.dst v) w) : wpList P ops Q (o :: rest) a w := by
  refine wpList_plain hg fun K hK => ?_
  unfold Oper.wp
  simp [execOp, hop, hp, Instr.loadAt, Instr.sureAddr, hl, Result.andThen]
  exact hK _ _ h
theorem wpList_move {P : Program} {w : World} {ops : Array Oper} {rest : List Oper} {o : Oper} {a : Act} {Q : Exit → Act → World → Prop} (hg : o.guard = Option.none) (v : Operand) (hop : o.op = Op.move v) (h : wpList P ops Q rest (a.put o.dst (a.eval v)) w) : wpList P ops Q (o :: rest) a w := by
  refine wpList_plain hg fun K hK => ?_
  unfold Oper.wp
  simp [execOp, hop]
  exact hK _ _ h
theorem BlkN.drew1 {w : World} {b : Nat} {T : TypeId} {cs : Array Value} (h : BlkN w b T cs) : BlkN w.drew b T cs := h
theorem blk_reb {w : World} {R : Nat} {U : TypeId} {n b : Nat} {T : TypeId} {cs : Array Value} (hR : R < w.heap.size) (h : BlkN w b T cs) (hb : b ≠ R) (p : RegQ.Reb n) : BlkN (RegQ.rebW w R U p) b T cs := ((RegQ.rebW_in (U := U) hR p).other b h.lt hb).trans h
end Go.Proofs.Ytnknefdpglnbnaa
