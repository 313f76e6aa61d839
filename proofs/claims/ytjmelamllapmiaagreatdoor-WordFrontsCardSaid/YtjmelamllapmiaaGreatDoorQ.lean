/- package word: Cut. -/
import Derived.Test.YtjmelamllapmiaaGreatDoorPb
namespace Go.Proofs.YtjmelamllapmiaaGreatDoor
open Go.RowKit

/-- Tokens' cells, one behind the other. -/
def tkCells : List Tk → List Value
  | [] => []
  | t :: l => t.arr.toList ++ tkCells l
theorem tkCells_append : ∀ (a b : List Tk), tkCells (a ++ b) = tkCells a ++ tkCells b
  | [], b => rfl
  | t :: a, b => by simp [tkCells, tkCells_append a b]
/-- A row of tokens of the call's own. -/
def TRow (w : World) (lo : Nat) (v : Value) (l : List Tk) : Prop := w.ownsRow lo 58 5 v l.length (tkCells l)
theorem TRow.nil (w : World) (lo : Nat) : TRow w lo (.slice Option.none 0 0) [] := World.ownsRow_nil _ _ _ _
theorem TRow.slice {w : World} {lo : Nat} {v : Value} {l : List Tk} (h : TRow w lo v l) : ∃ A cap, v = .slice A l.length cap ∧ l.length ≤ cap := by
  rcases h.2 with ⟨rfl, h0⟩ | ⟨g, cap, cur, rfl, hb, hg, hc, _⟩
  · exact ⟨_, 0, by rw [h0], by omega⟩
  · exact ⟨_, cap, rfl, hc⟩
theorem TRow.below {w w' : World} {lo : Nat} {v : Value} {l : List Tk} (h : TRow w lo v l) (hb : Below w.heap.size w w') : TRow w' lo v l := own_below h hb
theorem TRow.upd {p : Nat} {w w' : World} {lo : Nat} {v : Value} {l : List Tk} (h : TRow w lo v l) (hu : Upd p w w') (hp : p < lo) : TRow w' lo v l := own_upd h hu hp
theorem TRow.blk {w : World} {lo : Nat} {v : Value} {l : List Tk} (h : TRow w lo v l) {g : Nat} (hg : v.ownBlock = some g) : lo ≤ g ∧ g < w.heap.size := World.ownsRow.lt h g hg
theorem TRow.low {w : World} {lo lo' : Nat} {v : Value} {l : List Tk} (h : TRow w lo v l) (hl : lo' ≤ lo) : TRow w lo' v l :=
  ⟨h.1, h.2.imp id fun ⟨g, cap, cur, a1, a2, a3⟩ => ⟨g, cap, cur, a1, Nat.le_trans hl a2, a3⟩⟩
theorem wpList_append_tk (w : World) {ops : Array Oper} {rest : List Oper} {o : Oper} {a : Act} {Q : Exit → Act → World → Prop} (hgd : o.guard = Option.none) (s x : Operand)
    (ho : o.op = .call { callee := .builtin .append, args := #[s, x], argTypes := #[22, 22] })
    (lo : Nat) (v : Value) (l : List Tk) (hs : a.eval s = v) (hown : TRow w lo v l) (g : Nat) (t : Tk) (hx : a.eval x = .slice (some ⟨g, 0, Option.none⟩) 1 1)
    (hg : BlkN w g 58 t.arr) (hlen : l.length ≤ 2932031007317) (hbase : lo ≤ w.heap.size)
    (h : ∀ v' w', TRow w' lo v' (l ++ [t]) → w.grownBy w' v.ownBlock → wpList Tryz.prog ops Q rest (a.put o.dst v') w') : wpList Tryz.prog ops Q (o :: rest) a w := by
  obtain ⟨i0, hi, hz0, hz1, hz2⟩ := info_parts info56
  refine wpList_append_row w hgd s x 22 ho lo 58 i0 (.agg zeroT) 5 48 Tryz.underlying22 hi hz0 hz1 hz2 rfl (by decide) v l.length (tkCells l) hs hown ⟨g, 0, Option.none⟩ 1 1 t.arr.toList hx rfl (fun j u hu => ?_) (fun u hu => ?_) (by unfold maxLen; omega) (by omega) hbase ?_
  · rw [add_lit, hg.cell_eq]
    simpa using hu
  · simp only [Tk.arr, List.mem_cons, List.not_mem_nil, or_false] at hu
    rcases hu with rfl | rfl | rfl | rfl | rfl <;> rfl
  · intro v' w' h1 h2 h3
    refine h v' w' ?_ h2
    unfold TRow
    rw [tkCells_append, List.length_append]
    simpa [tkCells] using h1
/-- What Cut reads: tokens, or where it is stuck; tight: does a token that is no sign end right here? -/
def cutL (N : Nat) : Nat → L8 → Bool → List Tk → Rs (List Tk)
  | 0, t, _, _ => .no t
  | _ + 1, [], _, l => .ok l []
  | f + 1, c :: t, tight, l =>
    if c = 32 then cutL N f t false l
    else if tight = true ∧ sgnB c = false then .no (c :: t)
    else match tokL N ((N - (c :: t).length : Nat) : Int) (c :: t) with
      | .no r => .no r
      | .ok k r => cutL N f r (decide (k.k ≠ 5)) (l ++ [k])
theorem cutL_blank (N f : Nat) (c : UInt8) (t : L8) (tight : Bool) (l : List Tk) (h : c = 32) : cutL N (f + 1) (c :: t) tight l = cutL N f t false l := by rw [cutL, if_pos h]
theorem cutL_bad (N f : Nat) (c : UInt8) (t : L8) (tight : Bool) (l : List Tk) (h : c ≠ 32) (h2 : tight = true ∧ sgnB c = false) : cutL N (f + 1) (c :: t) tight l = .no (c :: t) := by rw [cutL, if_neg h, if_pos h2]
theorem cutL_tok (N f : Nat) (c : UInt8) (t : L8) (tight : Bool) (l : List Tk) (h : c ≠ 32) (h2 : ¬ (tight = true ∧ sgnB c = false)) : cutL N (f + 1) (c :: t) tight l = match tokL N ((N - (c :: t).length : Nat) : Int) (c :: t) with
      | .no r => .no r
      | .ok k r => cutL N f r (decide (k.k ≠ 5)) (l ++ [k]) := by
  rw [cutL, if_neg h, if_neg h2]
/-- What Cut answers: the tokens, and, of the rest, where it is stuck. -/
def cutR (s : ByteArray) : Rs (List Tk) := cutL s.size (s.size + 1) s.data.toList false []
def CutP (s : ByteArray) (n : Nat) (e : Ending) (w' : World) : Prop :=
  if 1048576 < s.size then e = .returned (.tuple #[.slice Option.none 0 0, .int .i64 0, .int .i64 4])
  else match cutR s with
  | .ok l _ => ∃ v, e = .returned (.tuple #[v, .int .i64 0, .int .i64 0]) ∧ TRow w' n v l
  | .no t => e = .returned (.tuple #[.slice Option.none 0 0, .int .i64 ((s.size - t.length : Nat) : Int), .int .i64 30])
set_option maxRecDepth 100000 in
set_option maxHeartbeats 4000000 in
theorem cut_at (s : ByteArray) (hs : s.size ≤ 140737488351232) (w : World) (n : Nat) (hn : n = w.heap.size) (tp : TypeId) (q : Value) (hV : w.var? Tryz.prog "strconv.ErrRange" = some #[.iface tp q]) : Calls Tryz.prog 36 #[.string s] w fun e w' => Below n w w' ∧ CutP s n e w' := by
  have hmf : ∀ (fn : Fn) (first cap : Array Value) (w : World), (Instr.makeFunc fn first cap).run Tryz.prog w = .ok (.func fn first cap) w := fun _ _ _ _ => rfl
  go_enter_defers Tryz.func36, Tryz.ntmps36
  by_cases hlong : 1048576 < s.size
  · have hl2 : (1048576 : Int) < (s.size : Nat) := by omega
    go_wp2_with fail
    refine ⟨_, results_cells (b := w.heap.size) (b1 := w.heap.size + 1) (b2 := w.heap.size + 1 + 1) rfl rfl rfl rfl (load40 (((BlkN.at_ rfl _ _).alloc _).alloc _)) (load3 ((BlkN.at_ (by simp) _ _).alloc _)) (load27 (BlkN.at_ (by simp) _ _)), ?_, ?_⟩
    · rw [hn]; exact (((Below.refl _ w).alloc (Nat.le_refl _) _).alloc (by simp) _).alloc (by simp; omega) _
    · unfold CutP; rw [if_pos hlong]
  have hl2 : ¬ (1048576 : Int) < (s.size : Nat) := by omega
  go_wp2_with fail
  obtain ⟨W, hW⟩ : ∃ W, W = (((w.alloc (.cells #[.slice Option.none 0 0] 22)).alloc (.cells #[.int .i64 0] 3)).alloc (.cells #[.int .i64 0] 29)).alloc (.cells #[.string s, .int .i64 0, .int .i64 0] 139) := ⟨_, rfl⟩
  have HB : Hid (Below n w W) := Lib.hid (by rw [hW, hn]; exact ((((Below.refl _ w).alloc (Nat.le_refl _) _).alloc (by simp) _).alloc (by simp; omega) _).alloc (by simp; omega) _)
  have HZ : Hid (BlkN W n 22 #[.slice Option.none 0 0]) := Lib.hid (by rw [hW, hn]; exact (((BlkN.at_ rfl _ _).alloc _).alloc _).alloc _)
  have HA : Hid (BlkN W (n + 1) 3 #[.int .i64 0]) := Lib.hid (by rw [hW, hn]; exact ((BlkN.at_ (by simp) _ _).alloc _).alloc _)
  have HE : Hid (BlkN W (n + 1 + 1) 29 #[.int .i64 0]) := Lib.hid (by rw [hW, hn]; exact (BlkN.at_ (by simp) _ _).alloc _)
  have HR : Hid (Rdr W (n + 1 + 1 + 1) s 0 0) := Lib.hid (by rw [hW, hn]; exact BlkN.at_ (by simp) _ _)
  have HS : Hid (W.heap.size = n + 1 + 1 + 1 + 1) := Lib.hid (by rw [hW, hn]; simp)
  have HN := Lib.hid hn
  have HV := Lib.hid hV
  rw [← hW, ← hn]
  clear hW hn hV
  obtain ⟨R, hR⟩ : ∃ R, R = cutL s.size (s.size + 1) (rest s 0) false [] := ⟨_, rfl⟩
  have HR0 := Lib.hid hR
  clear hR
  have hlong2 := Lib.hid hlong
  clear hlong
  go_loopw [6, 7, 8] (fun bh _ _ wr => ∃ (j f : Nat) (b : Int) (tight : Bool) (l : List Tk) (v : Value), bh = .int .i64 b ∧ j ≤ s.size ∧ s.size - j < f ∧ l.length ≤ j ∧ Rdr wr (n + 1 + 1 + 1) s j 0 ∧ BlkN wr n 22 #[v] ∧ BlkN wr (n + 1) 3 #[.int .i64 0] ∧ BlkN wr (n + 1 + 1) 29 #[.int .i64 0] ∧ TRow wr (n + 1 + 1 + 1 + 1) v l ∧ Below n w wr ∧ b ≤ j ∧ tight = decide (b = j) ∧ cutL s.size f (rest s j) tight l = R) (fun _ _ _ wr => s.size - posOf wr (n + 1 + 1 + 1))
  case atStart => exact ⟨0, s.size + 1, -1, false, [], _, rfl, by omega, by omega, by simp, HR.out, HZ.out, HA.out, HE.out, TRow.nil _ _, HB.out, by omega, rfl, HR0.out.symm⟩
  case round =>
    obtain ⟨j, f, b, tight, l, v, rfl, hj, hf, hlj, hr, hz, ha, he, hv, hb, hbj, ht, hc⟩ := hrel
    have HRJ := Lib.hid hr
    have HZJ := Lib.hid hz
    have HAJ := Lib.hid ha
    have HEJ := Lib.hid he
    have HBJ := Lib.hid hb
    have HCJ := Lib.hid hc
    have HTJ := Lib.hid ht
    obtain ⟨A, cap, rfl, hcap⟩ := hv.slice
    have HVJ := Lib.hid hv
    have hp := hr.lt
    have c1 := hr.cell 1 rfl
    have f1 := hr.free 1
    have z0 := hz.cell 0 rfl
    have y0 := hz.free 0
    have g0 := hz.lt
    have hsn : n + 1 + 1 + 1 + 1 ≤ wr.heap.size := hr.lt
    clear hr hz hb hc hv ht
    by_cases hjl : j < s.size
    rotate_left
    · have hnj : ¬ (j : Int) < (s.size : Nat) := by omega
      have a0 := ha.cell 0 rfl
      have fa := ha.free 0
      have b0 := he.cell 0 rfl
      have fb := he.free 0
      have g1 := ha.lt
      have g2 := he.lt
      clear ha he
      go_wp2_with fail
      have k0 := ((BlkN.set HZJ.out 0 (.slice A l.length cap)).setOther (q := ⟨n + 1, 0, Option.none⟩) (by show n ≠ n + 1; omega) (.int .i64 0)).setOther (q := ⟨n + 1 + 1, 0, Option.none⟩) (by show n ≠ n + 1 + 1; omega) (.int .i64 0)
      have k1 := (BlkN.set (HAJ.out.setOther (q := ⟨n, 0, Option.none⟩) (by show n + 1 ≠ n; omega) (.slice A l.length cap)) 0 (.int .i64 0)).setOther (q := ⟨n + 1 + 1, 0, Option.none⟩) (by show n + 1 ≠ n + 1 + 1; omega) (.int .i64 0)
      have k2 := BlkN.set ((HEJ.out.setOther (q := ⟨n, 0, Option.none⟩) (by show n + 1 + 1 ≠ n; omega) (.slice A l.length cap)).setOther (q := ⟨n + 1, 0, Option.none⟩) (by show n + 1 + 1 ≠ n + 1; omega) (.int .i64 0)) 0 (.int .i64 0)
      refine leave20_idle rfl rfl rfl (load40 (by simpa using k0)) (by simpa using k1) (by simpa using k2) ⟨?_, ?_⟩ (.inr rfl)
      · exact ((HBJ.out.setCell (p := ⟨n, 0, Option.none⟩) (Nat.le_refl _) _).setCell (p := ⟨n + 1, 0, Option.none⟩) (by show n ≤ n + 1; omega) _).setCell (p := ⟨n + 1 + 1, 0, Option.none⟩) (by show n ≤ n + 1 + 1; omega) _
      · obtain ⟨f', rfl⟩ : ∃ f', f = f' + 1 := ⟨f - 1, by omega⟩
        have hRR : R = .ok l [] := by rw [← HCJ.out, rest_end (by omega)]; rfl
        have hcr : cutR s = .ok l [] := by rw [← hRR, HR0.out]; rfl
        unfold CutP
        rw [if_neg hlong2.out, hcr]
        refine ⟨_, rfl, ?_⟩
        exact ((((HVJ.out.upd ((Upd.refl n wr).set 0 _) (by omega)).upd ((Upd.refl (n + 1) _).set 0 _) (by omega)).upd ((Upd.refl (n + 1 + 1) _).set 0 _) (by omega)).low (by omega))
    clear ha he
    obtain ⟨c, hc⟩ : ∃ c, c = s[j] := ⟨_, rfl⟩
    have HRC : Hid (rest s j = c :: rest s (j + 1)) := Lib.hid (by rw [rest_cons hjl, hc])
    obtain ⟨f', rfl⟩ : ∃ f', f = f' + 1 := ⟨f - 1, by omega⟩
    have HC := Lib.hid hc
    go_upto_region 8 with fail
    rw [← hc]
    clear hc
    have hc0 : c.toNat < 256 := c.toNat_lt
    by_cases h32 : c = 32
    · have hb32 : ((c.toNat : Int) == 32) = true := by rw [h32]; rfl
      have H32 := Lib.hid h32
      clear h32
      go_wp2_with fail
      go_roundw
      case rel => exact ⟨j + 1, f', b, false, l, _, rfl, by omega, by omega, by omega, Rdr.adv HRJ.out, HZJ.out.setOther (q := ⟨n + 1 + 1 + 1, 1, Option.none⟩) (by show n ≠ n + 1 + 1 + 1; omega) _, HAJ.out.setOther (q := ⟨n + 1 + 1 + 1, 1, Option.none⟩) (by show n + 1 ≠ n + 1 + 1 + 1; omega) _, HEJ.out.setOther (q := ⟨n + 1 + 1 + 1, 1, Option.none⟩) (by show n + 1 + 1 ≠ n + 1 + 1 + 1; omega) _, HVJ.out.upd ((Upd.refl (n + 1 + 1 + 1) wr).set 1 _) (by omega), HBJ.out.setCell (p := ⟨n + 1 + 1 + 1, 1, Option.none⟩) (by show n ≤ n + 1 + 1 + 1; omega) _, by omega, by rw [decide_eq_false (by omega)], by rw [← HCJ.out, HRC.out, cutL_blank _ _ _ _ _ _ H32.out]⟩
      case measure => rw [(Rdr.adv HRJ.out).pos, HRJ.out.pos]; omega
    have hb32 : ((c.toNat : Int) == 32) = false := u8_beq (n := 32) (by decide) h32
    have H32 := Lib.hid h32
    clear h32
    obtain ⟨sg, hsg⟩ : ∃ sg, sg = sgnB c := ⟨_, rfl⟩
    have C49 : Hid (∀ w, Calls Tryz.prog 80 #[.int .u8 (c.toNat : Nat)] w fun e w' => e = .returned (.bool sg) ∧ w' = w) := Lib.hid (fun w => by rw [hsg]; exact sign_any c w)
    have HSG := Lib.hid hsg
    clear hsg
    have ha := HAJ.out
    have he := HEJ.out
    have HCR : Hid (∀ t, R = .no t → cutR s = .no t) := Lib.hid (fun t h => by rw [← h, HR0.out]; rfl)
    by_cases hbad : b = j ∧ sg = false
    · obtain ⟨hbj1, rfl⟩ := hbad
      have hbq : ((j : Int) == b) = true := by rw [hbj1]; simp
      have HB1 := Lib.hid hbj1
      clear hbj1 ha he
      go_wp2_with (first | (go_at_call 80; refine (C49.out _).mono ?_; rintro e w1 ⟨rfl, hw1⟩; rw [hw1]; clear hw1) | (go_at_call 81; refine (wrong_any s j 0 _ (n + 1 + 1 + 1) HRJ.out).mono ?_; rintro e w4 ⟨hb4, rfl⟩))
      refine leave20_stuck rfl rfl rfl (by omega) (by omega) (BlkN.below HZJ.out hb4) (BlkN.below HAJ.out hb4) (BlkN.below HEJ.out hb4) fun V' hb => ?_
      refine ⟨HBJ.out.trans ((hb4.mono (by omega)).trans hb), ?_⟩
      have hRR : R = .no (rest s j) := by
        rw [← HCJ.out, HRC.out]
        exact cutL_bad _ _ _ _ _ _ H32.out ⟨by rw [HTJ.out, HB1.out]; simp, HSG.out.symm⟩
      unfold CutP
      rw [if_neg hlong2.out, HCR.out _ hRR]
      simp only [rest_len]
      rw [show s.size - (s.size - j) = j by omega]
    have HTE : Hid (R = match tokL s.size j (rest s j) with | .no r => .no r | .ok k r => cutL s.size f' r (decide (k.k ≠ 5)) (l ++ [k])) := Lib.hid (by
      have e1 : ((s.size - (c :: rest s (j + 1)).length : Nat) : Int) = j := by rw [← HRC.out, rest_len]; omega
      have h1 := cutL_tok s.size f' c (rest s (j + 1)) tight l H32.out (fun h => hbad ⟨by have := HTJ.out; rw [h.1] at this; simpa using this.symm, by rw [HSG.out]; exact h.2⟩)
      rw [e1, ← HRC.out, HCJ.out] at h1
      exact h1)
    have hpn : n + 1 + 1 + 1 < wr.heap.size := hp
    have C50 := token_any s j 0 wr (n + 1 + 1 + 1) HRJ.out hjl hs c HC.out ⟨tp, q, fun W' hW' => varB HV.out (by
      have h1 := hW'.toBelow (a := w) (by have := HN.out; omega) (by have := HN.out; rw [← this]; exact HBJ.out)
      exact h1)⟩
    unfold TokP at C50
    cases hT : tokL s.size j (rest s j) with
    | no t =>
      rw [hT] at C50 HTE
      have HC50 := Lib.hid C50
      clear C50 hT
      have HBAD := Lib.hid hbad
      clear hbad
      by_cases hbj1 : b = j
      all_goals
        first
          | (have hbq : ((j : Int) == b) = true := by rw [hbj1]; simp)
          | (have hbq : ((j : Int) == b) = false := by rw [beq_eq_false_iff_ne]; omega)
        have hsg1 : b = j → sg = true := fun h => by simpa using fun h2 => HBAD.out ⟨h, h2⟩
        first | (have h9 := hsg1 (by assumption); obtain rfl := h9; skip) | skip
        clear hbj1 hsg1 ha he
        go_wp2_with (first | (go_at_call 80; refine (C49.out _).mono ?_; rintro e w1 ⟨rfl, hw1⟩; rw [hw1]; clear hw1) | (go_at_call 82; refine HC50.out.mono ?_; rintro e w4 ⟨hu4, j2, hj2, rfl, rfl⟩))
        refine leave20_stuck rfl rfl rfl (by omega) (by omega) (BlkN.upd hu4 HZJ.out (by omega)) (BlkN.upd hu4 HAJ.out (by omega)) (BlkN.upd hu4 HEJ.out (by omega)) fun V' hb => ?_
        have hb3 := hu4.toBelow (a := w) (by have := HN.out; omega) (by have := HN.out; rw [← this]; exact HBJ.out)
        rw [← HN.out] at hb3
        refine ⟨hb3.trans hb, ?_⟩
        unfold CutP
        rw [if_neg hlong2.out, HCR.out _ HTE.out]
        simp only [rest_len]
        rw [show s.size - (s.size - j2) = j2 by omega]
    | ok k t =>
      rw [hT] at C50 HTE
      have HC50 := Lib.hid C50
      clear C50 hT
      have HBAD := Lib.hid hbad
      clear hbad
      by_cases hk5 : k.k = 5
      all_goals
        have HK5 := Lib.hid hk5
        first
          | (have hkq : (k.k != 5) = false := by simp [hk5]; done)
          | (have hkq : (k.k != 5) = true := by simp [hk5]; done)
        clear hk5
        by_cases hbj1 : b = j
      all_goals
        first
          | (have hbq : ((j : Int) == b) = true := by rw [hbj1]; simp)
          | (have hbq : ((j : Int) == b) = false := by rw [beq_eq_false_iff_ne]; omega)
        have hsg1 : b = j → sg = true := fun h => by simpa using fun h2 => HBAD.out ⟨h, h2⟩
        first | (have h9 := hsg1 (by assumption); obtain rfl := h9; skip) | skip
        clear hbj1 hsg1 ha he
        go_upto_region 15 with (first
          | (go_at_call 80; refine (C49.out _).mono ?_; rintro e w1 ⟨rfl, hw1⟩; rw [hw1]; clear hw1)
          | (go_at_call 82; refine HC50.out.mono ?_; rintro e w4 ⟨hu4, j2, hjj, hj2, rfl, rfl, hr4⟩
             simp only [Tk.arr]
             obtain ⟨m, hm⟩ : ∃ m, m = w4.heap.size := ⟨_, rfl⟩
             have HR4 := Lib.hid hr4
             have HU4 := Lib.hid hu4
             have HZ4 := Lib.hid (BlkN.upd hu4 HZJ.out (by omega))
             have c1 := hr4.cell 1 rfl
             have hr4l := hr4.lt
             have hs4 := hu4.size
             clear hr4 hu4))
      all_goals
        obtain ⟨W5, hW5⟩ : ∃ W5, W5 = w4.alloc (.cells k.arr 58) := ⟨_, rfl⟩
        have HB5 : Hid (Below w4.heap.size w4 W5) := Lib.hid (by rw [hW5]; exact (Below.refl _ _).alloc (Nat.le_refl _) _)
        have hz5 : BlkN W5 n 22 #[.slice A l.length cap] := HZ4.out.below HB5.out
        have hk5 : BlkN W5 w4.heap.size 58 #[.int .u8 k.k, .int .i64 k.at_, .int .i64 k.n, .string (txtV k.s), .int .i64 k.r] := by rw [hW5]; exact BlkN.at_ rfl _ _
        have HU5 : Hid (Upd (n + 1 + 1 + 1) wr W5) := Lib.hid (HU4.out.below HB5.out)
        have HV5 : Hid (TRow W5 (n + 1 + 1 + 1 + 1) (.slice A l.length cap) l) := Lib.hid (HVJ.out.upd HU5.out (by omega))
        have HR5 : Hid (Rdr W5 (n + 1 + 1 + 1) s j2 0) := Lib.hid (HR4.out.below HB5.out)
        have hW5' : W5 = w4.alloc (.cells #[.int .u8 k.k, .int .i64 k.at_, .int .i64 k.n, .string (txtV k.s), .int .i64 k.r] 58) := hW5
        rw [← hW5']
        clear hW5 hW5' z0 y0 g0 c1 f1 hm
        have z0 := hz5.cell 0 rfl
        have g0 := hz5.lt
        have q0 := hk5.cell 0 rfl
        have q1 := hk5.cell 1 rfl
        have q2 := hk5.cell 2 rfl
        have q3 := hk5.cell 3 rfl
        have q4 := hk5.cell 4 rfl
        have hk5l := hk5.lt
        have HZ5 := Lib.hid hz5
        have hs5 := HU5.out.size
        have hrl := HR5.out.lt
        clear hz5 hk5
        go_wp2_with (first
          | (refine wpList_append_tk _ rfl (.tmp 61) (.tmp 63) rfl (n + 1 + 1 + 1 + 1) (.slice A l.length cap) l rfl (HV5.out.below ((Below.refl _ W5).alloc (Nat.le_refl _) (.cells k.arr 58))) W5.heap.size k rfl (BlkN.at_ rfl _ _) (by omega) (by simp; omega) ?_
             intro v7 w7 hv7 hg7
             obtain ⟨A7, cap7, hv7e, hcap7⟩ := hv7.slice
             have hl7 : (l ++ [k]).length = l.length + 1 := by simp
             rw [hl7] at hv7e
             subst hv7e
             have hrow : ∀ g, (Value.slice A l.length cap).ownBlock = some g → n + 1 + 1 + 1 + 1 ≤ g := fun g hg => (HVJ.out.blk hg).1
             have hkeep : ∀ x, x < n + 1 + 1 + 1 + 1 → w7.heap[x]? = W5.heap[x]? := fun x hx => (hg7.block x (by simp; omega) (fun e => by have := hrow x e.symm; omega)).trans (Below.heap_alloc _ _ _ (by omega))
             have hz7 : BlkN w7 n 22 #[.slice A l.length cap] := (hkeep n (by omega)).trans HZ5.out
             have y0 := hz7.free 0
             have z7 := hz7.cell 0 rfl
             have g7 := hz7.lt
             have HZ7 := Lib.hid hz7
             have HR7 : Hid (Rdr w7 (n + 1 + 1 + 1) s j2 0) := Lib.hid ((hkeep _ (by omega)).trans HR5.out)
             have HA7 : Hid (BlkN w7 (n + 1) 3 #[.int .i64 0]) := Lib.hid ((hkeep _ (by omega)).trans (BlkN.upd HU5.out HAJ.out (by omega)))
             have HE7 : Hid (BlkN w7 (n + 1 + 1) 29 #[.int .i64 0]) := Lib.hid ((hkeep _ (by omega)).trans (BlkN.upd HU5.out HEJ.out (by omega)))
             have HV7 := Lib.hid hv7
             have HB7 : Hid (Below n w w7) := Lib.hid (by
               have h1 : Below n wr W5 := ⟨HU5.out.os, HU5.out.tape, HU5.out.output, HU5.out.size, fun x hx => HU5.out.block x (by omega) (by omega)⟩
               exact ((HBJ.out.trans h1).alloc (by omega) _).grown hg7 (by simp; omega) (fun g hg => by have := hrow g hg; omega))
             clear hz7 hv7 hg7 hkeep hrow))
      all_goals
        go_roundw
        case rel =>
          have h1 : cutL s.size f' (rest s j2) (decide (k.k ≠ 5)) (l ++ [k]) = R := HTE.out.symm
          refine ⟨j2, f', _, decide (k.k ≠ 5), l ++ [k], _, rfl, hj2, by omega, by simp; omega, BlkN.setOther HR7.out (q := ⟨n, 0, Option.none⟩) (by show n + 1 + 1 + 1 ≠ n; omega) _, by simpa using BlkN.set HZ7.out 0 _, HA7.out.setOther (q := ⟨n, 0, Option.none⟩) (by show n + 1 ≠ n; omega) _, HE7.out.setOther (q := ⟨n, 0, Option.none⟩) (by show n + 1 + 1 ≠ n; omega) _, HV7.out.upd ((Upd.refl n w7).set 0 _) (by omega), HB7.out.setCell (p := ⟨n, 0, Option.none⟩) (Nat.le_refl _) _, by omega, ?_, h1⟩
          have hk5 := HK5.out
          first
            | (rw [decide_eq_false (by simpa using hk5), decide_eq_false (by omega)]; done)
            | (rw [decide_eq_true (by simpa using hk5)]; simp; done)
        case measure =>
          have hr8 : Rdr (w7.setCell ⟨n, 0, Option.none⟩ (.slice A7 (l.length + 1) cap7)) (n + 1 + 1 + 1) s j2 0 := BlkN.setOther HR7.out (q := ⟨n, 0, Option.none⟩) (by show n + 1 + 1 + 1 ≠ n; omega) _
          rw [hr8.pos, HRJ.out.pos]; omega
theorem cut_any (s : ByteArray) (hs : s.size ≤ 140737488351232) (w : World) (tp : TypeId) (q : Value) (hV : w.var? Tryz.prog "strconv.ErrRange" = some #[.iface tp q]) : Calls Tryz.prog 36 #[.string s] w fun e w' => Below w.heap.size w w' ∧ CutP s w.heap.size e w' := cut_at s hs w _ rfl tp q hV
end Go.Proofs.YtjmelamllapmiaaGreatDoor
