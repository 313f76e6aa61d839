/- package word: the taker's value. -/
import Derived.Test.YtjmelamllapmiaaGreatDoorXu
namespace Go.Proofs.YtjmelamllapmiaaGreatDoor
open Go.RowKit

theorem one_sign {s : L8} (h : oneSign s = true) : ∃ c, s = [c] := by
  unfold oneSign at h
  match s, h with
  | [c], _ => exact ⟨c, rfl⟩
/-- A list in the making. -/
def LvT (w : World) (g : Nat) (A : Option Addr) (l cap : Nat) : Prop := BlkN w g 27 #[.int .u8 3, .int .i64 0, .string ⟨#[]⟩, .slice A l cap, .int .i64 0]
theorem list_tk {X V' : World} {g b0 lo : Nat} {A : Option Addr} {cap : Nat} {vs : List Va} {xs : List Value} (hv : VRow X (g + 1) (.slice A vs.length cap) vs xs) (hb : But b0 X V') (h0 : b0 ≤ g) (hlo : lo ≤ g) (hl : vs.length ≤ 1000000) :
    IsVaR V' (Own34 V' lo) (.agg #[.int .u8 3, .int .i64 0, .string ⟨#[]⟩, .slice A vs.length cap, .int .i64 0]) (.mk 3 0 ⟨#[]⟩ vs 0) := by
  obtain ⟨A2, cap2, hsl, hcap, hlist⟩ := hv.list
  injection hsl with e1 e2 e3
  subst e1 e3
  have hk3 : ∀ b o, Own34 X (g + 1) b o → V'.heap[b]? = X.heap[b]? := fun b o hr => hb.other b (by have := hr.1; omega)
  unfold IsVaR
  refine ⟨by decide, by decide, by decide, by omega, A, cap, hcap, rfl, fun hne => ?_⟩
  obtain ⟨b, o, h1, h2, h3⟩ := hlist hne
  exact ⟨b, o, ⟨by have := h1.1; omega, h1.2.1, let ⟨cur, hc⟩ := h1.2.2; ⟨cur, (hk3 b o h1).trans hc⟩⟩, h2, IsVasR.mono (fun b o hr => ⟨by have := hr.1; omega, hr.2.1, let ⟨cur, hc⟩ := hr.2.2; ⟨cur, (hk3 b o hr).trans hc⟩⟩) (IsVasR.keep hk3 (hk3 b o h1) h3)⟩
theorem Tkr.pos {w : World} {p : Nat} {v : Value} {i k : Nat} (h : Tkr w p v i k) : posOf w p = i := by
  have := BlkN.cell h 1 (v := .int .i64 i) rfl
  simp [posOf, this]
theorem Tkr.grown {w w' : World} {p : Nat} {v : Value} {i k : Nat} {row : Option Nat} (h : Tkr w p v i k) (hg : w.grownBy w' row) (hne : ∀ g, row = some g → p < g) : Tkr w' p v i k :=
  (hg.block p (BlkN.lt h) (fun e => by have := hne p e.symm; omega)).trans h
theorem tkLs_bad (f : List Tk → Nat → TRs (Va × Nat)) (k : Nat) (c : Tk) (t : List Tk) (p : Nat) (l : List Va) (h : tokMay c = false) : tkLs f (k + 1) (c :: t) p l = .no (c :: t) := by rw [tkLs, if_pos h]
theorem tkLs_close (f : List Tk → Nat → TRs (Va × Nat)) (k : Nat) (c : Tk) (t : List Tk) (p : Nat) (l : List Va) (h : tokMay c = true) (h2 : c.k = 5 ∧ c.s = [93]) : tkLs f (k + 1) (c :: t) p l = .ok (l, p) t := by rw [tkLs, if_neg (by rw [h]; decide), if_pos h2]
theorem tkLs_full (f : List Tk → Nat → TRs (Va × Nat)) (k : Nat) (c : Tk) (t : List Tk) (p : Nat) (l : List Va) (h : tokMay c = true) (h2 : ¬ (c.k = 5 ∧ c.s = [93])) (h3 : 512 ≤ p) : tkLs f (k + 1) (c :: t) p l = .no (c :: t) := by rw [tkLs, if_neg (by rw [h]; decide), if_neg h2, if_pos h3]
theorem tkLs_on (f : List Tk → Nat → TRs (Va × Nat)) (k : Nat) (c : Tk) (t : List Tk) (p : Nat) (l : List Va) (h : tokMay c = true) (h2 : ¬ (c.k = 5 ∧ c.s = [93])) (h3 : ¬ 512 ≤ p) : tkLs f (k + 1) (c :: t) p l = match f (c :: t) p with | .ok (v, q) r => tkLs f k r q (l ++ [v]) | .no r => .no r := by
  rw [tkLs, if_neg (by rw [h]; decide), if_neg h2, if_neg h3]
  rfl
def listR (R : TRs (List Va × Nat)) : TRs (Va × Nat) := match R with
  | .ok x r => .ok (.mk 3 0 ⟨#[]⟩ x.1 0, x.2) r
  | .no r => .no r
theorem tkV_listR (n : Nat) (c : Tk) (t : List Tk) (p : Nat) (h : tokMay c = true) (h2 : c.k = 5 ∧ c.s = [91]) : tkV (n + 1) (c :: t) p = listR (tkLs (tkV n) 514 t (p + 1) []) := by
  have hk := h2.1
  rw [tkV, if_neg (by rw [h]; decide), if_neg (by omega), if_neg (by omega), if_neg (by omega), if_neg (by rw [h2.2]; simp), if_pos h2]
  cases tkLs (tkV n) 514 t (p + 1) [] <;> rfl
/-- A way out by a panic, of which G is said (no call is deferred). -/
def PanP (G : List PanicEntry → World → Prop) (Q : Exit → Act → World → Prop) : Exit → Act → World → Prop
  | .panic c, a, w => a.defers = [] ∧ G c w
  | e, a, w => Q e a w
theorem region_mixP {P : Program} {ops : Array Oper} {Q : Exit → Act → World → Prop} {id : Nat} {a : Act} {w : World} (G : List PanicEntry → World → Prop) (hG : ∀ c a w, a.defers = [] → G c w → Q (.panic c) a w) (T : Nat → Bool) (S : World → Prop) (l : List (Bool × Nat)) (hm : P.follows .mixedOrders = true) (hs : Region.noSelect ops = true)
    (hk : RegT.okM .any ops T l (Array.replicate ops.size false) = true) (hl : l.length ≤ ops.size)
    (h : RegT.seqM P ops (PanP G Q) T S l a w.drew) : (Code.region id ops true).wp P Q a w :=
  Code.wp_mono (fun e a w q => by cases e <;> first | exact q | exact hG _ _ _ q.1 q.2) (RegT.region (Q := PanP G Q) T S hm (RegT.of_seqM hs l _ _ _ _ hk hl h))
attribute [local irreducible] wpList
set_option maxRecDepth 100000 in
set_option maxHeartbeats 8000000 in
theorem tval_step (nest : Nat) (hn : nest ≤ 16) (hL : ∀ m, nest = m + 1 → TValC m) : TValC nest := by
  intro l i k w B p v h hv hBp hi hok hk
  obtain ⟨dp, hdp⟩ : ∃ dp : Int, dp = (16 : Int) - nest := ⟨_, rfl⟩
  rw [← hdp]
  have HDP := Lib.hid hdp
  clear hdp
  obtain ⟨i0, hi0, hz0, hz1, hz2⟩ := info_parts info34
  have HL := Lib.hid hL
  have HOK := Lib.hid hok
  have hp0 := h.lt
  have hlen := hv.1
  have hib : i ≤ 2932031007317 := by omega
  have HLEN := Lib.hid (show l.length ≤ 2932031007317 by omega)
  clear hlen
  obtain ⟨N, hN⟩ : ∃ N, N = w.heap.size := ⟨_, rfl⟩
  obtain ⟨W, hW⟩ : ∃ W, W = w.alloc (.cells #[.int .u8 0, .int .i64 0, .string ⟨#[]⟩, .slice Option.none 0 0, .int .i64 0] 27) := ⟨_, rfl⟩
  have HT : Hid (Tkr W p v i k) := Lib.hid (by rw [hW]; exact BlkN.alloc h _)
  have HZ : Hid (BlkN W N 27 #[.int .u8 0, .int .i64 0, .string ⟨#[]⟩, .slice Option.none 0 0, .int .i64 0]) := Lib.hid (by rw [hW, hN]; exact BlkN.at_ rfl _ _)
  have HU : Hid (Upd p w W) := Lib.hid (by rw [hW]; exact (Upd.refl p w).alloc _)
  have HVK : Hid (∀ w', Upd p w w' → IsTks w' B v l) := Lib.hid (fun w' hu => hv.keep fun b hb => hu.block b (by omega) (by omega))
  have HN := Lib.hid hN
  have hpN : p < N := by rw [hN]; exact hp0
  clear hL hok
  go_enter Tryz.func49, Tryz.ntmps49
  go_upto_region 1 with fail
  rw [← hW, ← hN]
  clear hW hN h hv
  have hBW : B ≤ W.heap.size := by have := HU.out.size; omega
  by_cases hh : i < l.length
  rotate_left
  · have CE := Lib.hid (tnext_end HT.out (HVK.out W HU.out) hBW HOK.out (by omega))
    go_wp2_with (first | (go_at_call 99; refine CE.out.mono ?_; rintro e w2 ⟨rfl, hb2⟩))
    refine ⟨rfl, HU.out.below hb2, ?_⟩
    rw [List.drop_eq_nil_of_le (by omega)]
    cases nest <;> exact ⟨l.length, Nat.le_refl _, (List.drop_eq_nil_of_le (Nat.le_refl _)).symm, rfl⟩
  obtain ⟨t, ht⟩ : ∃ t, t = l[i] := ⟨_, rfl⟩
  have HD : Hid (l.drop i = t :: l.drop (i + 1)) := Lib.hid (by rw [List.drop_eq_getElem_cons hh, ht])
  have hto := HOK.out t (by rw [ht]; exact List.getElem_mem hh)
  cases hm : tokMay t with
  | false =>
    have CE := Lib.hid (tnext_bad HT.out (HVK.out W HU.out) hBW HOK.out hh ht hm)
    have HM := Lib.hid hm
    clear hm hto ht
    go_wp2_with (first | (go_at_call 99; refine CE.out.mono ?_; rintro e w2 ⟨rfl, hb2⟩))
    refine ⟨rfl, HU.out.below hb2, ?_⟩
    have e : tkV nest (l.drop i) k = .no (l.drop i) := by rw [HD.out]; cases nest <;> (unfold tkV; rw [if_pos HM.out])
    rw [e]
    exact ⟨i, hi, rfl, rfl⟩
  | true =>
    have CN := tnext_at HT.out (HVK.out W HU.out) hBW HOK.out hh ht hm
    have HM := Lib.hid hm
    obtain ⟨tk, ta, tn, ts, tr⟩ := t
    have CN : Hid (Calls Tryz.prog 99 #[.pointer (some ⟨p, 0, Option.none⟩)] W fun e w' => e = .returned (.agg #[.int .u8 tk, .int .i64 ta, .int .i64 tn, .string (txtV ts), .int .i64 tr]) ∧ Below W.heap.size W w') := Lib.hid CN
    clear hm ht
    go_upto_region 2 with (first | (go_at_call 99; refine CN.out.mono ?_; rintro e w2 ⟨rfl, hb2⟩; have HB2 := Lib.hid hb2; clear hb2))
    obtain ⟨g, hg⟩ : ∃ g, g = w2.heap.size := ⟨_, rfl⟩
    obtain ⟨X, hX⟩ : ∃ X, X = w2.alloc (.cells #[.int .u8 tk, .int .i64 ta, .int .i64 tn, .string (txtV ts), .int .i64 tr] 58) := ⟨_, rfl⟩
    have hax : Below w2.heap.size w2 X := by rw [hX]; exact (Below.refl _ _).alloc (Nat.le_refl _) _
    have HTX := Lib.hid ((HT.out.below HB2.out).below hax)
    have HZX := Lib.hid (BlkN.below (BlkN.below HZ.out HB2.out) hax)
    have HKX : Hid (BlkN X g 58 #[.int .u8 tk, .int .i64 ta, .int .i64 tn, .string (txtV ts), .int .i64 tr]) := Lib.hid (by rw [hX, hg]; exact BlkN.at_ rfl _ _)
    have HUX := Lib.hid ((HU.out.below HB2.out).below hax)
    have hNg : N < g := by rw [hg]; have := HZ.out.lt; have := HB2.out.size; omega
    rw [← hX, ← hg]
    clear hX hg hax HB2 hBW
    have hpX := HTX.out.lt
    have c2 := HTX.out.cell 2 rfl
    have f2 := HTX.out.free 2
    go_upto_region 3 with fail
    obtain ⟨V, hV⟩ : ∃ V, V = X.setCell ⟨p, 2, Option.none⟩ (.int .i64 ((k : Int) + 1)) := ⟨_, rfl⟩
    have HTV : Hid (Tkr V p v i (k + 1)) := Lib.hid (by rw [hV]; exact HTX.out.inc)
    have HZV := Lib.hid (show BlkN V N 27 #[.int .u8 0, .int .i64 0, .string ⟨#[]⟩, .slice Option.none 0 0, .int .i64 0] by rw [hV]; exact HZX.out.setOther (by show N ≠ p; omega) _)
    have HKV := Lib.hid (show BlkN V g 58 #[.int .u8 tk, .int .i64 ta, .int .i64 tn, .string (txtV ts), .int .i64 tr] by rw [hV]; exact HKX.out.setOther (by show g ≠ p; omega) _)
    have HUV := Lib.hid (show Upd p w V by rw [hV]; exact HUX.out.set 2 _)
    rw [← hV]
    clear hV c2 f2 hpX HTX HZX HKX HUX
    have hgV := HKV.out.lt
    have hpV := HTV.out.lt
    have hNV := HZV.out.lt
    have g0 := HKV.out.cell 0 rfl
    have g2 := HKV.out.cell 2 rfl
    have g3 := HKV.out.cell 3 rfl
    have g4 := HKV.out.cell 4 rfl
    have c1 := HTV.out.cell 1 rfl
    have f1 := HTV.out.free 1
    by_cases k2 : tk = 2
    · subst k2
      go_upto_region 5 with fail
      obtain ⟨U, hU⟩ : ∃ U, U = V.setCell ⟨p, 1, Option.none⟩ (.int .i64 ((i : Int) + 1)) := ⟨_, rfl⟩
      have HTU : Hid (Tkr U p v (i + 1) (k + 1)) := Lib.hid (by rw [hU]; exact HTV.out.adv)
      have HZU := Lib.hid (show BlkN U N 27 #[.int .u8 0, .int .i64 0, .string ⟨#[]⟩, .slice Option.none 0 0, .int .i64 0] by rw [hU]; exact HZV.out.setOther (by show N ≠ p; omega) _)
      have HKU := Lib.hid (show BlkN U g 58 #[.int .u8 2, .int .i64 ta, .int .i64 tn, .string (txtV ts), .int .i64 tr] by rw [hU]; exact HKV.out.setOther (by show g ≠ p; omega) _)
      have HUU := Lib.hid (show Upd p w U by rw [hU]; exact HUV.out.set 1 _)
      rw [← hU]
      clear hU c1 f1 g0 g2 g3 g4 hgV hpV hNV
      have hgU := HKU.out.lt
      have hNU := HZU.out.lt
      have g2 := HKU.out.cell 2 rfl
      have g3 := HKU.out.cell 3 rfl
      have g4 := HKU.out.cell 4 rfl
      have z0 := HZU.out.cell 0 rfl
      have y0 := HZU.out.free 0
      have z1 := HZU.out.cell 1 rfl
      have y1 := HZU.out.free 1
      have z2 := HZU.out.cell 2 rfl
      have y2 := HZU.out.free 2
      have z3 := HZU.out.cell 3 rfl
      have y3 := HZU.out.free 3
      have z4 := HZU.out.cell 4 rfl
      have y4 := HZU.out.free 4
      go_wp2_with fail
      obtain ⟨V', hV', hB3, hbut⟩ := set5_done HZU.out (.int .u8 1) (.int .i64 tn) (.string ⟨#[]⟩) (.slice Option.none 0 0) (.int .i64 0)
      rw [hV']
      refine bodyPost_ret (results_cell1 (s := 4) (b := N) rfl Tryz.underlying27 hi0 rfl hB3 (by rw [hz1]; rfl)) rfl ⟨hbut.upd (Nat.le_of_eq HN.out.symm) HUU.out, ?_⟩
      have e : tkV nest (l.drop i) k = .ok (.mk 1 tn ⟨#[]⟩ [] 0, k + 1) (l.drop (i + 1)) := by rw [HD.out]; cases nest <;> (unfold tkV; rw [if_neg (by rw [HM.out]; decide), if_pos rfl])
      rw [e]
      exact ⟨i + 1, by omega, by omega, rfl, _, rfl, leafV _ _ _ _ _ _ (by decide) (by decide) (by first | decide | omega | (simp; omega)), HTU.out.but hbut (by omega)⟩
    have hk2 : ((tk : Int) == 2) = false := by rw [beq_eq_false_iff_ne]; exact k2
    by_cases k3 : tk = 3 ∧ ts.length ≤ 256
    · obtain ⟨rfl, hts⟩ := k3
      have hsz : (txtV ts).size ≤ 256 := hts
      have hszi : ((txtV ts).size : Int) ≤ 256 := by omega
      have HTS := Lib.hid hts
      clear hk2 hts
      go_upto_region 8 with fail
      obtain ⟨U, hU⟩ : ∃ U, U = V.setCell ⟨p, 1, Option.none⟩ (.int .i64 ((i : Int) + 1)) := ⟨_, rfl⟩
      have HTU : Hid (Tkr U p v (i + 1) (k + 1)) := Lib.hid (by rw [hU]; exact HTV.out.adv)
      have HZU := Lib.hid (show BlkN U N 27 #[.int .u8 0, .int .i64 0, .string ⟨#[]⟩, .slice Option.none 0 0, .int .i64 0] by rw [hU]; exact HZV.out.setOther (by show N ≠ p; omega) _)
      have HKU := Lib.hid (show BlkN U g 58 #[.int .u8 3, .int .i64 ta, .int .i64 tn, .string (txtV ts), .int .i64 tr] by rw [hU]; exact HKV.out.setOther (by show g ≠ p; omega) _)
      have HUU := Lib.hid (show Upd p w U by rw [hU]; exact HUV.out.set 1 _)
      rw [← hU]
      clear hU c1 f1 g0 g2 g3 g4 hgV hpV hNV
      have hgU := HKU.out.lt
      have hNU := HZU.out.lt
      have g2 := HKU.out.cell 2 rfl
      have g3 := HKU.out.cell 3 rfl
      have g4 := HKU.out.cell 4 rfl
      have z0 := HZU.out.cell 0 rfl
      have y0 := HZU.out.free 0
      have z1 := HZU.out.cell 1 rfl
      have y1 := HZU.out.free 1
      have z2 := HZU.out.cell 2 rfl
      have y2 := HZU.out.free 2
      have z3 := HZU.out.cell 3 rfl
      have y3 := HZU.out.free 3
      have z4 := HZU.out.cell 4 rfl
      have y4 := HZU.out.free 4
      go_wp2_with fail
      obtain ⟨V', hV', hB3, hbut⟩ := set5_done HZU.out (.int .u8 2) (.int .i64 0) (.string (txtV ts)) (.slice Option.none 0 0) (.int .i64 0)
      rw [hV']
      refine bodyPost_ret (results_cell1 (s := 4) (b := N) rfl Tryz.underlying27 hi0 rfl hB3 (by rw [hz1]; rfl)) rfl ⟨hbut.upd (Nat.le_of_eq HN.out.symm) HUU.out, ?_⟩
      have e : tkV nest (l.drop i) k = .ok (.mk 2 0 (txtV ts) [] 0, k + 1) (l.drop (i + 1)) := by rw [HD.out]; cases nest <;> (unfold tkV; rw [if_neg (by rw [HM.out]; decide), if_neg (by simp), if_pos ⟨rfl, HTS.out⟩])
      rw [e]
      exact ⟨i + 1, by omega, by omega, rfl, _, rfl, leafV _ _ _ _ _ _ (by decide) (by decide) (by first | decide | omega | (simp; omega)), HTU.out.but hbut (by omega)⟩
    by_cases k4 : tk = 4
    · subst k4
      clear hk2
      go_upto_region 11 with fail
      obtain ⟨U, hU⟩ : ∃ U, U = V.setCell ⟨p, 1, Option.none⟩ (.int .i64 ((i : Int) + 1)) := ⟨_, rfl⟩
      have HTU : Hid (Tkr U p v (i + 1) (k + 1)) := Lib.hid (by rw [hU]; exact HTV.out.adv)
      have HZU := Lib.hid (show BlkN U N 27 #[.int .u8 0, .int .i64 0, .string ⟨#[]⟩, .slice Option.none 0 0, .int .i64 0] by rw [hU]; exact HZV.out.setOther (by show N ≠ p; omega) _)
      have HKU := Lib.hid (show BlkN U g 58 #[.int .u8 4, .int .i64 ta, .int .i64 tn, .string (txtV ts), .int .i64 tr] by rw [hU]; exact HKV.out.setOther (by show g ≠ p; omega) _)
      have HUU := Lib.hid (show Upd p w U by rw [hU]; exact HUV.out.set 1 _)
      rw [← hU]
      clear hU c1 f1 g0 g2 g3 g4 hgV hpV hNV
      have hgU := HKU.out.lt
      have hNU := HZU.out.lt
      have g2 := HKU.out.cell 2 rfl
      have g3 := HKU.out.cell 3 rfl
      have g4 := HKU.out.cell 4 rfl
      have z0 := HZU.out.cell 0 rfl
      have y0 := HZU.out.free 0
      have z1 := HZU.out.cell 1 rfl
      have y1 := HZU.out.free 1
      have z2 := HZU.out.cell 2 rfl
      have y2 := HZU.out.free 2
      have z3 := HZU.out.cell 3 rfl
      have y3 := HZU.out.free 3
      have z4 := HZU.out.cell 4 rfl
      have y4 := HZU.out.free 4
      go_wp2_with fail
      obtain ⟨V', hV', hB3, hbut⟩ := set5_done HZU.out (.int .u8 4) (.int .i64 0) (.string ⟨#[]⟩) (.slice Option.none 0 0) (.int .i64 tr)
      rw [hV']
      refine bodyPost_ret (results_cell1 (s := 4) (b := N) rfl Tryz.underlying27 hi0 rfl hB3 (by rw [hz1]; rfl)) rfl ⟨hbut.upd (Nat.le_of_eq HN.out.symm) HUU.out, ?_⟩
      have e : tkV nest (l.drop i) k = .ok (.mk 4 0 ⟨#[]⟩ [] tr, k + 1) (l.drop (i + 1)) := by rw [HD.out]; cases nest <;> (unfold tkV; rw [if_neg (by rw [HM.out]; decide), if_neg (by simp), if_neg (by simp), if_pos rfl])
      rw [e]
      exact ⟨i + 1, by omega, by omega, rfl, _, rfl, leafV _ _ _ _ _ _ (by decide) (by decide) (by first | decide | omega | (simp; omega)), HTU.out.but hbut (by omega)⟩
    have hk4 : ((tk : Int) == 4) = false := by rw [beq_eq_false_iff_ne]; exact k4
    by_cases k5 : tk = 5 ∧ ts = [95]
    · obtain ⟨rfl, rfl⟩ := k5
      clear hk2 hk4 k3
      have h95 : txtV [95] = (⟨#[95]⟩ : ByteArray) := rfl
      rw [h95] at HKV CN g3 ⊢
      go_upto_region 14 with fail
      obtain ⟨U, hU⟩ : ∃ U, U = V.setCell ⟨p, 1, Option.none⟩ (.int .i64 ((i : Int) + 1)) := ⟨_, rfl⟩
      have HTU : Hid (Tkr U p v (i + 1) (k + 1)) := Lib.hid (by rw [hU]; exact HTV.out.adv)
      have HZU := Lib.hid (show BlkN U N 27 #[.int .u8 0, .int .i64 0, .string ⟨#[]⟩, .slice Option.none 0 0, .int .i64 0] by rw [hU]; exact HZV.out.setOther (by show N ≠ p; omega) _)
      have HKU := Lib.hid (show BlkN U g 58 #[.int .u8 5, .int .i64 ta, .int .i64 tn, .string ⟨#[95]⟩, .int .i64 tr] by rw [hU]; exact HKV.out.setOther (by show g ≠ p; omega) _)
      have HUU := Lib.hid (show Upd p w U by rw [hU]; exact HUV.out.set 1 _)
      rw [← hU]
      clear hU c1 f1 g0 g2 g3 g4 hgV hpV hNV
      have hgU := HKU.out.lt
      have hNU := HZU.out.lt
      have g2 := HKU.out.cell 2 rfl
      have g3 := HKU.out.cell 3 rfl
      have g4 := HKU.out.cell 4 rfl
      have z0 := HZU.out.cell 0 rfl
      have y0 := HZU.out.free 0
      have z1 := HZU.out.cell 1 rfl
      have y1 := HZU.out.free 1
      have z2 := HZU.out.cell 2 rfl
      have y2 := HZU.out.free 2
      have z3 := HZU.out.cell 3 rfl
      have y3 := HZU.out.free 3
      have z4 := HZU.out.cell 4 rfl
      have y4 := HZU.out.free 4
      go_wp2_with fail
      obtain ⟨V', hV', hB3, hbut⟩ := set5_done HZU.out (.int .u8 0) (.int .i64 0) (.string ⟨#[]⟩) (.slice Option.none 0 0) (.int .i64 0)
      rw [hV']
      refine bodyPost_ret (results_cell1 (s := 4) (b := N) rfl Tryz.underlying27 hi0 rfl hB3 (by rw [hz1]; rfl)) rfl ⟨hbut.upd (Nat.le_of_eq HN.out.symm) HUU.out, ?_⟩
      have e : tkV nest (l.drop i) k = .ok (.mk 0 0 ⟨#[]⟩ [] 0, k + 1) (l.drop (i + 1)) := by rw [HD.out]; cases nest <;> (unfold tkV; rw [if_neg (by rw [HM.out]; decide), if_neg (by simp), if_neg (by simp), if_neg (by simp), if_pos ⟨rfl, rfl⟩])
      rw [e]
      exact ⟨i + 1, by omega, by omega, rfl, _, rfl, leafV _ _ _ _ _ _ (by decide) (by decide) (by first | decide | omega | (simp; omega)), HTU.out.but hbut (by omega)⟩
    have k2' := k2
    have hk4' := k4
    by_cases k1 : tk = 1
    · subst k1
      clear hk2 hk4 k3 k5
      go_wp2_with fail
      refine ⟨rfl, HUV.out, ?_⟩
      have e : tkV nest (l.drop i) k = .no (l.drop i) := by rw [HD.out]; cases nest <;> (unfold tkV; rw [if_neg (by rw [HM.out]; decide), if_neg (by simp), if_neg (by simp), if_neg (by simp), if_neg (by simp), if_neg (by simp)])
      rw [e]
      exact ⟨i, hi, rfl, rfl⟩
    have k1' := k1
    by_cases k33 : tk = 3
    · subst k33
      have hts : ¬ ts.length ≤ 256 := fun e => k3 ⟨rfl, e⟩
      have hszi : ¬ ((txtV ts).size : Int) ≤ 256 := by show ¬ ((ts.length : Nat) : Int) ≤ 256; omega
      have HTS := Lib.hid hts
      clear hk2 hk4 k3 k5 hts
      go_wp2_with fail
      refine ⟨rfl, HUV.out, ?_⟩
      have e : tkV nest (l.drop i) k = .no (l.drop i) := by rw [HD.out]; cases nest <;> (unfold tkV; rw [if_neg (by rw [HM.out]; decide), if_neg (by simp), if_neg (fun e => HTS.out e.2), if_neg (by simp), if_neg (by simp), if_neg (by simp)])
      rw [e]
      exact ⟨i, hi, rfl, rfl⟩
    have h5 : tk = 5 ∧ ∃ c, ts = [c] := by
      have h := HM.out
      unfold tokMay at h
      simp only [hk4', k2', k33, k1', if_false] at h
      by_cases e5 : tk = 5
      · rw [if_pos e5] at h
        simp only [Bool.and_eq_true] at h
        exact ⟨e5, one_sign h.2⟩
      · rw [if_neg e5] at h; cases h
    obtain ⟨rfl, c, rfl⟩ := h5
    have hc95 : c ≠ 95 := fun e => k5 ⟨rfl, by rw [e]⟩
    clear k1 k2 k3 k4 k5 k33 hk2 hk4 k1' k2' hk4'
    have hcs : txtV [c] = (⟨#[c]⟩ : ByteArray) := rfl
    rw [hcs] at HKV CN g3 ⊢
    have hq95 : (c == 95) = false := by rw [beq_eq_false_iff_ne]; exact hc95
    have HC95 := Lib.hid hc95
    clear hc95 hcs CN
    by_cases h91 : c = 91
    rotate_left
    · have hq91 : (c == 91) = false := by rw [beq_eq_false_iff_ne]; exact h91
      have HC91 := Lib.hid h91
      clear h91
      go_wp2_with fail
      refine ⟨rfl, HUV.out, ?_⟩
      have e : tkV nest (l.drop i) k = .no (l.drop i) := by rw [HD.out]; cases nest <;> (unfold tkV; rw [if_neg (by rw [HM.out]; decide), if_neg (by simp), if_neg (by simp), if_neg (by simp), if_neg (by simp [HC95.out]), if_neg (by simp [HC91.out])])
      rw [e]
      exact ⟨i, hi, rfl, rfl⟩
    subst h91
    clear hq95
    cases nest with
    | zero =>
      have hlt : ¬ dp < 16 := by have := HDP.out; omega
      go_wp2_with fail
      refine ⟨rfl, HUV.out, ?_⟩
      have e : tkV 0 (l.drop i) k = .no (l.drop i) := by rw [HD.out]; unfold tkV; rw [if_neg (by rw [HM.out]; decide), if_neg (by simp), if_neg (by simp), if_neg (by simp), if_neg (by simp), if_pos ⟨rfl, rfl⟩]
      rw [e]
      exact ⟨i, hi, rfl, rfl⟩
    | succ n =>
    have hlt : dp < 16 := by have := HDP.out; omega
    have HIH := Lib.hid (HL.out n rfl)
    go_upto_region 17 with fail

    obtain ⟨U, hU⟩ : ∃ U, U = V.setCell ⟨p, 1, Option.none⟩ (.int .i64 ((i : Int) + 1)) := ⟨_, rfl⟩
    have HTU : Hid (Tkr U p v (i + 1) (k + 1)) := Lib.hid (by rw [hU]; exact HTV.out.adv)
    have HZU := Lib.hid (show BlkN U N 27 #[.int .u8 0, .int .i64 0, .string ⟨#[]⟩, .slice Option.none 0 0, .int .i64 0] by rw [hU]; exact HZV.out.setOther (by show N ≠ p; omega) _)
    have HUU := Lib.hid (show Upd p w U by rw [hU]; exact HUV.out.set 1 _)
    rw [← hU]
    clear hU c1 f1 g0 g2 g3 g4 hgV hpV hNV HTV HZV HKV HUV hlt
    obtain ⟨b, hb⟩ : ∃ b, b = U.heap.size := ⟨_, rfl⟩
    obtain ⟨X6, hX6⟩ : ∃ X6, X6 = U.alloc (.cells #[.int .u8 3, .int .i64 0, .string ⟨#[]⟩, .slice Option.none 0 0, .int .i64 0] 27) := ⟨_, rfl⟩
    have HT6 : Hid (Tkr X6 p v (i + 1) (k + 1)) := Lib.hid (by rw [hX6]; exact BlkN.alloc HTU.out _)
    have HZ6 : Hid (BlkN X6 N 27 #[.int .u8 0, .int .i64 0, .string ⟨#[]⟩, .slice Option.none 0 0, .int .i64 0]) := Lib.hid (by rw [hX6]; exact BlkN.alloc HZU.out _)
    have HL6 : Hid (LvT X6 b Option.none 0 0) := Lib.hid (by rw [hX6]; exact BlkN.at_ hb _ _)
    have HU6 : Hid (Upd p w X6) := Lib.hid (by rw [hX6]; exact HUU.out.alloc _)
    have hNb : N < b := by rw [hb]; exact HZU.out.lt
    have hs6 : b + 1 ≤ X6.heap.size := by rw [hX6, hb]; exact Nat.le_of_eq (World.size_alloc _ _).symm
    obtain ⟨R, hR⟩ : ∃ R, R = tkLs (tkV n) 514 (l.drop (i + 1)) (k + 1) [] := ⟨_, rfl⟩
    have HRD : Hid (tkV (n + 1) (l.drop i) k = listR R) := Lib.hid (by rw [HD.out, hR]; exact tkV_listR n _ _ _ HM.out ⟨rfl, rfl⟩)
    have HR0 := Lib.hid hR.symm
    clear hR HTU HZU HUU
    go_upto_region 18 with fail
    rw [← hX6, ← hb]
    clear hX6 hb
    go_loopw [7] (fun _ wr => ∃ (j m : Nat) (vs : List Va) (xs : List Value) (A : Option Addr) (cap : Nat), i < j ∧ j ≤ l.length ∧ b + 1 ≤ wr.heap.size ∧ Tkr wr p v j m ∧ BlkN wr N 27 #[.int .u8 0, .int .i64 0, .string ⟨#[]⟩, .slice Option.none 0 0, .int .i64 0] ∧ LvT wr b A vs.length cap ∧ VRow wr (b + 1) (.slice A vs.length cap) vs xs ∧ Upd p w wr ∧ vs.length < m ∧ m ≤ 512 ∧ tkLs (tkV n) (514 - vs.length) (l.drop j) m vs = R) (fun _ wr => l.length - posOf wr p)
    case atStart => exact ⟨i + 1, k + 1, [], [], Option.none, 0, by omega, by omega, hs6, HT6.out, HZ6.out, HL6.out, VRow.nil _ _, HU6.out, by simp, by omega, HR0.out⟩
    case round =>
      obtain ⟨j, m, vs, xs, A, cap, hij, hj, hsz, hr, hz, hl, hv, hu, hvm, hm5, hls⟩ := hrel
      have HRJ := Lib.hid hr
      have HZJ := Lib.hid hz
      have HLJ := Lib.hid hl
      have HVJ := Lib.hid hv
      have HUJ := Lib.hid hu
      obtain ⟨f, hf⟩ : ∃ f, 514 - vs.length = f + 1 := ⟨513 - vs.length, by omega⟩
      rw [hf] at hls
      have HLS := Lib.hid hls
      have HF := Lib.hid hf
      clear hr hz hl hv hu hls hf
      have hpr := BlkN.lt HRJ.out
      have hjb : j ≤ 2932031007317 := by have := HLEN.out; omega
      have hBr : B ≤ wr.heap.size := by omega
      by_cases hjl : j < l.length
      rotate_left
      · have CE := Lib.hid (tnext_end HRJ.out (HVK.out wr HUJ.out) hBr HOK.out (by omega))
        go_wp2_with (first | (go_at_call 99; refine CE.out.mono ?_; rintro e w7 ⟨rfl, hb7⟩))
        refine ⟨rfl, HUJ.out.below hb7, ?_⟩
        have hR1 : R = .no [] := by rw [← HLS.out, List.drop_eq_nil_of_le (by omega)]; rfl
        rw [HRD.out, hR1]
        exact ⟨l.length, Nat.le_refl _, (List.drop_eq_nil_of_le (Nat.le_refl _)).symm, rfl⟩
      obtain ⟨t, ht⟩ : ∃ t, t = l[j] := ⟨_, rfl⟩
      have HDJ : Hid (l.drop j = t :: l.drop (j + 1)) := Lib.hid (by rw [List.drop_eq_getElem_cons hjl, ht])
      cases hm : tokMay t with
      | false =>
        have CE := Lib.hid (tnext_bad HRJ.out (HVK.out wr HUJ.out) hBr HOK.out hjl ht hm)
        have hR1 : R = .no (l.drop j) := by rw [← HLS.out, HDJ.out, tkLs_bad _ _ _ _ _ _ hm]
        have HR1 := Lib.hid hR1
        clear hm hR1 ht
        go_wp2_with (first | (go_at_call 99; refine CE.out.mono ?_; rintro e w7 ⟨rfl, hb7⟩))
        refine ⟨rfl, HUJ.out.below hb7, ?_⟩
        rw [HRD.out, HR1.out]
        exact ⟨j, hj, rfl, rfl⟩
      | true =>
        have CJ := tnext_at HRJ.out (HVK.out wr HUJ.out) hBr HOK.out hjl ht hm
        have HMJ := Lib.hid hm
        by_cases hcl : t.k = 5 ∧ t.s = [93]
        · have hR1 : R = .ok (vs, m) (l.drop (j + 1)) := by rw [← HLS.out, HDJ.out, tkLs_close _ _ _ _ _ _ hm hcl]
          have HR1 := Lib.hid hR1
          obtain ⟨tk2, ta2, tn2, ts2, tr2⟩ := t
          obtain ⟨rfl, rfl⟩ := hcl
          have CJ : Hid (Calls Tryz.prog 99 #[.pointer (some ⟨p, 0, Option.none⟩)] wr fun e w' => e = .returned (.agg #[.int .u8 5, .int .i64 ta2, .int .i64 tn2, .string ⟨#[93]⟩, .int .i64 tr2]) ∧ Below wr.heap.size wr w') := Lib.hid CJ
          clear hm hR1 ht
          go_upto_region 19 with (first | (go_at_call 99; refine CJ.out.mono ?_; rintro e w7 ⟨rfl, hb7⟩; have HB7 := Lib.hid hb7; clear hb7))
          obtain ⟨q, hq⟩ : ∃ q, q = w7.heap.size := ⟨_, rfl⟩
          obtain ⟨Y, hY⟩ : ∃ Y, Y = w7.alloc (.cells #[.int .u8 5, .int .i64 ta2, .int .i64 tn2, .string ⟨#[93]⟩, .int .i64 tr2] 58) := ⟨_, rfl⟩
          have hay : Below w7.heap.size w7 Y := by rw [hY]; exact (Below.refl _ _).alloc (Nat.le_refl _) _
          have HTY := Lib.hid ((HRJ.out.below HB7.out).below hay)
          have hzy := BlkN.below (BlkN.below HZJ.out HB7.out) hay
          have hly : BlkN Y b 27 #[.int .u8 3, .int .i64 0, .string ⟨#[]⟩, .slice A vs.length cap, .int .i64 0] := BlkN.below (BlkN.below HLJ.out HB7.out) hay
          have HVY := Lib.hid ((HVJ.out.below HB7.out).below hay)
          have HUY := Lib.hid ((HUJ.out.below HB7.out).below hay)
          have hky : BlkN Y q 58 #[.int .u8 5, .int .i64 ta2, .int .i64 tn2, .string ⟨#[93]⟩, .int .i64 tr2] := by rw [hY, hq]; exact BlkN.at_ rfl _ _
          rw [← hY, ← hq]
          clear hY hq hay HB7 CJ
          have HZY := Lib.hid hzy
          have k0 := hky.cell 0 rfl
          have k3 := hky.cell 3 rfl
          have hql := hky.lt
          have hpy := BlkN.lt HTY.out
          have c1 := BlkN.cell HTY.out 1 rfl
          have f1 := BlkN.free HTY.out 1
          have hny := hzy.lt
          have hby := hly.lt
          have d0 := hzy.cell 0 rfl
          have x0 := hzy.free 0
          have e0 := hly.cell 0 rfl
          have d1 := hzy.cell 1 rfl
          have x1 := hzy.free 1
          have e1 := hly.cell 1 rfl
          have d2 := hzy.cell 2 rfl
          have x2 := hzy.free 2
          have e2 := hly.cell 2 rfl
          have d3 := hzy.cell 3 rfl
          have x3 := hzy.free 3
          have e3 := hly.cell 3 rfl
          have d4 := hzy.cell 4 rfl
          have x4 := hzy.free 4
          have e4 := hly.cell 4 rfl
          clear hzy hly hky
          go_wp2_with fail
          obtain ⟨V', hV', hB3, hbut3⟩ := set5_done (BlkN.setOther HZY.out (q := ⟨p, 1, Option.none⟩) (by show N ≠ p; omega) (.int .i64 ((j : Int) + 1))) (.int .u8 3) (.int .i64 0) (.string ⟨#[]⟩) (.slice A vs.length cap) (.int .i64 0)
          rw [hV']
          refine bodyPost_ret (results_cell1 (s := 4) (b := N) rfl Tryz.underlying27 hi0 rfl hB3 (by rw [hz1]; rfl)) rfl ⟨hbut3.upd (Nat.le_of_eq HN.out.symm) (HUY.out.set 1 _), ?_⟩
          rw [HRD.out, HR1.out]
          exact ⟨j + 1, by omega, by omega, rfl, _, rfl, list_tk (HVY.out.upd ((Upd.refl p Y).set 1 _) (by omega)) hbut3 (by omega) (by have := HN.out; omega) (by omega), HTY.out.adv.but hbut3 (by omega)⟩
        have hcase : t.k ≠ 5 ∨ (t.k = 5 ∧ ∃ c, t.s = [c] ∧ c ≠ 93) := by
          by_cases h5 : t.k = 5
          · refine .inr ⟨h5, ?_⟩
            unfold tokMay at hm
            rw [if_neg (by omega), if_neg (by omega), if_neg (by omega), if_neg (by omega), if_pos h5] at hm
            simp only [Bool.and_eq_true] at hm
            obtain ⟨c, hc⟩ := one_sign hm.2
            exact ⟨c, hc, fun e => hcl ⟨h5, by rw [hc, e]⟩⟩
          · exact .inl h5
        have HCL := Lib.hid hcl
        obtain ⟨t5, ht5⟩ : ∃ t5, t5 = t := ⟨_, rfl⟩
        have HT5 := Lib.hid ht5
        have HDT : Hid (l.drop j = t5 :: l.drop (j + 1)) := Lib.hid (by rw [ht5]; exact HDJ.out)
        have HMT : Hid (tokMay t5 = true) := Lib.hid (by rw [ht5]; exact hm)
        have HCT : Hid (¬ (t5.k = 5 ∧ t5.s = [93])) := Lib.hid (by rw [ht5]; exact hcl)
        obtain ⟨tk2, ta2, tn2, ts2, tr2⟩ := t
        have CJ : Hid (Calls Tryz.prog 99 #[.pointer (some ⟨p, 0, Option.none⟩)] wr fun e w' => e = .returned (.agg #[.int .u8 tk2, .int .i64 ta2, .int .i64 tn2, .string (txtV ts2), .int .i64 tr2]) ∧ Below wr.heap.size wr w') := Lib.hid CJ
        clear hm hcl ht ht5 HT5 HCL HMJ HDJ
        simp only at hcase
        rcases hcase with h5 | ⟨rfl, c2, rfl, h93⟩
        rotate_left
        · have hb93 : (c2 == 93) = false := by rw [beq_eq_false_iff_ne]; exact h93
          have hcs : txtV [c2] = (⟨#[c2]⟩ : ByteArray) := rfl
          rw [hcs] at CJ
          clear h93 hcs
          go_upto_region 22 with (first | (go_at_call 99; refine CJ.out.mono ?_; rintro e w7 ⟨rfl, hb7⟩; have HB7 := Lib.hid hb7; clear hb7; have hkq : BlkN (w7.alloc (.cells #[.int .u8 5, .int .i64 ta2, .int .i64 tn2, .string ⟨#[c2]⟩, .int .i64 tr2] 58)) w7.heap.size 58 #[.int .u8 5, .int .i64 ta2, .int .i64 tn2, .string ⟨#[c2]⟩, .int .i64 tr2] := BlkN.at_ rfl _ _; have k0 := hkq.cell 0 rfl; have k3 := hkq.cell 3 rfl; have hql := hkq.lt; clear hkq))
          obtain ⟨Y, hY⟩ : ∃ Y, Y = w7.alloc (.cells #[.int .u8 5, .int .i64 ta2, .int .i64 tn2, .string ⟨#[c2]⟩, .int .i64 tr2] 58) := ⟨_, rfl⟩
          have hay : Below w7.heap.size w7 Y := by rw [hY]; exact (Below.refl _ _).alloc (Nat.le_refl _) _
          have HTY := Lib.hid ((HRJ.out.below HB7.out).below hay)
          have HZY : Hid (BlkN Y N 27 #[.int .u8 0, .int .i64 0, .string ⟨#[]⟩, .slice Option.none 0 0, .int .i64 0]) := Lib.hid (BlkN.below (BlkN.below HZJ.out HB7.out) hay)
          have HLY : Hid (LvT Y b A vs.length cap) := Lib.hid (BlkN.below (BlkN.below HLJ.out HB7.out) hay)
          have HVY := Lib.hid ((HVJ.out.below HB7.out).below hay)
          have HUY := Lib.hid ((HUJ.out.below HB7.out).below hay)
          have hsY : b + 1 ≤ Y.heap.size := by have := HB7.out.size; have := hay.size; omega
          rw [← hY]
          clear hY hay HB7 CJ k0 k3 hql hpr hsz hBr
          have hpy := BlkN.lt HTY.out
          have e1 := BlkN.cell HTY.out 1 rfl
          have e2 := BlkN.cell HTY.out 2 rfl
          by_cases hm6 : 512 ≤ m
          · have hmi : (512 : Int) ≤ (m : Nat) := by omega
            have hR1 : R = .no (l.drop j) := by rw [← HLS.out, HDT.out, tkLs_full _ _ _ _ _ _ HMT.out HCT.out hm6]
            have HR1 := Lib.hid hR1
            clear hm6 hR1
            go_wp2_with fail
            refine ⟨rfl, HUY.out, ?_⟩
            rw [HRD.out, HR1.out]
            exact ⟨j, hj, rfl, rfl⟩
          have hmi : ¬ (512 : Int) ≤ (m : Nat) := by omega
          have hm5' : m < 512 := by omega
          have hon : R = match tkV n (l.drop j) m with | .ok (v, q) r => tkLs (tkV n) f r q (vs ++ [v]) | .no r => .no r := by
            rw [← HLS.out, HDT.out, tkLs_on _ _ _ _ _ _ HMT.out HCT.out hm6]
          have CI := HIH.out l j m Y.drew B p v HTY.out (HVK.out Y.drew (HUY.out.drewN 1)) hBp hj HOK.out hm5'
          have hpt := fun x r => tkV_part n (l.drop j) m x r hm5'
          have hob : ∀ g', (Value.slice A vs.length cap).ownBlock = some g' → b + 1 ≤ g' ∧ g' < Y.heap.size := fun g' hg => HVY.out.blk hg
          go_upto_region 24 with fail
          clear e1 e2 hmi hm6
          cases hE : tkV n (l.drop j) m with
          | no t2 =>
            rw [hE] at CI hon
            have HCI := Lib.hid CI
            have HON := Lib.hid hon
            clear CI hon hE hpt
            refine region_mixP (fun c w' => Upd p w w' ∧ TRsP (tkV (n + 1) (l.drop i) k) l i (.panicked c) (fun x j => ∃ u, Ending.panicked c = .returned u ∧ IsVaR w' (Own34 w' w.heap.size) u x.1 ∧ Tkr w' p v j x.2)) (fun c a w h1 h2 => ⟨h1, h2⟩) (fun i => Nat.ble i 8) (fun V => LvT V b A vs.length cap) [(true, 0), (true, 1), (true, 2), (true, 3), (true, 4), (false, 5), (false, 6), (false, 7), (true, 8), (false, 9)] rfl (by kernel_rfl) (by kernel_rfl) (by decide) ?_
            have hS0 : LvT Y.drew b A vs.length cap := HLY.out
            refine RegT.seqM_quiet hS0 rfl (fun _ _ _ h => h) (by kernel_rfl) (v := .pointer (some ⟨b, 3, Option.none⟩)) (fun w' hS => ?_) ?_
            · go_simp
            refine RegT.seqM_quiet hS0 rfl (fun _ _ _ h => h) (by kernel_rfl) (v := .slice A vs.length cap) (fun w' hS => ?_) ?_
            · have hS : BlkN w' b 27 #[.int .u8 3, .int .i64 0, .string ⟨#[]⟩, .slice A vs.length cap, .int .i64 0] := hS; have t3 := hS.cell 3 rfl; go_simp
            refine RegT.seqM_quiet hS0 rfl (fun _ _ _ h => h) (by kernel_rfl) (v := .pointer (some ⟨p, 0, Option.none⟩)) (fun w' hS => ?_) ?_
            · go_simp
            refine RegT.seqM_quiet hS0 rfl (fun _ _ _ h => h) (by kernel_rfl) (v := .int .i64 dp) (fun w' hS => ?_) ?_
            · go_simp
            refine RegT.seqM_quiet hS0 rfl (fun _ _ _ h => h) (by kernel_rfl) (v := .int .i64 ((16 : Int) - n)) (fun w' hS => ?_) ?_
            · go_simp
              have hdp := HDP.out; rw [IntKind.wrap_i64]; omega
            refine RegT.seqM_held rfl ?_
            clear hS0
            go_wp2_with (first | (go_at_call 49; refine HCI.out.mono ?_; rintro e w4 ⟨hu4, j2, hj2, rfl, rfl⟩))
            refine ⟨rfl, (HUY.out.drewN 1).trans hu4, ?_⟩
            rw [HRD.out, HON.out]
            exact ⟨j2, hj2, rfl, rfl⟩
          | ok y2 t2 =>
            obtain ⟨y, m2⟩ := y2
            have hpt := hpt _ _ hE
            simp only at hpt
            rw [hE] at CI hon
            have HCI := Lib.hid CI
            have HON := Lib.hid hon
            clear CI hon hE
            refine region_mixP (fun c w' => Upd p w w' ∧ TRsP (tkV (n + 1) (l.drop i) k) l i (.panicked c) (fun x j => ∃ u, Ending.panicked c = .returned u ∧ IsVaR w' (Own34 w' w.heap.size) u x.1 ∧ Tkr w' p v j x.2)) (fun c a w h1 h2 => ⟨h1, h2⟩) (fun i => Nat.ble i 8) (fun V => LvT V b A vs.length cap) [(true, 0), (true, 1), (true, 2), (true, 3), (true, 4), (false, 5), (false, 6), (false, 7), (true, 8), (false, 9)] rfl (by kernel_rfl) (by kernel_rfl) (by decide) ?_
            have hS0 : LvT Y.drew b A vs.length cap := HLY.out
            refine RegT.seqM_quiet hS0 rfl (fun _ _ _ h => h) (by kernel_rfl) (v := .pointer (some ⟨b, 3, Option.none⟩)) (fun w' hS => ?_) ?_
            · go_simp
            refine RegT.seqM_quiet hS0 rfl (fun _ _ _ h => h) (by kernel_rfl) (v := .slice A vs.length cap) (fun w' hS => ?_) ?_
            · have hS : BlkN w' b 27 #[.int .u8 3, .int .i64 0, .string ⟨#[]⟩, .slice A vs.length cap, .int .i64 0] := hS; have t3 := hS.cell 3 rfl; go_simp
            refine RegT.seqM_quiet hS0 rfl (fun _ _ _ h => h) (by kernel_rfl) (v := .pointer (some ⟨p, 0, Option.none⟩)) (fun w' hS => ?_) ?_
            · go_simp
            refine RegT.seqM_quiet hS0 rfl (fun _ _ _ h => h) (by kernel_rfl) (v := .int .i64 dp) (fun w' hS => ?_) ?_
            · go_simp
            refine RegT.seqM_quiet hS0 rfl (fun _ _ _ h => h) (by kernel_rfl) (v := .int .i64 ((16 : Int) - n)) (fun w' hS => ?_) ?_
            · go_simp
              have hdp := HDP.out; rw [IntKind.wrap_i64]; omega
            refine RegT.seqM_held rfl ?_
            clear hS0
            go_wp2_with (first | (go_at_call 49; refine HCI.out.mono ?_; rintro e w4 ⟨hu4, j2, hjj, hj2, rfl, v4, rfl, hv4, hr4⟩))
            obtain ⟨k3, n3, s3, A3, len3, cap3, r3, rfl⟩ := hv4.shape
            have HL4 : Hid (LvT w4 b A vs.length cap) := Lib.hid (BlkN.upd hu4 HLY.out (by omega))
            have hu4' : Upd p Y w4 := ((Upd.refl p Y).drewN 1).trans hu4
            have hs4 : Y.heap.size ≤ w4.heap.size := hu4'.size
            have HV4 := Lib.hid (HVY.out.upd hu4' (by omega))
            have HX4 := Lib.hid hv4
            have HR4 := Lib.hid hr4
            have HZ4 := Lib.hid (BlkN.upd hu4' HZY.out (by omega))
            have HU4 := Lib.hid (HUY.out.trans hu4')
            have hg4 := BlkN.lt HL4.out
            clear hu4 hu4' hv4 hr4 HCI
            refine ⟨HL4.out, RegT.seqM_held rfl ?_⟩
            go_wp2_with fail
            refine ⟨BlkN.alloc HL4.out _, RegT.seqM_held rfl ?_⟩
            go_wp2_with (first
              | (refine wpList_append_va _ rfl (.tmp 132) (.tmp 137) rfl (b + 1) Y.heap.size (.slice A vs.length cap) vs xs rfl (HV4.out.below ((Below.refl _ w4).alloc (Nat.le_refl _) (.cells #[.int .u8 k3, .int .i64 n3, .string s3, .slice A3 len3 cap3, .int .i64 r3] 27))) w4.heap.size (.int .u8 k3) (.int .i64 n3) (.string s3) (.slice A3 len3 cap3) (.int .i64 r3) y rfl (BlkN.at_ rfl 27 _) (HX4.out.below ((Below.refl _ w4).alloc (Nat.le_refl _) _)) hsY (fun g' hg => (hob g' hg).2) (by omega) (by simp; omega) ?_
                 intro v5 w5 xs5 hv5 hg5
                 obtain ⟨ws, hws⟩ : ∃ ws, ws = vs ++ [y] := ⟨_, rfl⟩
                 rw [← hws] at hv5
                 obtain ⟨A5, cap5, hsl5, hcap5, _⟩ := hv5.list
                 subst hsl5
                 have HWS := Lib.hid hws
                 clear hws
                 have HR5 := Lib.hid (Tkr.grown (BlkN.alloc HR4.out (.cells #[.int .u8 k3, .int .i64 n3, .string s3, .slice A3 len3 cap3, .int .i64 r3] 27)) hg5 (fun g' hg => by have := (hob g' hg).1; omega))
                 have HZ5 : Hid (BlkN w5 N 27 #[.int .u8 0, .int .i64 0, .string ⟨#[]⟩, .slice Option.none 0 0, .int .i64 0]) := Lib.hid ((hg5.block _ (by have := BlkN.lt HZ4.out; simp; omega) (fun e => by have := (hob _ e.symm).1; omega)).trans (BlkN.alloc HZ4.out _))
                 have HL5 : Hid (LvT w5 b A vs.length cap) := Lib.hid ((hg5.block _ (by simp; omega) (fun e => by have := (hob _ e.symm).1; omega)).trans (BlkN.alloc HL4.out _))
                 have HV5 := Lib.hid hv5
                 have hs5 : w4.heap.size + 1 ≤ w5.heap.size := by have := hg5.size; simpa using this
                 have HU5 := Lib.hid (Upd.grown (HU4.out.alloc (.cells #[.int .u8 k3, .int .i64 n3, .string s3, .slice A3 len3 cap3, .int .i64 r3] 27)) hg5 (fun g' hg => by have := (hob g' hg).1; have := HN.out; omega))
                 clear hv5 hg5))
            refine ⟨HL5.out, ?_⟩
            refine RegT.seqM_quiet HL5.out rfl (fun _ _ _ h => h) (by kernel_rfl) (v := .pointer (some ⟨b, 3, Option.none⟩)) (fun w' hS => ?_) ?_
            · go_simp
            refine RegT.seqM_free rfl rfl ?_
            have hl5 : BlkN w5 b 27 #[.int .u8 3, .int .i64 0, .string ⟨#[]⟩, .slice A vs.length cap, .int .i64 0] := HL5.out
            have e3 := hl5.cell 3 rfl
            have y3 := hl5.free 3
            have hg5 := hl5.lt
            go_wp2_with fail
            refine RegT.seqM_end ?_
            simp only [PanP, Exit.inBlock]
            obtain ⟨W6, hW6⟩ : ∃ W6, W6 = w5.setCell ⟨b, 3, Option.none⟩ (.slice A5 ws.length cap5) := ⟨_, rfl⟩
            have HRW : Hid (Tkr W6 p v j2 m2) := Lib.hid (by rw [hW6]; exact BlkN.setOther HR5.out (q := ⟨b, 3, Option.none⟩) (by show p ≠ b; omega) _)
            have HZW : Hid (BlkN W6 N 27 #[.int .u8 0, .int .i64 0, .string ⟨#[]⟩, .slice Option.none 0 0, .int .i64 0]) := Lib.hid (by rw [hW6]; exact BlkN.setOther HZ5.out (q := ⟨b, 3, Option.none⟩) (by show N ≠ b; omega) _)
            have HLW : Hid (LvT W6 b A5 ws.length cap5) := Lib.hid (by rw [hW6]; have := BlkN.set hl5 3 (.slice A5 ws.length cap5); unfold LvT; simpa using this)
            have HVW : Hid (VRow W6 (b + 1) (.slice A5 ws.length cap5) ws xs5) := Lib.hid (by rw [hW6]; exact HV5.out.upd ((Upd.refl b w5).set 3 _) (by omega))
            have hbw : But b w5 W6 := by rw [hW6]; exact ⟨rfl, rfl, rfl, by simp [World.setCell], fun k hk => Below.heap_setCell _ _ _ _ hk⟩
            have HUW : Hid (Upd p w W6) := Lib.hid (hbw.upd (by have := HN.out; omega) HU5.out)
            have hsW : b + 1 ≤ W6.heap.size := by rw [hbw.size]; omega
            rw [← hW6]
            clear hW6 hbw hl5 e3 y3 hg5
            have hwl : ws.length = vs.length + 1 := by rw [HWS.out]; simp
            have HWL := Lib.hid hwl
            clear hwl
            go_wp2_with fail
            go_roundw
            case rel => exact ⟨j2, m2, ws, xs5, A5, cap5, by omega, hj2, hsW, HRW.out, HZW.out, HLW.out, HVW.out, HUW.out, by have := HWL.out; omega, by omega, by rw [HON.out, show 514 - ws.length = f by have := HWL.out; have := HF.out; omega, HWS.out]⟩
            case measure => rw [HRW.out.pos, HRJ.out.pos]; omega
        · have hb5 : ((tk2 : Int) == 5) = false := by rw [beq_eq_false_iff_ne]; exact h5
          clear h5
          go_upto_region 22 with (first | (go_at_call 99; refine CJ.out.mono ?_; rintro e w7 ⟨rfl, hb7⟩; have HB7 := Lib.hid hb7; clear hb7; have hkq : BlkN (w7.alloc (.cells #[.int .u8 tk2, .int .i64 ta2, .int .i64 tn2, .string (txtV ts2), .int .i64 tr2] 58)) w7.heap.size 58 #[.int .u8 tk2, .int .i64 ta2, .int .i64 tn2, .string (txtV ts2), .int .i64 tr2] := BlkN.at_ rfl _ _; have k0 := hkq.cell 0 rfl; have k3 := hkq.cell 3 rfl; have hql := hkq.lt; clear hkq))
          obtain ⟨Y, hY⟩ : ∃ Y, Y = w7.alloc (.cells #[.int .u8 tk2, .int .i64 ta2, .int .i64 tn2, .string (txtV ts2), .int .i64 tr2] 58) := ⟨_, rfl⟩
          have hay : Below w7.heap.size w7 Y := by rw [hY]; exact (Below.refl _ _).alloc (Nat.le_refl _) _
          have HTY := Lib.hid ((HRJ.out.below HB7.out).below hay)
          have HZY : Hid (BlkN Y N 27 #[.int .u8 0, .int .i64 0, .string ⟨#[]⟩, .slice Option.none 0 0, .int .i64 0]) := Lib.hid (BlkN.below (BlkN.below HZJ.out HB7.out) hay)
          have HLY : Hid (LvT Y b A vs.length cap) := Lib.hid (BlkN.below (BlkN.below HLJ.out HB7.out) hay)
          have HVY := Lib.hid ((HVJ.out.below HB7.out).below hay)
          have HUY := Lib.hid ((HUJ.out.below HB7.out).below hay)
          have hsY : b + 1 ≤ Y.heap.size := by have := HB7.out.size; have := hay.size; omega
          rw [← hY]
          clear hY hay HB7 CJ k0 k3 hql hpr hsz hBr
          have hpy := BlkN.lt HTY.out
          have e1 := BlkN.cell HTY.out 1 rfl
          have e2 := BlkN.cell HTY.out 2 rfl
          by_cases hm6 : 512 ≤ m
          · have hmi : (512 : Int) ≤ (m : Nat) := by omega
            have hR1 : R = .no (l.drop j) := by rw [← HLS.out, HDT.out, tkLs_full _ _ _ _ _ _ HMT.out HCT.out hm6]
            have HR1 := Lib.hid hR1
            clear hm6 hR1
            go_wp2_with fail
            refine ⟨rfl, HUY.out, ?_⟩
            rw [HRD.out, HR1.out]
            exact ⟨j, hj, rfl, rfl⟩
          have hmi : ¬ (512 : Int) ≤ (m : Nat) := by omega
          have hm5' : m < 512 := by omega
          have hon : R = match tkV n (l.drop j) m with | .ok (v, q) r => tkLs (tkV n) f r q (vs ++ [v]) | .no r => .no r := by
            rw [← HLS.out, HDT.out, tkLs_on _ _ _ _ _ _ HMT.out HCT.out hm6]
          have CI := HIH.out l j m Y.drew B p v HTY.out (HVK.out Y.drew (HUY.out.drewN 1)) hBp hj HOK.out hm5'
          have hpt := fun x r => tkV_part n (l.drop j) m x r hm5'
          have hob : ∀ g', (Value.slice A vs.length cap).ownBlock = some g' → b + 1 ≤ g' ∧ g' < Y.heap.size := fun g' hg => HVY.out.blk hg
          go_upto_region 24 with fail
          clear e1 e2 hmi hm6
          cases hE : tkV n (l.drop j) m with
          | no t2 =>
            rw [hE] at CI hon
            have HCI := Lib.hid CI
            have HON := Lib.hid hon
            clear CI hon hE hpt
            refine region_mixP (fun c w' => Upd p w w' ∧ TRsP (tkV (n + 1) (l.drop i) k) l i (.panicked c) (fun x j => ∃ u, Ending.panicked c = .returned u ∧ IsVaR w' (Own34 w' w.heap.size) u x.1 ∧ Tkr w' p v j x.2)) (fun c a w h1 h2 => ⟨h1, h2⟩) (fun i => Nat.ble i 8) (fun V => LvT V b A vs.length cap) [(true, 0), (true, 1), (true, 2), (true, 3), (true, 4), (false, 5), (false, 6), (false, 7), (true, 8), (false, 9)] rfl (by kernel_rfl) (by kernel_rfl) (by decide) ?_
            have hS0 : LvT Y.drew b A vs.length cap := HLY.out
            refine RegT.seqM_quiet hS0 rfl (fun _ _ _ h => h) (by kernel_rfl) (v := .pointer (some ⟨b, 3, Option.none⟩)) (fun w' hS => ?_) ?_
            · go_simp
            refine RegT.seqM_quiet hS0 rfl (fun _ _ _ h => h) (by kernel_rfl) (v := .slice A vs.length cap) (fun w' hS => ?_) ?_
            · have hS : BlkN w' b 27 #[.int .u8 3, .int .i64 0, .string ⟨#[]⟩, .slice A vs.length cap, .int .i64 0] := hS; have t3 := hS.cell 3 rfl; go_simp
            refine RegT.seqM_quiet hS0 rfl (fun _ _ _ h => h) (by kernel_rfl) (v := .pointer (some ⟨p, 0, Option.none⟩)) (fun w' hS => ?_) ?_
            · go_simp
            refine RegT.seqM_quiet hS0 rfl (fun _ _ _ h => h) (by kernel_rfl) (v := .int .i64 dp) (fun w' hS => ?_) ?_
            · go_simp
            refine RegT.seqM_quiet hS0 rfl (fun _ _ _ h => h) (by kernel_rfl) (v := .int .i64 ((16 : Int) - n)) (fun w' hS => ?_) ?_
            · go_simp
              have hdp := HDP.out; rw [IntKind.wrap_i64]; omega
            refine RegT.seqM_held rfl ?_
            clear hS0
            go_wp2_with (first | (go_at_call 49; refine HCI.out.mono ?_; rintro e w4 ⟨hu4, j2, hj2, rfl, rfl⟩))
            refine ⟨rfl, (HUY.out.drewN 1).trans hu4, ?_⟩
            rw [HRD.out, HON.out]
            exact ⟨j2, hj2, rfl, rfl⟩
          | ok y2 t2 =>
            obtain ⟨y, m2⟩ := y2
            have hpt := hpt _ _ hE
            simp only at hpt
            rw [hE] at CI hon
            have HCI := Lib.hid CI
            have HON := Lib.hid hon
            clear CI hon hE
            refine region_mixP (fun c w' => Upd p w w' ∧ TRsP (tkV (n + 1) (l.drop i) k) l i (.panicked c) (fun x j => ∃ u, Ending.panicked c = .returned u ∧ IsVaR w' (Own34 w' w.heap.size) u x.1 ∧ Tkr w' p v j x.2)) (fun c a w h1 h2 => ⟨h1, h2⟩) (fun i => Nat.ble i 8) (fun V => LvT V b A vs.length cap) [(true, 0), (true, 1), (true, 2), (true, 3), (true, 4), (false, 5), (false, 6), (false, 7), (true, 8), (false, 9)] rfl (by kernel_rfl) (by kernel_rfl) (by decide) ?_
            have hS0 : LvT Y.drew b A vs.length cap := HLY.out
            refine RegT.seqM_quiet hS0 rfl (fun _ _ _ h => h) (by kernel_rfl) (v := .pointer (some ⟨b, 3, Option.none⟩)) (fun w' hS => ?_) ?_
            · go_simp
            refine RegT.seqM_quiet hS0 rfl (fun _ _ _ h => h) (by kernel_rfl) (v := .slice A vs.length cap) (fun w' hS => ?_) ?_
            · have hS : BlkN w' b 27 #[.int .u8 3, .int .i64 0, .string ⟨#[]⟩, .slice A vs.length cap, .int .i64 0] := hS; have t3 := hS.cell 3 rfl; go_simp
            refine RegT.seqM_quiet hS0 rfl (fun _ _ _ h => h) (by kernel_rfl) (v := .pointer (some ⟨p, 0, Option.none⟩)) (fun w' hS => ?_) ?_
            · go_simp
            refine RegT.seqM_quiet hS0 rfl (fun _ _ _ h => h) (by kernel_rfl) (v := .int .i64 dp) (fun w' hS => ?_) ?_
            · go_simp
            refine RegT.seqM_quiet hS0 rfl (fun _ _ _ h => h) (by kernel_rfl) (v := .int .i64 ((16 : Int) - n)) (fun w' hS => ?_) ?_
            · go_simp
              have hdp := HDP.out; rw [IntKind.wrap_i64]; omega
            refine RegT.seqM_held rfl ?_
            clear hS0
            go_wp2_with (first | (go_at_call 49; refine HCI.out.mono ?_; rintro e w4 ⟨hu4, j2, hjj, hj2, rfl, v4, rfl, hv4, hr4⟩))
            obtain ⟨k3, n3, s3, A3, len3, cap3, r3, rfl⟩ := hv4.shape
            have HL4 : Hid (LvT w4 b A vs.length cap) := Lib.hid (BlkN.upd hu4 HLY.out (by omega))
            have hu4' : Upd p Y w4 := ((Upd.refl p Y).drewN 1).trans hu4
            have hs4 : Y.heap.size ≤ w4.heap.size := hu4'.size
            have HV4 := Lib.hid (HVY.out.upd hu4' (by omega))
            have HX4 := Lib.hid hv4
            have HR4 := Lib.hid hr4
            have HZ4 := Lib.hid (BlkN.upd hu4' HZY.out (by omega))
            have HU4 := Lib.hid (HUY.out.trans hu4')
            have hg4 := BlkN.lt HL4.out
            clear hu4 hu4' hv4 hr4 HCI
            refine ⟨HL4.out, RegT.seqM_held rfl ?_⟩
            go_wp2_with fail
            refine ⟨BlkN.alloc HL4.out _, RegT.seqM_held rfl ?_⟩
            go_wp2_with (first
              | (refine wpList_append_va _ rfl (.tmp 132) (.tmp 137) rfl (b + 1) Y.heap.size (.slice A vs.length cap) vs xs rfl (HV4.out.below ((Below.refl _ w4).alloc (Nat.le_refl _) (.cells #[.int .u8 k3, .int .i64 n3, .string s3, .slice A3 len3 cap3, .int .i64 r3] 27))) w4.heap.size (.int .u8 k3) (.int .i64 n3) (.string s3) (.slice A3 len3 cap3) (.int .i64 r3) y rfl (BlkN.at_ rfl 27 _) (HX4.out.below ((Below.refl _ w4).alloc (Nat.le_refl _) _)) hsY (fun g' hg => (hob g' hg).2) (by omega) (by simp; omega) ?_
                 intro v5 w5 xs5 hv5 hg5
                 obtain ⟨ws, hws⟩ : ∃ ws, ws = vs ++ [y] := ⟨_, rfl⟩
                 rw [← hws] at hv5
                 obtain ⟨A5, cap5, hsl5, hcap5, _⟩ := hv5.list
                 subst hsl5
                 have HWS := Lib.hid hws
                 clear hws
                 have HR5 := Lib.hid (Tkr.grown (BlkN.alloc HR4.out (.cells #[.int .u8 k3, .int .i64 n3, .string s3, .slice A3 len3 cap3, .int .i64 r3] 27)) hg5 (fun g' hg => by have := (hob g' hg).1; omega))
                 have HZ5 : Hid (BlkN w5 N 27 #[.int .u8 0, .int .i64 0, .string ⟨#[]⟩, .slice Option.none 0 0, .int .i64 0]) := Lib.hid ((hg5.block _ (by have := BlkN.lt HZ4.out; simp; omega) (fun e => by have := (hob _ e.symm).1; omega)).trans (BlkN.alloc HZ4.out _))
                 have HL5 : Hid (LvT w5 b A vs.length cap) := Lib.hid ((hg5.block _ (by simp; omega) (fun e => by have := (hob _ e.symm).1; omega)).trans (BlkN.alloc HL4.out _))
                 have HV5 := Lib.hid hv5
                 have hs5 : w4.heap.size + 1 ≤ w5.heap.size := by have := hg5.size; simpa using this
                 have HU5 := Lib.hid (Upd.grown (HU4.out.alloc (.cells #[.int .u8 k3, .int .i64 n3, .string s3, .slice A3 len3 cap3, .int .i64 r3] 27)) hg5 (fun g' hg => by have := (hob g' hg).1; have := HN.out; omega))
                 clear hv5 hg5))
            refine ⟨HL5.out, ?_⟩
            refine RegT.seqM_quiet HL5.out rfl (fun _ _ _ h => h) (by kernel_rfl) (v := .pointer (some ⟨b, 3, Option.none⟩)) (fun w' hS => ?_) ?_
            · go_simp
            refine RegT.seqM_free rfl rfl ?_
            have hl5 : BlkN w5 b 27 #[.int .u8 3, .int .i64 0, .string ⟨#[]⟩, .slice A vs.length cap, .int .i64 0] := HL5.out
            have e3 := hl5.cell 3 rfl
            have y3 := hl5.free 3
            have hg5 := hl5.lt
            go_wp2_with fail
            refine RegT.seqM_end ?_
            simp only [PanP, Exit.inBlock]
            obtain ⟨W6, hW6⟩ : ∃ W6, W6 = w5.setCell ⟨b, 3, Option.none⟩ (.slice A5 ws.length cap5) := ⟨_, rfl⟩
            have HRW : Hid (Tkr W6 p v j2 m2) := Lib.hid (by rw [hW6]; exact BlkN.setOther HR5.out (q := ⟨b, 3, Option.none⟩) (by show p ≠ b; omega) _)
            have HZW : Hid (BlkN W6 N 27 #[.int .u8 0, .int .i64 0, .string ⟨#[]⟩, .slice Option.none 0 0, .int .i64 0]) := Lib.hid (by rw [hW6]; exact BlkN.setOther HZ5.out (q := ⟨b, 3, Option.none⟩) (by show N ≠ b; omega) _)
            have HLW : Hid (LvT W6 b A5 ws.length cap5) := Lib.hid (by rw [hW6]; have := BlkN.set hl5 3 (.slice A5 ws.length cap5); unfold LvT; simpa using this)
            have HVW : Hid (VRow W6 (b + 1) (.slice A5 ws.length cap5) ws xs5) := Lib.hid (by rw [hW6]; exact HV5.out.upd ((Upd.refl b w5).set 3 _) (by omega))
            have hbw : But b w5 W6 := by rw [hW6]; exact ⟨rfl, rfl, rfl, by simp [World.setCell], fun k hk => Below.heap_setCell _ _ _ _ hk⟩
            have HUW : Hid (Upd p w W6) := Lib.hid (hbw.upd (by have := HN.out; omega) HU5.out)
            have hsW : b + 1 ≤ W6.heap.size := by rw [hbw.size]; omega
            rw [← hW6]
            clear hW6 hbw hl5 e3 y3 hg5
            have hwl : ws.length = vs.length + 1 := by rw [HWS.out]; simp
            have HWL := Lib.hid hwl
            clear hwl
            go_wp2_with fail
            go_roundw
            case rel => exact ⟨j2, m2, ws, xs5, A5, cap5, by omega, hj2, hsW, HRW.out, HZW.out, HLW.out, HVW.out, HUW.out, by have := HWL.out; omega, by omega, by rw [HON.out, show 514 - ws.length = f by have := HWL.out; have := HF.out; omega, HWS.out]⟩
            case measure => rw [HRW.out.pos, HRJ.out.pos]; omega
theorem tval_any : ∀ (nest : Nat), nest ≤ 16 → TValC nest
  | 0, h => tval_step 0 h (fun m e => by omega)
  | n + 1, h => tval_step (n + 1) h (fun m e => by
    obtain rfl : n = m := by omega
    exact tval_any n (by omega))
end Go.Proofs.YtjmelamllapmiaaGreatDoor
