/- The document's one: the token that begins at a place. -/
import Derived.Test.YtjmelamllapmiaaGreatDoorXb
import Derived.Test.YtjmelamllapmiaaGreatDoorV
import Derived.Test.YtjmelamllapmiaaGreatDoorVa
import Derived.Test.YtjmelamllapmiaaGreatDoorWa
import Derived.Test.YtjmelamllapmiaaGreatDoorPb
namespace Go.Proofs.YtjmelamllapmiaaGreatDoor
open Go.RowKit


theorem results_cell_tmps {P : Program} {w : World} {fn : Func} {s t u : Tmp} {T Tb : TypeId} (hr : fn.results = #[.cell s T, .tmp t, .tmp u]) {fs : Array Field} (ht : P.underlying T = some (.struct fs)) {i : TypeInfo} (hi : P.info? T = some i) {tmps : Array Value} {b : Nat} (hp : tmps.getD s undef = .pointer (some ⟨b, 0, Option.none⟩))
    {cs : Array Value} (hB : BlkN w b Tb cs) (hn : cs.size = i.size) {v x : Value} (hv : tmps.getD t undef = v) (hx : tmps.getD u undef = x) : (results fn tmps).run P w = .ok (.tuple #[.agg cs, v, x]) w := by
  have h := run_loadVar_blk (P := P) ht hi hB hn
  have hp' : tmps[s]?.getD undef = .pointer (some ⟨b, 0, Option.none⟩) := by simpa using hp
  have hv' : tmps[t]?.getD undef = v := by simpa using hv
  have hx' : tmps[u]?.getD undef = x := by simpa using hx
  simp only [results, hr]
  simp [hp', asAddr, h, hv', hx', Result.andThen]

def word0 : L8 → Bool | [] => false | c :: _ => wordB c
/-- What one answers. -/
def OneP (s : ByteArray) (i : Nat) (e : Ending) : Prop := match tokL s.size i (rest s i) with
  | .no r => ∃ (j : Nat) (k0 a n m : Int) (t : ByteArray), i ≤ j ∧ j ≤ s.size ∧ r = rest s j ∧ e = .returned (.tuple #[.agg #[.int .u8 k0, .int .i64 a, .int .i64 n, .string t, .int .i64 m], .int .i64 j, .bool false])
  | .ok t r => ∃ j : Nat, i < j ∧ j ≤ s.size ∧ r = rest s j ∧
      (if t.k ≠ 5 ∧ word0 r = true then ∃ (k0 a n m : Int) (t : ByteArray), e = .returned (.tuple #[.agg #[.int .u8 k0, .int .i64 a, .int .i64 n, .string t, .int .i64 m], .int .i64 j, .bool false]) else e = .returned (.tuple #[.agg t.arr, .int .i64 j, .bool true]))
theorem OneP.no {s : ByteArray} {i : Nat} {r : L8} (h : tokL s.size i (rest s i) = .no r) {j : Nat} (hij : i ≤ j) (hj : j ≤ s.size) (hr : r = rest s j) (k0 a n m : Int) (t : ByteArray) :
    OneP s i (.returned (.tuple #[.agg #[.int .u8 k0, .int .i64 a, .int .i64 n, .string t, .int .i64 m], .int .i64 j, .bool false])) := by
  unfold OneP; rw [h]; exact ⟨j, k0, a, n, m, t, hij, hj, hr, rfl⟩
theorem OneP.bad {s : ByteArray} {i : Nat} {r : L8} {x : Tk} (h : tokL s.size i (rest s i) = .ok x r) {j : Nat} (hij : i < j) (hj : j ≤ s.size) (hr : r = rest s j) (h5 : x.k ≠ 5) (hw : word0 (rest s j) = true) (k0 a n m : Int) (t : ByteArray) :
    OneP s i (.returned (.tuple #[.agg #[.int .u8 k0, .int .i64 a, .int .i64 n, .string t, .int .i64 m], .int .i64 j, .bool false])) := by
  unfold OneP; rw [h]; exact ⟨j, hij, hj, hr, by rw [if_pos ⟨h5, by rw [hr]; exact hw⟩]; exact ⟨k0, a, n, m, t, rfl⟩⟩
theorem OneP.good {s : ByteArray} {i : Nat} {r : L8} {x : Tk} (h : tokL s.size i (rest s i) = .ok x r) {j : Nat} (hij : i < j) (hj : j ≤ s.size) (hr : r = rest s j) (hw : x.k = 5 ∨ word0 (rest s j) = false) {e : Ending} (he : e = .returned (.tuple #[.agg x.arr, .int .i64 j, .bool true])) :
    OneP s i e := by
  unfold OneP; rw [h]; exact ⟨j, hij, hj, hr, by rw [if_neg]; exact he; rintro ⟨h1, h2⟩; rw [hr] at h2; rcases hw with hw | hw; exact h1 hw; rw [hw] at h2; cases h2⟩
theorem drop_word (l : L8) : word0 (l.dropWhile wordB) = false := by
  induction l with
  | nil => rfl
  | cons c t ih =>
    rw [List.dropWhile_cons]
    split
    · exact ih
    · rename_i h; simpa [word0] using h
theorem nameB_row (l : L8) (c : UInt8) (t : L8) (h : l = c :: t) (hl : lett c = true) : nameB (l.takeWhile wordB) = !decide (32 < (l.takeWhile wordB).length) := by
  subst h
  have hw : wordB c = true := by unfold wordB; rw [hl]; rfl
  rw [List.takeWhile_cons, if_pos hw]
  show (lett c && (t.takeWhile wordB).all (fun c => lett c || digB c) && decide ((t.takeWhile wordB).length < 32)) = _
  have ha : (t.takeWhile wordB).all (fun c => lett c || digB c) = true := by
    rw [List.all_eq_true]
    intro x hx
    have : ∀ (l : L8), x ∈ l.takeWhile wordB → wordB x = true := by
      intro l
      induction l with
      | nil => intro h; simp at h
      | cons d u ih =>
        rw [List.takeWhile_cons]
        split
        · intro h
          rcases List.mem_cons.1 h with rfl | h
          · assumption
          · exact ih h
        · intro h; simp at h
    exact this t hx
  rw [hl, ha, Bool.true_and, Bool.true_and, Bool.eq_iff_iff]
  simp
  omega
set_option maxRecDepth 100000 in
set_option maxHeartbeats 4000000 in
theorem one_letter (s : ByteArray) (i : Nat) (hi : i < s.size) (hs : s.size ≤ 140737488351232) (c : UInt8) (hc : c = s[i]) (hl : lett c = true) (w : World) :
    Calls Tryz.prog 110 #[.string s, .int .i64 i] w fun e w' => Below w.heap.size w w' ∧ OneP s i e := by
  obtain ⟨i0, hi0, hz0, hz1, hz2⟩ := info_parts info56
  have HRC : Hid (rest s i = c :: rest s (i + 1)) := Lib.hid (by rw [rest_cons hi, hc])
  have hii : (i : Int) < s.size := by omega
  have hc0 : c.toNat < 256 := c.toNat_lt
  go_enter Tryz.func110, Tryz.ntmps110
  go_upto_region 5 with fail
  rw [← hc]
  obtain ⟨n, hn⟩ : ∃ n, n = w.heap.size := ⟨_, rfl⟩
  obtain ⟨W, hW⟩ : ∃ W, W = (w.alloc (.cells #[.int .u8 0, .int .i64 0, .int .i64 0, .string ⟨#[]⟩, .int .i64 0] 58)).alloc (.cells #[.int .u8 0, .int .i64 i, .int .i64 0, .string ⟨#[]⟩, .int .i64 0] 58) := ⟨_, rfl⟩
  have HZ : Hid (BlkN W n 58 #[.int .u8 0, .int .i64 0, .int .i64 0, .string ⟨#[]⟩, .int .i64 0]) := Lib.hid (by rw [hW, hn]; exact (BlkN.at_ rfl _ _).alloc _)
  have HT : Hid (BlkN W (n + 1) 58 #[.int .u8 0, .int .i64 i, .int .i64 0, .string ⟨#[]⟩, .int .i64 0]) := Lib.hid (by rw [hW, hn]; exact BlkN.at_ (by simp) _ _)
  have HB : Hid (Below n w W) := Lib.hid (by rw [hW, hn]; exact ((Below.refl _ _).alloc (Nat.le_refl _) _).alloc (by simp) _)
  have HN := Lib.hid hn
  rw [← hW, ← hn]
  clear hW hn hc
  have hzn := HZ.out.lt
  have htn := HT.out.lt
  have C75 := Lib.hid (fun w => rletter_any c w)
  rw [hl] at C75
  have HL := Lib.hid hl
  obtain ⟨E, hE⟩ : ∃ E, E = i + ((rest s i).takeWhile wordB).length := ⟨_, rfl⟩
  have C76 := Lib.hid (fun w => while_any s hs i (by omega) true w)
  rw [rowB_true, ← hE] at C76
  have hEs : E ≤ s.size := by rw [hE]; have := tww_len (rest s i) wordB; rw [rest_len] at this; omega
  have hiE : i < E := by
    rw [hE, HRC.out, List.takeWhile_cons, if_pos (by unfold wordB; rw [hl]; rfl)]
    simp
  have HRE : Hid (rest s E = (rest s i).dropWhile wordB) := Lib.hid (by rw [hE, rest_drop, tww_drop])
  have HS : Hid ((s.extract i E).data.toList = (rest s i).takeWhile wordB) := Lib.hid (by rw [extract_list, hE, show i + ((rest s i).takeWhile wordB).length - i = ((rest s i).takeWhile wordB).length by omega, tww])
  have HE := Lib.hid hE
  clear hE hl
  have t0 := HT.out.cell 0 rfl
  have y0 := HT.out.free 0
  have t1 := HT.out.cell 1 rfl
  have y1 := HT.out.free 1
  have t2 := HT.out.cell 2 rfl
  have y2 := HT.out.free 2
  have t3 := HT.out.cell 3 rfl
  have y3 := HT.out.free 3
  have t4 := HT.out.cell 4 rfl
  have y4 := HT.out.free 4
  have z0 := HZ.out.cell 0 rfl
  have x0 := HZ.out.free 0
  have z1 := HZ.out.cell 1 rfl
  have x1 := HZ.out.free 1
  have z2 := HZ.out.cell 2 rfl
  have x2 := HZ.out.free 2
  have z3 := HZ.out.cell 3 rfl
  have x3 := HZ.out.free 3
  have z4 := HZ.out.cell 4 rfl
  have x4 := HZ.out.free 4
  go_upto_region 9 with (first | (go_at_call 169; refine (C75.out _).mono ?_; rintro e w1 ⟨rfl, hw1⟩; rw [hw1]; clear hw1) | (go_at_call 170; refine (C76.out _).mono ?_; rintro e w1 ⟨rfl, hw1⟩; rw [hw1]; clear hw1))
  obtain ⟨S, hS⟩ : ∃ S, S = s.extract i E := ⟨_, rfl⟩
  obtain ⟨V, hV⟩ : ∃ V, V = (W.setCell ⟨n + 1, 0, Option.none⟩ (.int .u8 1)).setCell ⟨n + 1, 3, Option.none⟩ (.string (s.extract i E)) := ⟨_, rfl⟩
  have HTV : Hid (BlkN V (n + 1) 58 #[.int .u8 1, .int .i64 i, .int .i64 0, .string S, .int .i64 0]) := Lib.hid (by rw [hV, hS]; have := (BlkN.set HT.out 0 (.int .u8 1)).set 3 (.string (s.extract i E)); simpa using this)
  have HZV : Hid (BlkN V n 58 #[.int .u8 0, .int .i64 0, .int .i64 0, .string ⟨#[]⟩, .int .i64 0]) := Lib.hid (by rw [hV]; exact (BlkN.setOther HZ.out (q := ⟨n + 1, 0, Option.none⟩) (by show n ≠ n + 1; omega) _).setOther (q := ⟨n + 1, 3, Option.none⟩) (by show n ≠ n + 1; omega) _)
  have HBV : Hid (Below n w V) := Lib.hid (by rw [hV]; exact (HB.out.setCell (p := ⟨n + 1, 0, Option.none⟩) (by show n ≤ n + 1; omega) _).setCell (p := ⟨n + 1, 3, Option.none⟩) (by show n ≤ n + 1; omega) _)
  rw [← hV]
  clear hV HT HZ HB y0 y1 y2 y3 y4 t0 t1 t2 t3 t4 x0 x1 x2 x3 x4 z0 z1 z2 z3 z4 hzn htn
  have hzn := HZV.out.lt
  have htn := HTV.out.lt
  have t0 := HTV.out.cell 0 rfl
  have y0 := HTV.out.free 0
  have t1 := HTV.out.cell 1 rfl
  have y1 := HTV.out.free 1
  have t2 := HTV.out.cell 2 rfl
  have y2 := HTV.out.free 2
  have t3 := HTV.out.cell 3 rfl
  have y3 := HTV.out.free 3
  have t4 := HTV.out.cell 4 rfl
  have y4 := HTV.out.free 4
  have z0 := HZV.out.cell 0 rfl
  have x0 := HZV.out.free 0
  have z1 := HZV.out.cell 1 rfl
  have x1 := HZV.out.free 1
  have z2 := HZV.out.cell 2 rfl
  have x2 := HZV.out.free 2
  have z3 := HZV.out.cell 3 rfl
  have x3 := HZV.out.free 3
  have z4 := HZV.out.cell 4 rfl
  have x4 := HZV.out.free 4
  have HSL : Hid (S.data.toList = (rest s i).takeWhile wordB) := Lib.hid (by rw [hS]; exact HS.out)
  have hss : S.size ≤ 140737488351232 := by
    have h1 : S.data.toList.length = S.size := by simp
    have := tww_len (rest s i) wordB
    rw [← HSL.out, h1, rest_len] at this
    omega
  clear hS
  obtain ⟨nb, hnb⟩ : ∃ nb, nb = nameB S.data.toList := ⟨_, rfl⟩
  have C77 := Lib.hid (fun w => rname_any S hss w)
  rw [← hnb] at C77
  have HNB : Hid (nb = !decide (32 < ((rest s i).takeWhile wordB).length)) := Lib.hid (by rw [hnb, HSL.out]; exact nameB_row _ c _ HRC.out HL.out)
  have HTOK := Lib.hid (tokL_letter s.size i (rest s i) c _ HRC.out HL.out)
  clear hnb
  cases nb with
  | true =>
    go_wp2_with (first | (go_at_call 158; refine (C77.out _).mono ?_; rintro e w1 ⟨rfl, hw1⟩; rw [hw1]; clear hw1))
    obtain ⟨V', hV', hB3, hbut3⟩ := set5_tok HZV.out (.int .u8 1) (.int .i64 i) (.int .i64 0) (.string S) (.int .i64 0)
    rw [hV']
    refine bodyPost_ret (results_cell_tmps (s := 4) (b := n) (t := 5) (u := 6) rfl Tryz.underlying58 hi0 rfl hB3 (by rw [hz1]; rfl) rfl rfl) rfl ⟨?_, ?_⟩
    · rw [← HN.out]; exact hbut3.below (Nat.le_refl _) HBV.out
    · refine OneP.good (x := ⟨1, i, 0, (rest s i).takeWhile wordB, 0⟩) (r := (rest s i).dropWhile wordB) ?_ hiE hEs HRE.out.symm (.inr (by rw [HRE.out]; exact drop_word _)) ?_
      · rw [HTOK.out, if_neg]
        have := HNB.out
        simpa using this.symm
      · rw [← HSL.out]; rfl
  | false =>
    go_wp2_with (first | (go_at_call 158; refine (C77.out _).mono ?_; rintro e w1 ⟨rfl, hw1⟩; rw [hw1]; clear hw1))
    obtain ⟨V', hV', hB3, hbut3⟩ := set5_tok HZV.out (.int .u8 1) (.int .i64 i) (.int .i64 0) (.string S) (.int .i64 0)
    rw [hV']
    refine bodyPost_ret (results_cell_tmps (s := 4) (b := n) (t := 5) (u := 6) rfl Tryz.underlying58 hi0 rfl hB3 (by rw [hz1]; rfl) rfl rfl) rfl ⟨?_, ?_⟩
    · rw [← HN.out]; exact hbut3.below (Nat.le_refl _) HBV.out
    · exact OneP.no (by
        rw [HTOK.out, if_pos]
        have := HNB.out
        simpa using this.symm) (Nat.le_refl _) (by omega) rfl _ _ _ _ _
set_option maxRecDepth 100000 in
set_option maxHeartbeats 4000000 in
theorem one_num (s : ByteArray) (i : Nat) (hi : i < s.size) (hs : s.size ≤ 140737488351232) (c : UInt8) (hc : c = s[i]) (hcl : lett c = false) (cd : Bool) (hcd : cd = digB c) (hdm : cd = true ∨ (cd = false ∧ ((c.toNat : Int) == 45) = true)) (neg : Bool) (D : L8) (E : Nat) (hE : E = i + 1 + ((rest s (i + 1)).takeWhile digB).length) (hX : (s.extract i E).data.toList = (if neg then [45] else []) ++ D) (hall : D.all digB = true) (htok : tokL s.size i (rest s i) = match numO neg D with | some n => .ok ⟨2, i, n, [], 0⟩ (rest s E) | Option.none => .no (rest s i)) (w : World) :
    Calls Tryz.prog 110 #[.string s, .int .i64 i] w fun e w' => Below w.heap.size w w' ∧ OneP s i e := by
  obtain ⟨i0, hi0, hz0, hz1, hz2⟩ := info_parts info56
  have HRC : Hid (rest s i = c :: rest s (i + 1)) := Lib.hid (by rw [rest_cons hi, hc])
  have hii : (i : Int) < s.size := by omega
  have hc0 : c.toNat < 256 := c.toNat_lt
  go_enter Tryz.func110, Tryz.ntmps110
  go_upto_region 5 with fail
  rw [← hc]
  obtain ⟨n, hn⟩ : ∃ n, n = w.heap.size := ⟨_, rfl⟩
  obtain ⟨W, hW⟩ : ∃ W, W = (w.alloc (.cells #[.int .u8 0, .int .i64 0, .int .i64 0, .string ⟨#[]⟩, .int .i64 0] 58)).alloc (.cells #[.int .u8 0, .int .i64 i, .int .i64 0, .string ⟨#[]⟩, .int .i64 0] 58) := ⟨_, rfl⟩
  have HZ : Hid (BlkN W n 58 #[.int .u8 0, .int .i64 0, .int .i64 0, .string ⟨#[]⟩, .int .i64 0]) := Lib.hid (by rw [hW, hn]; exact (BlkN.at_ rfl _ _).alloc _)
  have HT : Hid (BlkN W (n + 1) 58 #[.int .u8 0, .int .i64 i, .int .i64 0, .string ⟨#[]⟩, .int .i64 0]) := Lib.hid (by rw [hW, hn]; exact BlkN.at_ (by simp) _ _)
  have HB : Hid (Below n w W) := Lib.hid (by rw [hW, hn]; exact ((Below.refl _ _).alloc (Nat.le_refl _) _).alloc (by simp) _)
  have HN := Lib.hid hn
  rw [← hW, ← hn]
  clear hW hn hc
  have hzn := HZ.out.lt
  have htn := HT.out.lt
  have C75 := Lib.hid (fun w => rletter_any c w)
  have C78 := Lib.hid (fun w => rdigit_any c w)
  rw [hcl] at C75
  rw [← hcd] at C78
  have C76 := Lib.hid (fun w => while_any s hs (i + 1) (by omega) false w)
  rw [rowB_false, ← hE, show (((i + 1 : Nat) : Int)) = (i : Int) + 1 from rfl] at C76
  have hEs : E ≤ s.size := by rw [hE]; have := tww_len (rest s (i + 1)) digB; rw [rest_len] at this; omega
  have hiE : i < E := by omega
  have hXs : (s.extract i E).size ≤ 140737488351232 := by rw [ByteArray.size_extract]; omega
  have C79 := Lib.hid (fun w => rnumber_any (s.extract i E) neg D hX hall hXs w)
  have HTOK := Lib.hid htok
  clear hE hcl hcd hX hall htok
  rcases hdm with rfl | ⟨rfl, h45⟩
  all_goals
    go_upto_region 15 with (first | (go_at_call 169; refine (C75.out _).mono ?_; rintro e w1 ⟨rfl, hw1⟩; rw [hw1]; clear hw1) | (go_at_call 171; refine (C78.out _).mono ?_; rintro e w1 ⟨rfl, hw1⟩; rw [hw1]; clear hw1) | (go_at_call 170; refine (C76.out _).mono ?_; rintro e w1 ⟨rfl, hw1⟩; rw [hw1]; clear hw1) | (go_at_call 172; refine (C79.out _).mono ?_; rintro e w3 ⟨hb3, nv, ok, rfl, hok⟩; have HB3 := Lib.hid hb3; have HOK := Lib.hid hok; clear hb3 hok))
    have HT3 := Lib.hid (HT.out.below HB3.out)
    have HZ3 := Lib.hid (HZ.out.below HB3.out)
    have HBB3 := Lib.hid (HB.out.trans (HB3.out.mono (by omega)))
    clear C75 C76 C78 C79 hzn htn
    have hzn := HZ3.out.lt
    have htn := HT3.out.lt
    have t0 := HT3.out.cell 0 rfl
    have y0 := HT3.out.free 0
    have t1 := HT3.out.cell 1 rfl
    have y1 := HT3.out.free 1
    have t2 := HT3.out.cell 2 rfl
    have y2 := HT3.out.free 2
    have t3 := HT3.out.cell 3 rfl
    have y3 := HT3.out.free 3
    have t4 := HT3.out.cell 4 rfl
    have y4 := HT3.out.free 4
    have z0 := HZ3.out.cell 0 rfl
    have x0 := HZ3.out.free 0
    have z1 := HZ3.out.cell 1 rfl
    have x1 := HZ3.out.free 1
    have z2 := HZ3.out.cell 2 rfl
    have x2 := HZ3.out.free 2
    have z3 := HZ3.out.cell 3 rfl
    have x3 := HZ3.out.free 3
    have z4 := HZ3.out.cell 4 rfl
    have x4 := HZ3.out.free 4
    go_upto_region 17 with fail
    obtain ⟨V, hV⟩ : ∃ V, V = ((w3.setCell ⟨n + 1, 0, Option.none⟩ (.int .u8 2)).setCell ⟨n + 1, 2, Option.none⟩ (.int .i64 nv)) := ⟨_, rfl⟩
    have HTV : Hid (BlkN V (n + 1) 58 #[.int .u8 2, .int .i64 i, .int .i64 nv, .string ⟨#[]⟩, .int .i64 0]) := Lib.hid (by rw [hV]; have := (BlkN.set (BlkN.set HT3.out 0 (.int .u8 2)) 2 (.int .i64 nv)); simpa using this)
    have HZV : Hid (BlkN V n 58 #[.int .u8 0, .int .i64 0, .int .i64 0, .string ⟨#[]⟩, .int .i64 0]) := Lib.hid (by rw [hV]; exact (BlkN.setOther (BlkN.setOther HZ3.out (q := ⟨n + 1, 0, Option.none⟩) (by show n ≠ n + 1; omega) _) (q := ⟨n + 1, 2, Option.none⟩) (by show n ≠ n + 1; omega) _))
    have HBV : Hid (Below n w V) := Lib.hid (by rw [hV]; exact (Below.setCell (Below.setCell HBB3.out (p := ⟨n + 1, 0, Option.none⟩) (by show n ≤ n + 1; omega) _) (p := ⟨n + 1, 2, Option.none⟩) (by show n ≤ n + 1; omega) _))
    rw [← hV]
    clear hV
    clear hzn htn y0 y1 y2 y3 y4 t0 t1 t2 t3 t4 x0 x1 x2 x3 x4 z0 z1 z2 z3 z4
    have hzn := HZV.out.lt
    have htn := HTV.out.lt
    have t0 := HTV.out.cell 0 rfl
    have y0 := HTV.out.free 0
    have t1 := HTV.out.cell 1 rfl
    have y1 := HTV.out.free 1
    have t2 := HTV.out.cell 2 rfl
    have y2 := HTV.out.free 2
    have t3 := HTV.out.cell 3 rfl
    have y3 := HTV.out.free 3
    have t4 := HTV.out.cell 4 rfl
    have y4 := HTV.out.free 4
    have z0 := HZV.out.cell 0 rfl
    have x0 := HZV.out.free 0
    have z1 := HZV.out.cell 1 rfl
    have x1 := HZV.out.free 1
    have z2 := HZV.out.cell 2 rfl
    have x2 := HZV.out.free 2
    have z3 := HZV.out.cell 3 rfl
    have x3 := HZV.out.free 3
    have z4 := HZV.out.cell 4 rfl
    have x4 := HZV.out.free 4
    cases ok with
    | false =>
      have HNO : Hid (numO neg D = Option.none) := Lib.hid (by
        have := HOK.out
        cases hno : numO neg D with
        | none => rfl
        | some v => rw [hno] at this; exact absurd this.2 (by decide))
      go_wp2_with fail
      obtain ⟨V', hV', hB3, hbut3⟩ := set5_tok HZV.out (.int .u8 2) (.int .i64 i) (.int .i64 nv) (.string ⟨#[]⟩) (.int .i64 0)
      rw [hV']
      refine bodyPost_ret (results_cell_tmps (s := 4) (b := n) (t := 5) (u := 6) rfl Tryz.underlying58 hi0 rfl hB3 (by rw [hz1]; rfl) rfl rfl) rfl ⟨?_, ?_⟩
      · rw [← HN.out]; exact hbut3.below (Nat.le_refl _) HBV.out
      · exact OneP.no (by rw [HTOK.out, HNO.out]) (Nat.le_refl _) (by omega) rfl _ _ _ _ _
    | true =>
      have HNO : Hid (tokL s.size i (rest s i) = .ok ⟨2, i, nv, [], 0⟩ (rest s E)) := Lib.hid (by
        have := HOK.out
        rw [HTOK.out]
        cases hno : numO neg D with
        | none => rw [hno] at this; exact absurd (show true = false from this) (by decide)
        | some v => rw [hno] at this; rw [this.1])
      by_cases hEl : E < s.size
      · have hEi : (E : Int) < s.size := by omega
        obtain ⟨cl, hcl⟩ : ∃ cl, cl = lett s[E] := ⟨_, rfl⟩
        obtain ⟨cd, hcd⟩ : ∃ cd, cd = digB s[E] := ⟨_, rfl⟩
        have C75d := Lib.hid (fun w => rletter_any s[E] w)
        have C78d := Lib.hid (fun w => rdigit_any s[E] w)
        rw [← hcl] at C75d
        rw [← hcd] at C78d
        have HWD : Hid (word0 (rest s E) = (cl || cd)) := Lib.hid (by rw [rest_cons hEl, hcl, hcd]; rfl)
        clear hcl hcd
        cases cl with
        | true =>
          go_wp2_with (first | (go_at_call 169; refine (C75d.out _).mono ?_; rintro e w1 ⟨rfl, hw1⟩; rw [hw1]; clear hw1) | (go_at_call 171; refine (C78d.out _).mono ?_; rintro e w1 ⟨rfl, hw1⟩; rw [hw1]; clear hw1))
          obtain ⟨V', hV', hB3, hbut3⟩ := set5_tok HZV.out (.int .u8 2) (.int .i64 i) (.int .i64 nv) (.string ⟨#[]⟩) (.int .i64 0)
          rw [hV']
          refine bodyPost_ret (results_cell_tmps (s := 4) (b := n) (t := 5) (u := 6) rfl Tryz.underlying58 hi0 rfl hB3 (by rw [hz1]; rfl) rfl rfl) rfl ⟨?_, ?_⟩
          · rw [← HN.out]; exact hbut3.below (Nat.le_refl _) HBV.out
          · exact OneP.bad HNO.out (by omega) hEs rfl (by show (2 : Int) ≠ 5; decide) (by rw [HWD.out]; rfl) _ _ _ _ _
        | false =>
          cases cd with
          | true =>
            go_wp2_with (first | (go_at_call 169; refine (C75d.out _).mono ?_; rintro e w1 ⟨rfl, hw1⟩; rw [hw1]; clear hw1) | (go_at_call 171; refine (C78d.out _).mono ?_; rintro e w1 ⟨rfl, hw1⟩; rw [hw1]; clear hw1))
            obtain ⟨V', hV', hB3, hbut3⟩ := set5_tok HZV.out (.int .u8 2) (.int .i64 i) (.int .i64 nv) (.string ⟨#[]⟩) (.int .i64 0)
            rw [hV']
            refine bodyPost_ret (results_cell_tmps (s := 4) (b := n) (t := 5) (u := 6) rfl Tryz.underlying58 hi0 rfl hB3 (by rw [hz1]; rfl) rfl rfl) rfl ⟨?_, ?_⟩
            · rw [← HN.out]; exact hbut3.below (Nat.le_refl _) HBV.out
            · exact OneP.bad HNO.out (by omega) hEs rfl (by show (2 : Int) ≠ 5; decide) (by rw [HWD.out]; rfl) _ _ _ _ _
          | false =>
            go_wp2_with (first | (go_at_call 169; refine (C75d.out _).mono ?_; rintro e w1 ⟨rfl, hw1⟩; rw [hw1]; clear hw1) | (go_at_call 171; refine (C78d.out _).mono ?_; rintro e w1 ⟨rfl, hw1⟩; rw [hw1]; clear hw1))
            obtain ⟨V', hV', hB3, hbut3⟩ := set5_tok HZV.out (.int .u8 2) (.int .i64 i) (.int .i64 nv) (.string ⟨#[]⟩) (.int .i64 0)
            rw [hV']
            refine bodyPost_ret (results_cell_tmps (s := 4) (b := n) (t := 5) (u := 6) rfl Tryz.underlying58 hi0 rfl hB3 (by rw [hz1]; rfl) rfl rfl) rfl ⟨?_, ?_⟩
            · rw [← HN.out]; exact hbut3.below (Nat.le_refl _) HBV.out
            · exact OneP.good HNO.out (by omega) hEs rfl (.inr (by rw [HWD.out]; rfl)) rfl
      · have HWD : Hid (word0 (rest s E) = false) := Lib.hid (by rw [rest_end (by omega)]; rfl)
        go_wp2_with fail
        obtain ⟨V', hV', hB3, hbut3⟩ := set5_tok HZV.out (.int .u8 2) (.int .i64 i) (.int .i64 nv) (.string ⟨#[]⟩) (.int .i64 0)
        rw [hV']
        refine bodyPost_ret (results_cell_tmps (s := 4) (b := n) (t := 5) (u := 6) rfl Tryz.underlying58 hi0 rfl hB3 (by rw [hz1]; rfl) rfl rfl) rfl ⟨?_, ?_⟩
        · rw [← HN.out]; exact hbut3.below (Nat.le_refl _) HBV.out
        · exact OneP.good HNO.out (by omega) hEs rfl (.inr HWD.out) rfl
set_option maxRecDepth 100000 in
set_option maxHeartbeats 4000000 in
theorem one_ref (s : ByteArray) (i : Nat) (hi : i < s.size) (hs : s.size ≤ 140737488351232) (c : UInt8) (hc : c = s[i]) (h35 : c = 35) (w : World) :
    Calls Tryz.prog 110 #[.string s, .int .i64 i] w fun e w' => Below w.heap.size w w' ∧ OneP s i e := by
  obtain ⟨E, hE⟩ : ∃ E, E = i + 1 + ((rest s (i + 1)).takeWhile digB).length := ⟨_, rfl⟩
  obtain ⟨D, hD⟩ : ∃ D, D = (rest s (i + 1)).takeWhile digB := ⟨_, rfl⟩
  have HX : Hid ((s.extract (i + 1) E).data.toList = (if false then [45] else []) ++ D) := Lib.hid (by rw [extract_list, hE, show i + 1 + ((rest s (i + 1)).takeWhile digB).length - (i + 1) = ((rest s (i + 1)).takeWhile digB).length by omega, tww, hD]; rfl)
  have HRE : Hid (rest s E = (rest s (i + 1)).dropWhile digB) := Lib.hid (by rw [hE, rest_drop s (i + 1), tww_drop])
  have HALL : Hid (D.all digB = true) := Lib.hid (by rw [hD]; exact tw_all _)
  obtain ⟨i0, hi0, hz0, hz1, hz2⟩ := info_parts info56
  have HRC : Hid (rest s i = c :: rest s (i + 1)) := Lib.hid (by rw [rest_cons hi, hc])
  have hii : (i : Int) < s.size := by omega
  have hc0 : c.toNat < 256 := c.toNat_lt
  go_enter Tryz.func110, Tryz.ntmps110
  go_upto_region 5 with fail
  rw [← hc]
  obtain ⟨n, hn⟩ : ∃ n, n = w.heap.size := ⟨_, rfl⟩
  obtain ⟨W, hW⟩ : ∃ W, W = (w.alloc (.cells #[.int .u8 0, .int .i64 0, .int .i64 0, .string ⟨#[]⟩, .int .i64 0] 58)).alloc (.cells #[.int .u8 0, .int .i64 i, .int .i64 0, .string ⟨#[]⟩, .int .i64 0] 58) := ⟨_, rfl⟩
  have HZ : Hid (BlkN W n 58 #[.int .u8 0, .int .i64 0, .int .i64 0, .string ⟨#[]⟩, .int .i64 0]) := Lib.hid (by rw [hW, hn]; exact (BlkN.at_ rfl _ _).alloc _)
  have HT : Hid (BlkN W (n + 1) 58 #[.int .u8 0, .int .i64 i, .int .i64 0, .string ⟨#[]⟩, .int .i64 0]) := Lib.hid (by rw [hW, hn]; exact BlkN.at_ (by simp) _ _)
  have HB : Hid (Below n w W) := Lib.hid (by rw [hW, hn]; exact ((Below.refl _ _).alloc (Nat.le_refl _) _).alloc (by simp) _)
  have HN := Lib.hid hn
  rw [← hW, ← hn]
  clear hW hn hc
  have hzn := HZ.out.lt
  have htn := HT.out.lt
  have HTOK : Hid (tokL s.size i (rest s i) = match numO false D with | some n => if n < 1 then .no (rest s i) else .ok ⟨4, i, 0, [], n⟩ (rest s E) | Option.none => .no (rest s i)) := Lib.hid (by rw [tokL_ref s.size i (rest s i) c _ HRC.out h35, ← hD, ← HRE.out]; rfl)
  have C75 := Lib.hid (fun w => rletter_any c w)
  have C78 := Lib.hid (fun w => rdigit_any c w)
  subst h35
  rw [show lett 35 = false from rfl] at C75
  rw [show digB 35 = false from rfl] at C78
  have C76 := Lib.hid (fun w => while_any s hs (i + 1) (by omega) false w)
  rw [rowB_false, ← hE, show (((i + 1 : Nat) : Int)) = (i : Int) + 1 from rfl] at C76
  have hEs : E ≤ s.size := by rw [hE]; have := tww_len (rest s (i + 1)) digB; rw [rest_len] at this; omega
  have hiE : i < E := by omega
  have hXs : (s.extract (i + 1) E).size ≤ 140737488351232 := by rw [ByteArray.size_extract]; omega
  have C79 := Lib.hid (fun w => rnumber_any (s.extract (i + 1) E) false D HX.out HALL.out hXs w)
  have hi1 : i + 1 ≤ E := by omega
  clear hE hD
  go_upto_region 22 with (first | (go_at_call 169; refine (C75.out _).mono ?_; rintro e w1 ⟨rfl, hw1⟩; rw [hw1]; clear hw1) | (go_at_call 171; refine (C78.out _).mono ?_; rintro e w1 ⟨rfl, hw1⟩; rw [hw1]; clear hw1) | (go_at_call 170; refine (C76.out _).mono ?_; rintro e w1 ⟨rfl, hw1⟩; rw [hw1]; clear hw1) | (go_at_call 172; refine (C79.out _).mono ?_; rintro e w3 ⟨hb3, nv, ok, rfl, hok⟩; have HB3 := Lib.hid hb3; have HOK := Lib.hid hok; clear hb3 hok))
  have HT3 := Lib.hid (HT.out.below HB3.out)
  have HZ3 := Lib.hid (HZ.out.below HB3.out)
  have HBB3 := Lib.hid (HB.out.trans (HB3.out.mono (by omega)))
  clear C75 C76 C78 C79 hzn htn
  have hzn := HZ3.out.lt
  have htn := HT3.out.lt
  have t0 := HT3.out.cell 0 rfl
  have y0 := HT3.out.free 0
  have t1 := HT3.out.cell 1 rfl
  have y1 := HT3.out.free 1
  have t2 := HT3.out.cell 2 rfl
  have y2 := HT3.out.free 2
  have t3 := HT3.out.cell 3 rfl
  have y3 := HT3.out.free 3
  have t4 := HT3.out.cell 4 rfl
  have y4 := HT3.out.free 4
  have z0 := HZ3.out.cell 0 rfl
  have x0 := HZ3.out.free 0
  have z1 := HZ3.out.cell 1 rfl
  have x1 := HZ3.out.free 1
  have z2 := HZ3.out.cell 2 rfl
  have x2 := HZ3.out.free 2
  have z3 := HZ3.out.cell 3 rfl
  have x3 := HZ3.out.free 3
  have z4 := HZ3.out.cell 4 rfl
  have x4 := HZ3.out.free 4
  go_upto_region 24 with fail
  obtain ⟨V, hV⟩ : ∃ V, V = ((w3.setCell ⟨n + 1, 0, Option.none⟩ (.int .u8 4)).setCell ⟨n + 1, 4, Option.none⟩ (.int .i64 nv)) := ⟨_, rfl⟩
  have HTV : Hid (BlkN V (n + 1) 58 #[.int .u8 4, .int .i64 i, .int .i64 0, .string ⟨#[]⟩, .int .i64 nv]) := Lib.hid (by rw [hV]; have := (BlkN.set (BlkN.set HT3.out 0 (.int .u8 4)) 4 (.int .i64 nv)); simpa using this)
  have HZV : Hid (BlkN V n 58 #[.int .u8 0, .int .i64 0, .int .i64 0, .string ⟨#[]⟩, .int .i64 0]) := Lib.hid (by rw [hV]; exact (BlkN.setOther (BlkN.setOther HZ3.out (q := ⟨n + 1, 0, Option.none⟩) (by show n ≠ n + 1; omega) _) (q := ⟨n + 1, 4, Option.none⟩) (by show n ≠ n + 1; omega) _))
  have HBV : Hid (Below n w V) := Lib.hid (by rw [hV]; exact (Below.setCell (Below.setCell HBB3.out (p := ⟨n + 1, 0, Option.none⟩) (by show n ≤ n + 1; omega) _) (p := ⟨n + 1, 4, Option.none⟩) (by show n ≤ n + 1; omega) _))
  rw [← hV]
  clear hV
  clear hzn htn y0 y1 y2 y3 y4 t0 t1 t2 t3 t4 x0 x1 x2 x3 x4 z0 z1 z2 z3 z4
  have hzn := HZV.out.lt
  have htn := HTV.out.lt
  have t0 := HTV.out.cell 0 rfl
  have y0 := HTV.out.free 0
  have t1 := HTV.out.cell 1 rfl
  have y1 := HTV.out.free 1
  have t2 := HTV.out.cell 2 rfl
  have y2 := HTV.out.free 2
  have t3 := HTV.out.cell 3 rfl
  have y3 := HTV.out.free 3
  have t4 := HTV.out.cell 4 rfl
  have y4 := HTV.out.free 4
  have z0 := HZV.out.cell 0 rfl
  have x0 := HZV.out.free 0
  have z1 := HZV.out.cell 1 rfl
  have x1 := HZV.out.free 1
  have z2 := HZV.out.cell 2 rfl
  have x2 := HZV.out.free 2
  have z3 := HZV.out.cell 3 rfl
  have x3 := HZV.out.free 3
  have z4 := HZV.out.cell 4 rfl
  have x4 := HZV.out.free 4
  cases ok with
  | false =>
    have HNO : Hid (numO false D = Option.none) := Lib.hid (by
      have := HOK.out
      cases hno : numO false D with
      | none => rfl
      | some v => rw [hno] at this; exact absurd this.2 (by decide))
    go_wp2_with fail
    obtain ⟨V', hV', hB3, hbut3⟩ := set5_tok HZV.out (.int .u8 4) (.int .i64 i) (.int .i64 0) (.string ⟨#[]⟩) (.int .i64 nv)
    rw [hV']
    refine bodyPost_ret (results_cell_tmps (s := 4) (b := n) (t := 5) (u := 6) rfl Tryz.underlying58 hi0 rfl hB3 (by rw [hz1]; rfl) rfl rfl) rfl ⟨?_, ?_⟩
    · rw [← HN.out]; exact hbut3.below (Nat.le_refl _) HBV.out
    · exact OneP.no (by rw [HTOK.out, HNO.out]) (Nat.le_refl _) (by omega) rfl _ _ _ _ _
  | true =>
    have HNO : Hid (numO false D = some nv) := Lib.hid (by
      have := HOK.out
      cases hno : numO false D with
      | none => rw [hno] at this; exact absurd (show true = false from this) (by decide)
      | some v => rw [hno] at this; rw [this.1])
    by_cases hn1 : nv < 1
    · have HN1 : Hid (tokL s.size i (rest s i) = .no (rest s i)) := Lib.hid (by rw [HTOK.out, HNO.out]; exact if_pos hn1)
      go_wp2_with fail
      obtain ⟨V', hV', hB3, hbut3⟩ := set5_tok HZV.out (.int .u8 4) (.int .i64 i) (.int .i64 0) (.string ⟨#[]⟩) (.int .i64 nv)
      rw [hV']
      refine bodyPost_ret (results_cell_tmps (s := 4) (b := n) (t := 5) (u := 6) rfl Tryz.underlying58 hi0 rfl hB3 (by rw [hz1]; rfl) rfl rfl) rfl ⟨?_, ?_⟩
      · rw [← HN.out]; exact hbut3.below (Nat.le_refl _) HBV.out
      · exact OneP.no HN1.out (Nat.le_refl _) (by omega) rfl _ _ _ _ _
    · have HN1 : Hid (tokL s.size i (rest s i) = .ok ⟨4, i, 0, [], nv⟩ (rest s E)) := Lib.hid (by rw [HTOK.out, HNO.out]; exact if_neg hn1)
      by_cases hEl : E < s.size
      · have hEi : (E : Int) < s.size := by omega
        obtain ⟨cl, hcl⟩ : ∃ cl, cl = lett s[E] := ⟨_, rfl⟩
        obtain ⟨cd, hcd⟩ : ∃ cd, cd = digB s[E] := ⟨_, rfl⟩
        have C75d := Lib.hid (fun w => rletter_any s[E] w)
        have C78d := Lib.hid (fun w => rdigit_any s[E] w)
        rw [← hcl] at C75d
        rw [← hcd] at C78d
        have HWD : Hid (word0 (rest s E) = (cl || cd)) := Lib.hid (by rw [rest_cons hEl, hcl, hcd]; rfl)
        clear hcl hcd
        cases cl with
        | true =>
          go_wp2_with (first | (go_at_call 169; refine (C75d.out _).mono ?_; rintro e w1 ⟨rfl, hw1⟩; rw [hw1]; clear hw1) | (go_at_call 171; refine (C78d.out _).mono ?_; rintro e w1 ⟨rfl, hw1⟩; rw [hw1]; clear hw1))
          obtain ⟨V', hV', hB3, hbut3⟩ := set5_tok HZV.out (.int .u8 4) (.int .i64 i) (.int .i64 0) (.string ⟨#[]⟩) (.int .i64 nv)
          rw [hV']
          refine bodyPost_ret (results_cell_tmps (s := 4) (b := n) (t := 5) (u := 6) rfl Tryz.underlying58 hi0 rfl hB3 (by rw [hz1]; rfl) rfl rfl) rfl ⟨?_, ?_⟩
          · rw [← HN.out]; exact hbut3.below (Nat.le_refl _) HBV.out
          · exact OneP.bad HN1.out (by omega) hEs rfl (by show (4 : Int) ≠ 5; decide) (by rw [HWD.out]; rfl) _ _ _ _ _
        | false =>
          cases cd with
          | true =>
            go_wp2_with (first | (go_at_call 169; refine (C75d.out _).mono ?_; rintro e w1 ⟨rfl, hw1⟩; rw [hw1]; clear hw1) | (go_at_call 171; refine (C78d.out _).mono ?_; rintro e w1 ⟨rfl, hw1⟩; rw [hw1]; clear hw1))
            obtain ⟨V', hV', hB3, hbut3⟩ := set5_tok HZV.out (.int .u8 4) (.int .i64 i) (.int .i64 0) (.string ⟨#[]⟩) (.int .i64 nv)
            rw [hV']
            refine bodyPost_ret (results_cell_tmps (s := 4) (b := n) (t := 5) (u := 6) rfl Tryz.underlying58 hi0 rfl hB3 (by rw [hz1]; rfl) rfl rfl) rfl ⟨?_, ?_⟩
            · rw [← HN.out]; exact hbut3.below (Nat.le_refl _) HBV.out
            · exact OneP.bad HN1.out (by omega) hEs rfl (by show (4 : Int) ≠ 5; decide) (by rw [HWD.out]; rfl) _ _ _ _ _
          | false =>
            go_wp2_with (first | (go_at_call 169; refine (C75d.out _).mono ?_; rintro e w1 ⟨rfl, hw1⟩; rw [hw1]; clear hw1) | (go_at_call 171; refine (C78d.out _).mono ?_; rintro e w1 ⟨rfl, hw1⟩; rw [hw1]; clear hw1))
            obtain ⟨V', hV', hB3, hbut3⟩ := set5_tok HZV.out (.int .u8 4) (.int .i64 i) (.int .i64 0) (.string ⟨#[]⟩) (.int .i64 nv)
            rw [hV']
            refine bodyPost_ret (results_cell_tmps (s := 4) (b := n) (t := 5) (u := 6) rfl Tryz.underlying58 hi0 rfl hB3 (by rw [hz1]; rfl) rfl rfl) rfl ⟨?_, ?_⟩
            · rw [← HN.out]; exact hbut3.below (Nat.le_refl _) HBV.out
            · exact OneP.good HN1.out (by omega) hEs rfl (.inr (by rw [HWD.out]; rfl)) rfl
      · have HWD : Hid (word0 (rest s E) = false) := Lib.hid (by rw [rest_end (by omega)]; rfl)
        go_wp2_with fail
        obtain ⟨V', hV', hB3, hbut3⟩ := set5_tok HZV.out (.int .u8 4) (.int .i64 i) (.int .i64 0) (.string ⟨#[]⟩) (.int .i64 nv)
        rw [hV']
        refine bodyPost_ret (results_cell_tmps (s := 4) (b := n) (t := 5) (u := 6) rfl Tryz.underlying58 hi0 rfl hB3 (by rw [hz1]; rfl) rfl rfl) rfl ⟨?_, ?_⟩
        · rw [← HN.out]; exact hbut3.below (Nat.le_refl _) HBV.out
        · exact OneP.good HN1.out (by omega) hEs rfl (.inr HWD.out) rfl
set_option maxRecDepth 100000 in
set_option maxHeartbeats 4000000 in
theorem one_odd (s : ByteArray) (i : Nat) (hi : i < s.size) (hs : s.size ≤ 140737488351232) (c : UInt8) (hc : c = s[i]) (ho : Odd c) (sg : Bool) (hsg : sgnB c = sg) (w : World) :
    Calls Tryz.prog 110 #[.string s, .int .i64 i] w fun e w' => Below w.heap.size w w' ∧ OneP s i e := by
  obtain ⟨i0, hi0, hz0, hz1, hz2⟩ := info_parts info56
  have HRC : Hid (rest s i = c :: rest s (i + 1)) := Lib.hid (by rw [rest_cons hi, hc])
  have hii : (i : Int) < s.size := by omega
  have hc0 : c.toNat < 256 := c.toNat_lt
  go_enter Tryz.func110, Tryz.ntmps110
  go_upto_region 5 with fail
  rw [← hc]
  obtain ⟨n, hn⟩ : ∃ n, n = w.heap.size := ⟨_, rfl⟩
  obtain ⟨W, hW⟩ : ∃ W, W = (w.alloc (.cells #[.int .u8 0, .int .i64 0, .int .i64 0, .string ⟨#[]⟩, .int .i64 0] 58)).alloc (.cells #[.int .u8 0, .int .i64 i, .int .i64 0, .string ⟨#[]⟩, .int .i64 0] 58) := ⟨_, rfl⟩
  have HZ : Hid (BlkN W n 58 #[.int .u8 0, .int .i64 0, .int .i64 0, .string ⟨#[]⟩, .int .i64 0]) := Lib.hid (by rw [hW, hn]; exact (BlkN.at_ rfl _ _).alloc _)
  have HT : Hid (BlkN W (n + 1) 58 #[.int .u8 0, .int .i64 i, .int .i64 0, .string ⟨#[]⟩, .int .i64 0]) := Lib.hid (by rw [hW, hn]; exact BlkN.at_ (by simp) _ _)
  have HB : Hid (Below n w W) := Lib.hid (by rw [hW, hn]; exact ((Below.refl _ _).alloc (Nat.le_refl _) _).alloc (by simp) _)
  have HN := Lib.hid hn
  rw [← hW, ← hn]
  clear hW hn hc
  have hzn := HZ.out.lt
  have htn := HT.out.lt
  have HTOK := Lib.hid (tokL_other s.size i (rest s i) c _ HRC.out ho)
  obtain ⟨h1, h2, h3, h4, h5⟩ := ho
  have C75 := Lib.hid (fun w => rletter_any c w)
  have C78 := Lib.hid (fun w => rdigit_any c w)
  have C80 := Lib.hid (fun w => rsign_any c w)
  rw [h1] at C75
  rw [h2] at C78
  rw [hsg] at C80 HTOK
  have b45 : ((c.toNat : Int) == 45) = false := u8_beq (n := 45) (by decide) h3
  have b35 : ((c.toNat : Int) == 35) = false := u8_beq (n := 35) (by decide) h4
  have b34 : ((c.toNat : Int) == 34) = false := u8_beq (n := 34) (by decide) h5
  have HX : Hid ((s.extract i (i + 1)) = txtV [c]) := Lib.hid (by
    have e : (s.extract i (i + 1)).data.toList = [c] := by rw [extract_list, HRC.out, show i + 1 - i = 1 by omega]; rfl
    unfold txtV
    rw [← e])
  clear h1 h2 h3 h4 h5 hsg
  have t0 := HT.out.cell 0 rfl
  have y0 := HT.out.free 0
  have t1 := HT.out.cell 1 rfl
  have y1 := HT.out.free 1
  have t2 := HT.out.cell 2 rfl
  have y2 := HT.out.free 2
  have t3 := HT.out.cell 3 rfl
  have y3 := HT.out.free 3
  have t4 := HT.out.cell 4 rfl
  have y4 := HT.out.free 4
  have z0 := HZ.out.cell 0 rfl
  have x0 := HZ.out.free 0
  have z1 := HZ.out.cell 1 rfl
  have x1 := HZ.out.free 1
  have z2 := HZ.out.cell 2 rfl
  have x2 := HZ.out.free 2
  have z3 := HZ.out.cell 3 rfl
  have x3 := HZ.out.free 3
  have z4 := HZ.out.cell 4 rfl
  have x4 := HZ.out.free 4
  cases sg with
  | true =>
    have hi1 : (i : Int) + 1 ≤ s.size := by omega
    go_upto_region 36 with (first | (go_at_call 169; refine (C75.out _).mono ?_; rintro e w1 ⟨rfl, hw1⟩; rw [hw1]; clear hw1) | (go_at_call 171; refine (C78.out _).mono ?_; rintro e w1 ⟨rfl, hw1⟩; rw [hw1]; clear hw1) | (go_at_call 159; refine (C80.out _).mono ?_; rintro e w1 ⟨rfl, hw1⟩; rw [hw1]; clear hw1))
    rw [HX.out]
    obtain ⟨V, hV⟩ : ∃ V, V = ((W.setCell ⟨n + 1, 0, Option.none⟩ (.int .u8 5)).setCell ⟨n + 1, 3, Option.none⟩ (.string (txtV [c]))) := ⟨_, rfl⟩
    have HTV : Hid (BlkN V (n + 1) 58 #[.int .u8 5, .int .i64 i, .int .i64 0, .string (txtV [c]), .int .i64 0]) := Lib.hid (by rw [hV]; have := (BlkN.set (BlkN.set HT.out 0 (.int .u8 5)) 3 (.string (txtV [c]))); simpa using this)
    have HZV : Hid (BlkN V n 58 #[.int .u8 0, .int .i64 0, .int .i64 0, .string ⟨#[]⟩, .int .i64 0]) := Lib.hid (by rw [hV]; exact (BlkN.setOther (BlkN.setOther HZ.out (q := ⟨n + 1, 0, Option.none⟩) (by show n ≠ n + 1; omega) _) (q := ⟨n + 1, 3, Option.none⟩) (by show n ≠ n + 1; omega) _))
    have HBV : Hid (Below n w V) := Lib.hid (by rw [hV]; exact (Below.setCell (Below.setCell HB.out (p := ⟨n + 1, 0, Option.none⟩) (by show n ≤ n + 1; omega) _) (p := ⟨n + 1, 3, Option.none⟩) (by show n ≤ n + 1; omega) _))
    rw [← hV]
    clear hV
    clear hzn htn y0 y1 y2 y3 y4 t0 t1 t2 t3 t4 x0 x1 x2 x3 x4 z0 z1 z2 z3 z4
    have hzn := HZV.out.lt
    have htn := HTV.out.lt
    have t0 := HTV.out.cell 0 rfl
    have y0 := HTV.out.free 0
    have t1 := HTV.out.cell 1 rfl
    have y1 := HTV.out.free 1
    have t2 := HTV.out.cell 2 rfl
    have y2 := HTV.out.free 2
    have t3 := HTV.out.cell 3 rfl
    have y3 := HTV.out.free 3
    have t4 := HTV.out.cell 4 rfl
    have y4 := HTV.out.free 4
    have z0 := HZV.out.cell 0 rfl
    have x0 := HZV.out.free 0
    have z1 := HZV.out.cell 1 rfl
    have x1 := HZV.out.free 1
    have z2 := HZV.out.cell 2 rfl
    have x2 := HZV.out.free 2
    have z3 := HZV.out.cell 3 rfl
    have x3 := HZV.out.free 3
    have z4 := HZV.out.cell 4 rfl
    have x4 := HZV.out.free 4
  
    go_wp2_with fail
    obtain ⟨V', hV', hB3, hbut3⟩ := set5_tok HZV.out (.int .u8 5) (.int .i64 i) (.int .i64 0) (.string (txtV [c])) (.int .i64 0)
    rw [hV']
    refine bodyPost_ret (results_cell_tmps (s := 4) (b := n) (t := 5) (u := 6) rfl Tryz.underlying58 hi0 rfl hB3 (by rw [hz1]; rfl) rfl rfl) rfl ⟨?_, ?_⟩
    · rw [← HN.out]; exact hbut3.below (Nat.le_refl _) HBV.out
    · exact OneP.good (x := ⟨5, i, 0, [c], 0⟩) (j := i + 1) (by rw [HTOK.out]; rfl) (by omega) (by omega) rfl (.inl rfl) rfl
  | false =>
    go_wp2_with (first | (go_at_call 169; refine (C75.out _).mono ?_; rintro e w1 ⟨rfl, hw1⟩; rw [hw1]; clear hw1) | (go_at_call 171; refine (C78.out _).mono ?_; rintro e w1 ⟨rfl, hw1⟩; rw [hw1]; clear hw1) | (go_at_call 159; refine (C80.out _).mono ?_; rintro e w1 ⟨rfl, hw1⟩; rw [hw1]; clear hw1))
    obtain ⟨V', hV', hB3, hbut3⟩ := set5_tok HZ.out (.int .u8 0) (.int .i64 i) (.int .i64 0) (.string ⟨#[]⟩) (.int .i64 0)
    rw [hV']
    refine bodyPost_ret (results_cell_tmps (s := 4) (b := n) (t := 5) (u := 6) rfl Tryz.underlying58 hi0 rfl hB3 (by rw [hz1]; rfl) rfl rfl) rfl ⟨?_, ?_⟩
    · rw [← HN.out]; exact hbut3.below (Nat.le_refl _) HB.out
    · exact OneP.no (by rw [HTOK.out]; rfl) (Nat.le_refl _) (by omega) rfl _ _ _ _ _
set_option maxRecDepth 100000 in
set_option maxHeartbeats 4000000 in
theorem one_text (s : ByteArray) (i : Nat) (hi : i < s.size) (hs : s.size ≤ 140737488351232) (c : UInt8) (hc : c = s[i]) (h34 : c = 34) (w : World) :
    Calls Tryz.prog 110 #[.string s, .int .i64 i] w fun e w' => Below w.heap.size w w' ∧ OneP s i e := by
  obtain ⟨i0, hi0, hz0, hz1, hz2⟩ := info_parts info56
  have HRC : Hid (rest s i = c :: rest s (i + 1)) := Lib.hid (by rw [rest_cons hi, hc])
  have hii : (i : Int) < s.size := by omega
  have hc0 : c.toNat < 256 := c.toNat_lt
  go_enter Tryz.func110, Tryz.ntmps110
  go_upto_region 5 with fail
  rw [← hc]
  obtain ⟨n, hn⟩ : ∃ n, n = w.heap.size := ⟨_, rfl⟩
  obtain ⟨W, hW⟩ : ∃ W, W = (w.alloc (.cells #[.int .u8 0, .int .i64 0, .int .i64 0, .string ⟨#[]⟩, .int .i64 0] 58)).alloc (.cells #[.int .u8 0, .int .i64 i, .int .i64 0, .string ⟨#[]⟩, .int .i64 0] 58) := ⟨_, rfl⟩
  have HZ : Hid (BlkN W n 58 #[.int .u8 0, .int .i64 0, .int .i64 0, .string ⟨#[]⟩, .int .i64 0]) := Lib.hid (by rw [hW, hn]; exact (BlkN.at_ rfl _ _).alloc _)
  have HT : Hid (BlkN W (n + 1) 58 #[.int .u8 0, .int .i64 i, .int .i64 0, .string ⟨#[]⟩, .int .i64 0]) := Lib.hid (by rw [hW, hn]; exact BlkN.at_ (by simp) _ _)
  have HB : Hid (Below n w W) := Lib.hid (by rw [hW, hn]; exact ((Below.refl _ _).alloc (Nat.le_refl _) _).alloc (by simp) _)
  have HN := Lib.hid hn
  rw [← hW, ← hn]
  clear hW hn hc
  have hzn := HZ.out.lt
  have htn := HT.out.lt
  obtain ⟨X, hX⟩ : ∃ X, X = s.extract i s.size := ⟨_, rfl⟩
  have HXL : Hid (∀ j, rest X j = rest s (i + j)) := Lib.hid (fun j => by
    have e : X.data.toList = rest s i := by rw [hX, extract_list, List.take_of_length_le (by rw [rest_len]; omega)]
    show X.data.toList.drop j = _
    rw [e, rest_drop])
  have hXs : X.size = s.size - i := by rw [hX, ByteArray.size_extract]; omega
  have HTOK := Lib.hid (tokL_text s.size i (rest s i) c _ HRC.out h34)
  have C75 := Lib.hid (fun w => rletter_any c w)
  have C78 := Lib.hid (fun w => rdigit_any c w)
  subst h34
  rw [show lett 34 = false from rfl] at C75
  rw [show digB 34 = false from rfl] at C78
  have hii0 : (i : Int) ≤ s.size := by omega
  go_upto_region 28 with (first | (go_at_call 169; refine (C75.out _).mono ?_; rintro e w1 ⟨rfl, hw1⟩; rw [hw1]; clear hw1) | (go_at_call 171; refine (C78.out _).mono ?_; rintro e w1 ⟨rfl, hw1⟩; rw [hw1]; clear hw1))
  rw [← hX]
  clear hX
  obtain ⟨W2, hW2⟩ : ∃ W2, W2 = W.alloc (.cells #[.string X, .int .i64 0, .bool false, .int .i64 0] 218) := ⟨_, rfl⟩
  obtain ⟨p, hp⟩ : ∃ p, p = W.heap.size := ⟨_, rfl⟩
  have HTW := Lib.hid (show BlkN W2 (n + 1) 58 _ by rw [hW2]; exact HT.out.alloc _)
  have HZW := Lib.hid (show BlkN W2 n 58 _ by rw [hW2]; exact HZ.out.alloc _)
  have HBW := Lib.hid (show Below n w W2 by rw [hW2]; exact HB.out.alloc (by omega) _)
  have HRW : Hid (RRd W2 p X 0 false 0) := Lib.hid (by rw [hW2]; exact BlkN.at_ hp 218 _)
  have hpn : n + 1 < p := by rw [hp]; exact HT.out.lt
  rw [← hW2, ← hp]
  clear hW2 hp hzn htn
  have hzn := HZW.out.lt
  have htn := HTW.out.lt
  have t0 := HTW.out.cell 0 rfl
  have y0 := HTW.out.free 0
  have t1 := HTW.out.cell 1 rfl
  have y1 := HTW.out.free 1
  have t2 := HTW.out.cell 2 rfl
  have y2 := HTW.out.free 2
  have t3 := HTW.out.cell 3 rfl
  have y3 := HTW.out.free 3
  have t4 := HTW.out.cell 4 rfl
  have y4 := HTW.out.free 4
  have z0 := HZW.out.cell 0 rfl
  have x0 := HZW.out.free 0
  have z1 := HZW.out.cell 1 rfl
  have x1 := HZW.out.free 1
  have z2 := HZW.out.cell 2 rfl
  have x2 := HZW.out.free 2
  have z3 := HZW.out.cell 3 rfl
  have x3 := HZW.out.free 3
  have z4 := HZW.out.cell 4 rfl
  have x4 := HZW.out.free 4
  go_upto_region 29 with fail
  obtain ⟨V, hV⟩ : ∃ V, V = (W2.setCell ⟨n + 1, 0, Option.none⟩ (.int .u8 3)) := ⟨_, rfl⟩
  have HTV : Hid (BlkN V (n + 1) 58 #[.int .u8 3, .int .i64 i, .int .i64 0, .string ⟨#[]⟩, .int .i64 0]) := Lib.hid (by rw [hV]; have := (BlkN.set HTW.out 0 (.int .u8 3)); simpa using this)
  have HZV : Hid (BlkN V n 58 #[.int .u8 0, .int .i64 0, .int .i64 0, .string ⟨#[]⟩, .int .i64 0]) := Lib.hid (by rw [hV]; exact (BlkN.setOther HZW.out (q := ⟨n + 1, 0, Option.none⟩) (by show n ≠ n + 1; omega) _))
  have HBV : Hid (Below n w V) := Lib.hid (by rw [hV]; exact (Below.setCell HBW.out (p := ⟨n + 1, 0, Option.none⟩) (by show n ≤ n + 1; omega) _))
  have HRV : Hid (RRd V p X 0 false 0) := Lib.hid (by rw [hV]; exact BlkN.setOther HRW.out (q := ⟨n + 1, 0, Option.none⟩) (by show p ≠ n + 1; omega) _)
  rw [← hV]
  clear hV
  clear hzn htn y0 y1 y2 y3 y4 t0 t1 t2 t3 t4 x0 x1 x2 x3 x4 z0 z1 z2 z3 z4
  have CQ := rquoted_any s.size X 0 0 V p HRV.out (by omega) (by omega) (by omega)
  rw [HXL.out 0] at CQ
  have HQT : Hid (tokL s.size i (rest s i) = match quo s.size (rest s i) with | .ok b r => .ok ⟨3, i, 0, b, 0⟩ r | .no r => .no r) := HTOK
  cases hE : quo s.size (rest s i) with
  | no t =>
    rw [show i + 0 = i from rfl, hE] at CQ
    have HCQ := Lib.hid CQ
    have HQE : Hid (tokL s.size i (rest s i) = .no t) := Lib.hid (by rw [HQT.out, hE])
    clear CQ hE
    go_upto_region 30 with (first | (go_at_call 173; refine HCQ.out.mono ?_; rintro e w3 ⟨hu3, j, hij, hj, hr, rfl, hr3⟩; have HR3 := Lib.hid hr3; have HTJ := Lib.hid hr; have HTX := Lib.hid (BlkN.upd hu3 HTV.out (by omega)); have HZX := Lib.hid (BlkN.upd hu3 HZV.out (by omega)); have HBX := Lib.hid (HBV.out.trans (Upd.toLow hu3 (by omega) (by have := HBV.out.size; have := HZV.out.lt; omega))); clear hr hu3 hr3; have htx := HTX.out.lt; have k3 := HTX.out.cell 3 rfl; have l3 := HTX.out.free 3))
    obtain ⟨U, hU⟩ : ∃ V, V = (w3.setCell ⟨n + 1, 3, Option.none⟩ (.string ⟨#[]⟩)) := ⟨_, rfl⟩
    have HTU : Hid (BlkN U (n + 1) 58 #[.int .u8 3, .int .i64 i, .int .i64 0, .string ⟨#[]⟩, .int .i64 0]) := Lib.hid (by rw [hU]; have := (BlkN.set HTX.out 3 (.string ⟨#[]⟩)); simpa using this)
    have HZU : Hid (BlkN U n 58 #[.int .u8 0, .int .i64 0, .int .i64 0, .string ⟨#[]⟩, .int .i64 0]) := Lib.hid (by rw [hU]; exact (BlkN.setOther HZX.out (q := ⟨n + 1, 3, Option.none⟩) (by show n ≠ n + 1; omega) _))
    have HBU : Hid (Below n w U) := Lib.hid (by rw [hU]; exact (Below.setCell HBX.out (p := ⟨n + 1, 3, Option.none⟩) (by show n ≤ n + 1; omega) _))
    have HRU : Hid (RRd U p X j true 0) := Lib.hid (by rw [hU]; exact BlkN.setOther HR3.out (q := ⟨n + 1, 3, Option.none⟩) (by show p ≠ n + 1; omega) _)
    rw [← hU]
    clear k3 l3 htx
    have hpu := HRU.out.lt
    have c1 := HRU.out.cell 1 rfl
    have c2 := HRU.out.cell 2 rfl
    clear hU
    have hzn := HZU.out.lt
    have htn := HTU.out.lt
    have t0 := HTU.out.cell 0 rfl
    have y0 := HTU.out.free 0
    have t1 := HTU.out.cell 1 rfl
    have y1 := HTU.out.free 1
    have t2 := HTU.out.cell 2 rfl
    have y2 := HTU.out.free 2
    have t3 := HTU.out.cell 3 rfl
    have y3 := HTU.out.free 3
    have t4 := HTU.out.cell 4 rfl
    have y4 := HTU.out.free 4
    have z0 := HZU.out.cell 0 rfl
    have x0 := HZU.out.free 0
    have z1 := HZU.out.cell 1 rfl
    have x1 := HZU.out.free 1
    have z2 := HZU.out.cell 2 rfl
    have x2 := HZU.out.free 2
    have z3 := HZU.out.cell 3 rfl
    have x3 := HZU.out.free 3
    have z4 := HZU.out.cell 4 rfl
    have x4 := HZU.out.free 4
  
    go_wp2_with fail
    obtain ⟨V', hV', hB3, hbut3⟩ := set5_tok HZU.out (.int .u8 3) (.int .i64 i) (.int .i64 0) (.string ⟨#[]⟩) (.int .i64 0)
    rw [hV']
    refine bodyPost_ret (results_cell_tmps (s := 4) (b := n) (t := 5) (u := 6) rfl Tryz.underlying58 hi0 rfl hB3 (by rw [hz1]; rfl) rfl rfl) rfl ⟨?_, ?_⟩
    · rw [← HN.out]; exact hbut3.below (Nat.le_refl _) HBU.out
    · exact OneP.no HQE.out (j := i + j) (by omega) (by omega) (by rw [HTJ.out, HXL.out]) _ _ _ _ _
  | ok b t =>
    rw [show i + 0 = i from rfl, hE] at CQ
    have HCQ := Lib.hid CQ
    have HQE : Hid (tokL s.size i (rest s i) = .ok ⟨3, i, 0, b, 0⟩ t) := Lib.hid (by rw [HQT.out, hE])
    clear CQ hE
    go_upto_region 30 with (first | (go_at_call 173; refine HCQ.out.mono ?_; rintro e w3 ⟨hu3, j, hij, hj, hr, rfl, hr3⟩; have HR3 := Lib.hid hr3; have HTJ := Lib.hid hr; have HTX := Lib.hid (BlkN.upd hu3 HTV.out (by omega)); have HZX := Lib.hid (BlkN.upd hu3 HZV.out (by omega)); have HBX := Lib.hid (HBV.out.trans (Upd.toLow hu3 (by omega) (by have := HBV.out.size; have := HZV.out.lt; omega))); clear hr hu3 hr3; have htx := HTX.out.lt; have k3 := HTX.out.cell 3 rfl; have l3 := HTX.out.free 3))
    obtain ⟨V2, hV2⟩ : ∃ V, V = (w3.setCell ⟨n + 1, 3, Option.none⟩ (.string (txtV b))) := ⟨_, rfl⟩
    have HTV2 : Hid (BlkN V2 (n + 1) 58 #[.int .u8 3, .int .i64 i, .int .i64 0, .string (txtV b), .int .i64 0]) := Lib.hid (by rw [hV2]; have := (BlkN.set HTX.out 3 (.string (txtV b))); simpa using this)
    have HZV2 : Hid (BlkN V2 n 58 #[.int .u8 0, .int .i64 0, .int .i64 0, .string ⟨#[]⟩, .int .i64 0]) := Lib.hid (by rw [hV2]; exact (BlkN.setOther HZX.out (q := ⟨n + 1, 3, Option.none⟩) (by show n ≠ n + 1; omega) _))
    have HBV2 : Hid (Below n w V2) := Lib.hid (by rw [hV2]; exact (Below.setCell HBX.out (p := ⟨n + 1, 3, Option.none⟩) (by show n ≤ n + 1; omega) _))
    have HRU : Hid (RRd V2 p X j false 0) := Lib.hid (by rw [hV2]; exact BlkN.setOther HR3.out (q := ⟨n + 1, 3, Option.none⟩) (by show p ≠ n + 1; omega) _)
    rw [← hV2]
    clear k3 l3 htx
    have hpu := HRU.out.lt
    have c1 := HRU.out.cell 1 rfl
    have c2 := HRU.out.cell 2 rfl
    clear hV2
    have hzn := HZV2.out.lt
    have htn := HTV2.out.lt
    have t0 := HTV2.out.cell 0 rfl
    have y0 := HTV2.out.free 0
    have t1 := HTV2.out.cell 1 rfl
    have y1 := HTV2.out.free 1
    have t2 := HTV2.out.cell 2 rfl
    have y2 := HTV2.out.free 2
    have t3 := HTV2.out.cell 3 rfl
    have y3 := HTV2.out.free 3
    have t4 := HTV2.out.cell 4 rfl
    have y4 := HTV2.out.free 4
    have z0 := HZV2.out.cell 0 rfl
    have x0 := HZV2.out.free 0
    have z1 := HZV2.out.cell 1 rfl
    have x1 := HZV2.out.free 1
    have z2 := HZV2.out.cell 2 rfl
    have x2 := HZV2.out.free 2
    have z3 := HZV2.out.cell 3 rfl
    have x3 := HZV2.out.free 3
    have z4 := HZV2.out.cell 4 rfl
    have x4 := HZV2.out.free 4
  
    obtain ⟨E, hE⟩ : ∃ E, E = i + j := ⟨_, rfl⟩
    have hEs : E ≤ s.size := by omega
    have hiE : i < E := by omega
    have HQ2 : Hid (tokL s.size i (rest s i) = .ok ⟨3, i, 0, b, 0⟩ (rest s E)) := Lib.hid (by rw [HQE.out, HTJ.out, HXL.out, hE])
    go_upto_region 37 with fail
    rw [show (i : Int) + (j : Nat) = (E : Nat) by omega]
    clear hpu c1 c2 hE
    by_cases hEl : E < s.size
    · have hEi : (E : Int) < s.size := by omega
      obtain ⟨cl, hcl⟩ : ∃ cl, cl = lett s[E] := ⟨_, rfl⟩
      obtain ⟨cd, hcd⟩ : ∃ cd, cd = digB s[E] := ⟨_, rfl⟩
      have C75d := Lib.hid (fun w => rletter_any s[E] w)
      have C78d := Lib.hid (fun w => rdigit_any s[E] w)
      rw [← hcl] at C75d
      rw [← hcd] at C78d
      have HWD : Hid (word0 (rest s E) = (cl || cd)) := Lib.hid (by rw [rest_cons hEl, hcl, hcd]; rfl)
      clear hcl hcd
      cases cl with
      | true =>
        go_wp2_with (first | (go_at_call 169; refine (C75d.out _).mono ?_; rintro e w1 ⟨rfl, hw1⟩; rw [hw1]; clear hw1) | (go_at_call 171; refine (C78d.out _).mono ?_; rintro e w1 ⟨rfl, hw1⟩; rw [hw1]; clear hw1))
        obtain ⟨V', hV', hB3, hbut3⟩ := set5_tok HZV2.out (.int .u8 3) (.int .i64 i) (.int .i64 0) (.string (txtV b)) (.int .i64 0)
        rw [hV']
        refine bodyPost_ret (results_cell_tmps (s := 4) (b := n) (t := 5) (u := 6) rfl Tryz.underlying58 hi0 rfl hB3 (by rw [hz1]; rfl) rfl rfl) rfl ⟨?_, ?_⟩
        · rw [← HN.out]; exact hbut3.below (Nat.le_refl _) HBV2.out
        · exact OneP.bad HQ2.out (by omega) hEs rfl (by show (3 : Int) ≠ 5; decide) (by rw [HWD.out]; rfl) _ _ _ _ _
      | false =>
        cases cd with
        | true =>
          go_wp2_with (first | (go_at_call 169; refine (C75d.out _).mono ?_; rintro e w1 ⟨rfl, hw1⟩; rw [hw1]; clear hw1) | (go_at_call 171; refine (C78d.out _).mono ?_; rintro e w1 ⟨rfl, hw1⟩; rw [hw1]; clear hw1))
          obtain ⟨V', hV', hB3, hbut3⟩ := set5_tok HZV2.out (.int .u8 3) (.int .i64 i) (.int .i64 0) (.string (txtV b)) (.int .i64 0)
          rw [hV']
          refine bodyPost_ret (results_cell_tmps (s := 4) (b := n) (t := 5) (u := 6) rfl Tryz.underlying58 hi0 rfl hB3 (by rw [hz1]; rfl) rfl rfl) rfl ⟨?_, ?_⟩
          · rw [← HN.out]; exact hbut3.below (Nat.le_refl _) HBV2.out
          · exact OneP.bad HQ2.out (by omega) hEs rfl (by show (3 : Int) ≠ 5; decide) (by rw [HWD.out]; rfl) _ _ _ _ _
        | false =>
          go_wp2_with (first | (go_at_call 169; refine (C75d.out _).mono ?_; rintro e w1 ⟨rfl, hw1⟩; rw [hw1]; clear hw1) | (go_at_call 171; refine (C78d.out _).mono ?_; rintro e w1 ⟨rfl, hw1⟩; rw [hw1]; clear hw1))
          obtain ⟨V', hV', hB3, hbut3⟩ := set5_tok HZV2.out (.int .u8 3) (.int .i64 i) (.int .i64 0) (.string (txtV b)) (.int .i64 0)
          rw [hV']
          refine bodyPost_ret (results_cell_tmps (s := 4) (b := n) (t := 5) (u := 6) rfl Tryz.underlying58 hi0 rfl hB3 (by rw [hz1]; rfl) rfl rfl) rfl ⟨?_, ?_⟩
          · rw [← HN.out]; exact hbut3.below (Nat.le_refl _) HBV2.out
          · exact OneP.good HQ2.out (by omega) hEs rfl (.inr (by rw [HWD.out]; rfl)) rfl
    · have HWD : Hid (word0 (rest s E) = false) := Lib.hid (by rw [rest_end (by omega)]; rfl)
      go_wp2_with fail
      obtain ⟨V', hV', hB3, hbut3⟩ := set5_tok HZV2.out (.int .u8 3) (.int .i64 i) (.int .i64 0) (.string (txtV b)) (.int .i64 0)
      rw [hV']
      refine bodyPost_ret (results_cell_tmps (s := 4) (b := n) (t := 5) (u := 6) rfl Tryz.underlying58 hi0 rfl hB3 (by rw [hz1]; rfl) rfl rfl) rfl ⟨?_, ?_⟩
      · rw [← HN.out]; exact hbut3.below (Nat.le_refl _) HBV2.out
      · exact OneP.good HQ2.out (by omega) hEs rfl (.inr HWD.out) rfl
theorem one_any (s : ByteArray) (i : Nat) (hi : i < s.size) (hs : s.size ≤ 140737488351232) (w : World) : Calls Tryz.prog 110 #[.string s, .int .i64 i] w fun e w' => Below w.heap.size w w' ∧ OneP s i e := by
  obtain ⟨c, hc⟩ : ∃ c, c = s[i] := ⟨_, rfl⟩
  have hrc : rest s i = c :: rest s (i + 1) := by rw [rest_cons hi, hc]
  by_cases h1 : lett c = true
  · exact one_letter s i hi hs c hc h1 w
  have h1 : lett c = false := by simpa using h1
  have hR : rest s (i + 1 + ((rest s (i + 1)).takeWhile digB).length) = (rest s (i + 1)).dropWhile digB := by rw [rest_drop s (i + 1), tww_drop]
  by_cases h2 : digB c = true
  · refine one_num s i hi hs c hc h1 true h2.symm (.inl rfl) false ((rest s i).takeWhile digB) _ rfl ?_ (tw_all _) ?_ w
    · rw [extract_list, hrc, List.takeWhile_cons, if_pos h2, show i + 1 + ((rest s (i + 1)).takeWhile digB).length - i = ((rest s (i + 1)).takeWhile digB).length + 1 by omega, List.take_succ_cons, tww]
      rfl
    · rw [tokL_dig s.size i (rest s i) c _ hrc h1 h2, hR]
      have : (rest s i).dropWhile digB = (rest s (i + 1)).dropWhile digB := by rw [hrc, List.dropWhile_cons, if_pos h2]
      rw [this]
      rfl
  have h2 : digB c = false := by simpa using h2
  by_cases h3 : c = 45
  · refine one_num s i hi hs c hc h1 false h2.symm (.inr ⟨rfl, u8_beqt (n := 45) (by decide) h3⟩) true ((rest s (i + 1)).takeWhile digB) _ rfl ?_ (tw_all _) ?_ w
    · rw [extract_list, hrc, show i + 1 + ((rest s (i + 1)).takeWhile digB).length - i = ((rest s (i + 1)).takeWhile digB).length + 1 by omega, List.take_succ_cons, tww, h3]
      rfl
    · rw [tokL_neg s.size i (rest s i) c _ hrc h3, hR]
      rfl
  by_cases h4 : c = 35
  · exact one_ref s i hi hs c hc h4 w
  by_cases h5 : c = 34
  · exact one_text s i hi hs c hc h5 w
  exact one_odd s i hi hs c hc ⟨h1, h2, h3, h4, h5⟩ _ rfl w
end Go.Proofs.YtjmelamllapmiaaGreatDoor
