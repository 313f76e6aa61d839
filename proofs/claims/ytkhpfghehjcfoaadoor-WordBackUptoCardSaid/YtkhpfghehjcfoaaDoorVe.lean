/- The document's Read. -/
import Derived.Test.YtkhpfghehjcfoaaDoorVd
import Derived.Test.YtkhpfghehjcfoaaDoorWa
namespace Go.Proofs.YtkhpfghehjcfoaaDoor
open Go.RowKit

theorem results_cell_tmps {P : Program} {w : World} {fn : Func} {s t u : Tmp} {T Tb : TypeId} (hr : fn.results = #[.cell s T, .tmp t, .tmp u]) {fs : Array Field} (ht : P.underlying T = some (.struct fs)) {i : TypeInfo} (hi : P.info? T = some i) {tmps : Array Value} {b : Nat} (hp : tmps.getD s undef = .pointer (some ⟨b, 0, Option.none⟩))
    {cs : Array Value} (hB : BlkN w b Tb cs) (hn : cs.size = i.size) {v x : Value} (hv : tmps.getD t undef = v) (hx : tmps.getD u undef = x) : (results fn tmps).run P w = .ok (.tuple #[.agg cs, v, x]) w := by
  have h := run_loadVar_blk (P := P) ht hi hB hn
  have hp' : tmps[s]?.getD undef = .pointer (some ⟨b, 0, Option.none⟩) := by simpa using hp
  have hv' : tmps[t]?.getD undef = v := by simpa using hv
  have hx' : tmps[u]?.getD undef = x := by simpa using hx
  simp only [results, hr]
  simp [hp', asAddr, h, hv', hx', Result.andThen]
/-- The document's reader and the program's end in one way. -/
theorem read_ends (s : ByteArray) (j : Nat) (x : Va) (st : Bool) (m : Nat) (h : rdR 16 (rest s 0) 512 = (x, rest s j, st, m)) :
    (st = true ∨ j < s.size → readL s.data.toList = .no (rest s j)) ∧ (st = false → s.size ≤ j → readL s.data.toList = .ok x []) := by
  obtain ⟨h1, h2⟩ := rd_same 16 (rest s 0) 512 (by decide) (by decide)
  rw [h] at h1 h2
  simp only at h1 h2
  have e : readL s.data.toList = match rdV 16 (rest s 0) 0 with
    | .ok x [] => .ok x.1 []
    | .ok _ (c :: r) => .no (c :: r)
    | .no r => .no r := rfl
  rw [e]
  constructor
  · intro ho
    cases st with
    | true => rw [h1 rfl]
    | false =>
      have hj : j < s.size := by simpa using ho
      rcases (h2 rfl).2 with h3 | ⟨_, h3⟩
      · rw [h3, rest_cons hj]
      · rw [h3]
  · rintro rfl hj
    rcases (h2 rfl).2 with h3 | ⟨h4, h3⟩
    · rw [h3, rest_end hj]
    · rw [rest_end hj] at h4; cases h4
set_option maxRecDepth 100000 in
set_option maxHeartbeats 4000000 in
theorem rread_any (s : ByteArray) (hs : s.size ≤ 140737488351232) (w : World) : Calls Tryd.prog 13 #[.string s] w fun e w' => Below w.heap.size w w' ∧ ReadP s w.heap.size e w' := by
  obtain ⟨i0, hi0, hz0, hz1, hz2⟩ := info_parts info34
  go_enter Tryd.func13, Tryd.ntmps13
  go_upto_region 2 with fail
  obtain ⟨n, hn⟩ : ∃ n, n = w.heap.size := ⟨_, rfl⟩
  obtain ⟨V, hV⟩ : ∃ V, V = (w.alloc (.cells #[.int .u8 0, .int .i64 0, .string ⟨#[]⟩, .slice Option.none 0 0, .int .i64 0] 26)).alloc (.cells #[.string s, .int .i64 0, .bool false, .int .i64 512] 81) := ⟨_, rfl⟩
  have HR : Hid (RRd V (n + 1) s 0 false ((512 : Nat) : Int)) := Lib.hid (by rw [hV]; exact BlkN.at_ (by simp [hn]) 81 _)
  have HB : Hid (Below n w V) := Lib.hid (by rw [hV, hn]; exact ((Below.refl _ w).alloc (Nat.le_refl _) _).alloc (by simp) _)
  have HZ : Hid (BlkN V n 26 #[.int .u8 0, .int .i64 0, .string ⟨#[]⟩, .slice Option.none 0 0, .int .i64 0]) := Lib.hid (by rw [hV, hn]; exact (BlkN.at_ rfl _ _).alloc _)
  rw [← hV, ← hn]
  have HN := Lib.hid hn
  clear hV hn
  have CV := rvalue_any 16 (by decide) s 0 512 V (n + 1) HR.out (by omega) hs (by decide)
  obtain ⟨x, r, st, m, hE⟩ : ∃ x r st m, rdR 16 (rest s 0) 512 = (x, r, st, m) := ⟨_, _, _, _, rfl⟩
  rw [hE] at CV
  have HE := Lib.hid hE
  have HCV := Lib.hid CV
  clear CV hE
  have hVn := HR.out.lt
  have HVN := Lib.hid hVn
  go_upto_region 3 with (first | (go_at_call 42; refine HCV.out.mono ?_; rintro e w3 ⟨hu3, j, v, hij, hj, hr, rfl, hv, hr3, hm⟩; obtain ⟨k3, n3, s3, A3, len3, cap3, r3, rfl⟩ := hv.shape; have HX3 := Lib.hid hv; have HR3 := Lib.hid hr3; have HU3 := Lib.hid hu3; have HRE := Lib.hid hr; clear hr3 hu3 hv hr hm))
  obtain ⟨X, hX⟩ : ∃ X, X = w3.alloc (.cells #[.int .u8 k3, .int .i64 n3, .string s3, .slice A3 len3 cap3, .int .i64 r3] 26) := ⟨_, rfl⟩
  have HR4 : Hid (RRd X (n + 1) s j st (m : Nat)) := Lib.hid (by rw [hX]; exact BlkN.alloc HR3.out _)
  have HZ4 : Hid (BlkN X n 26 #[.int .u8 0, .int .i64 0, .string ⟨#[]⟩, .slice Option.none 0 0, .int .i64 0]) := Lib.hid (by rw [hX]; exact BlkN.alloc (BlkN.upd HU3.out HZ.out (by omega)) _)
  have HQ4 : Hid (BlkN X w3.heap.size 26 #[.int .u8 k3, .int .i64 n3, .string s3, .slice A3 len3 cap3, .int .i64 r3]) := Lib.hid (by rw [hX]; exact BlkN.at_ rfl _ _)
  have HB4 : Hid (Below n w X) := Lib.hid (by rw [hX]; exact ((HB.out.trans (Upd.toLow HU3.out (by omega) (by omega))).alloc (by have := HU3.out.size; omega) _))
  have HX4 : Hid (IsVaR X (Own34 X (n + 1)) (.agg #[.int .u8 k3, .int .i64 n3, .string s3, .slice A3 len3 cap3, .int .i64 r3]) x) := Lib.hid (by
    have hb3 : Below w3.heap.size w3 X := by rw [hX]; exact (Below.refl _ _).alloc (Nat.le_refl _) _
    exact (IsVaR.below HX3.out hb3).mono fun b o h => ⟨by have := h.1; omega, h.2⟩)
  have HN3 : Hid (n + 1 < w3.heap.size) := Lib.hid HR3.out.lt
  rw [← hX]
  clear hX HR3 HX3 HU3
  have hr4 := HR4.out
  have hz4 := HZ4.out
  have hq4 := HQ4.out
  have hp4 := hr4.lt
  have c1 := hr4.cell 1 rfl
  have c2 := hr4.cell 2 rfl
  have hnX := hz4.lt
  have hqX := hq4.lt
  have d0 := hz4.cell 0 rfl
  have x0 := hz4.free 0
  have d1 := hz4.cell 1 rfl
  have x1 := hz4.free 1
  have d2 := hz4.cell 2 rfl
  have x2 := hz4.free 2
  have d3 := hz4.cell 3 rfl
  have x3 := hz4.free 3
  have d4 := hz4.cell 4 rfl
  have x4 := hz4.free 4
  have g0 := hq4.cell 0 rfl
  have y0 := hq4.free 0
  have g1 := hq4.cell 1 rfl
  have y1 := hq4.free 1
  have g2 := hq4.cell 2 rfl
  have y2 := hq4.free 2
  have g3 := hq4.cell 3 rfl
  have y3 := hq4.free 3
  have g4 := hq4.cell 4 rfl
  have y4 := hq4.free 4
  clear hr4 hz4 hq4
  have HE2 := Lib.hid (read_ends s j x st m (by rw [HE.out, HRE.out]))
  by_cases hbad : st = true ∨ j < s.size
  · have HBAD := Lib.hid hbad
    have HEND := Lib.hid (HE2.out.1 hbad)
    have hcase : st = true ∨ (st = false ∧ j < s.size) := by
      cases st with
      | true => exact .inl rfl
      | false => exact .inr ⟨rfl, by simpa using hbad⟩
    clear hbad
    rcases hcase with rfl | ⟨rfl, hlt⟩
    · go_upto_region 4 with fail
      go_region
      obtain ⟨V', hV', hB3, hbut3⟩ := set5_done HZ4.out (.int .u8 0) (.int .i64 0) (.string ⟨#[]⟩) (.slice Option.none 0 0) (.int .i64 0)
      rw [hV']
      go_wp2_with fail
      refine bodyPost_ret (results_cell_tmps (s := 2) (b := n) (t := 3) (u := 4) rfl Tryd.underlying26 hi0 rfl (show BlkN V'.drew n 26 _ from hB3) (by rw [hz1]; rfl) rfl rfl) rfl ⟨?_, ?_⟩
      · rw [← HN.out]; exact (hbut3.below (Nat.le_refl _) HB4.out).drew
      · unfold ReadP
        rw [HEND.out]
        show _ = Ending.returned (.tuple #[.agg zeroV, .int .i64 ((s.size - (rest s j).length : Nat) : Int), .int .i64 30])
        rw [rest_len]
        rw [show s.size - (s.size - j) = j by omega]
        rfl
    · go_upto_region 4 with fail
      go_region
      obtain ⟨V', hV', hB3, hbut3⟩ := set5_done HZ4.out (.int .u8 0) (.int .i64 0) (.string ⟨#[]⟩) (.slice Option.none 0 0) (.int .i64 0)
      rw [hV']
      go_wp2_with fail
      refine bodyPost_ret (results_cell_tmps (s := 2) (b := n) (t := 3) (u := 4) rfl Tryd.underlying26 hi0 rfl (show BlkN V'.drew n 26 _ from hB3) (by rw [hz1]; rfl) rfl rfl) rfl ⟨?_, ?_⟩
      · rw [← HN.out]; exact (hbut3.below (Nat.le_refl _) HB4.out).drew
      · unfold ReadP
        rw [HEND.out]
        show _ = Ending.returned (.tuple #[.agg zeroV, .int .i64 ((s.size - (rest s j).length : Nat) : Int), .int .i64 30])
        rw [rest_len]
        rw [show s.size - (s.size - j) = j by omega]
        rfl
  · have hst : st = false := by cases st with | true => exact absurd (.inl rfl) hbad | false => rfl
    subst hst
    have hge : s.size ≤ j := Nat.le_of_not_lt fun h => hbad (.inr h)
    have hlt : decide ((j : Int) < s.size) = false := decide_eq_false (by omega)
    have HEND := Lib.hid (HE2.out.2 rfl hge)
    clear hbad
    go_wp2_with fail
    obtain ⟨V', hV', hB3, hbut3⟩ := set5_done HZ4.out (.int .u8 k3) (.int .i64 n3) (.string s3) (.slice A3 len3 cap3) (.int .i64 r3)
    rw [hV']
    refine bodyPost_ret (results_cell_tmps (s := 2) (b := n) (t := 3) (u := 4) rfl Tryd.underlying26 hi0 rfl hB3 (by rw [hz1]; rfl) rfl rfl) rfl ⟨?_, ?_⟩
    · rw [← HN.out]; exact hbut3.below (Nat.le_refl _) HB4.out
    · unfold ReadP
      rw [HEND.out, ← HN.out]
      have hk : ∀ b o, Own34 X (n + 1) b o → V'.heap[b]? = X.heap[b]? := fun b o hr => hbut3.other b (by have := hr.1; omega)
      exact ⟨_, rfl, (HX4.out.keep hk).mono fun b o hr => ⟨by have := hr.1; omega, hr.2.1, let ⟨cur, hc⟩ := hr.2.2; ⟨cur, (hk b o hr).trans hc⟩⟩⟩
end Go.Proofs.YtkhpfghehjcfoaaDoor
