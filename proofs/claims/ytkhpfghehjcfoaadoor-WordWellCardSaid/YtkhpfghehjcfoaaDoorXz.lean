/- WordWell: plain laws and the walk. -/
import Derived.Test.YtkhpfghehjcfoaaDoorI
import Derived.Test.YtkhpfghehjcfoaaDoorS
import Derived.Test.YtkhpfghehjcfoaaDoorZk
import Derived.Deep.Cut
namespace Go.Proofs.YtkhpfghehjcfoaaDoor
open Go.RowKit

/-- What Read tells, but for the value. -/
def readW (s : ByteArray) : Int × Int := match readL s.data.toList with
  | .ok _ _ => (0, 0)
  | .no t => (((s.size - t.length : Nat) : Int), 30)
theorem read_w (s : ByteArray) (hs : s.size ≤ 140737488351232) (w : World) : Calls Tryd.prog 12 #[.string s] w fun e w' => Below w.heap.size w w' ∧ ∃ k n t A len cap r, e = .returned (.tuple #[.agg #[.int .u8 k, .int .i64 n, .string t, .slice A len cap, .int .i64 r], .int .i64 (readW s).1, .int .i64 (readW s).2]) := (read_any s hs w).mono fun e w' h => by
  refine ⟨h.1, ?_⟩
  have h2 := h.2
  unfold ReadP at h2
  unfold readW
  cases hL : readL s.data.toList with
  | no t =>
    rw [hL] at h2
    exact ⟨_, _, _, _, _, _, _, h2⟩
  | ok x t =>
    rw [hL] at h2
    obtain ⟨v, rfl, hv⟩ := h2
    obtain ⟨k, n0, t, A, len, cap, r, rfl⟩ := hv.shape
    exact ⟨_, _, _, _, _, _, _, rfl⟩
theorem readW_e (s : ByteArray) : (readW s).2 = 0 ∨ (readW s).2 = 30 := by
  unfold readW
  cases readL s.data.toList with
  | ok x t => exact .inl rfl
  | no t => exact .inr rfl
theorem readW_ok {s : ByteArray} {x : Va} {r : L8} (h : readL s.data.toList = .ok x r) : readW s = (0, 0) := by unfold readW; rw [h]
theorem readW_no {s : ByteArray} {r : L8} (h : readL s.data.toList = .no r) : readW s = (((s.size - r.length : Nat) : Int), 30) := by unfold readW; rw [h]
theorem data_app (a b : ByteArray) : (a ++ b).data.toList = a.data.toList ++ b.data.toList := by simp
theorem data_take (s : ByteArray) (n : Nat) : (s.extract 0 n).data.toList = s.data.toList.take n := by simp [ByteArray.data_extract]
theorem size_list (s : ByteArray) : s.size = s.data.toList.length := by simp
/-- What is told of a text that Read is stuck in. -/
theorem well_facts (s more : ByteArray) (r : L8) (h : readL s.data.toList = .no r) : ∃ n : Nat, n ≤ s.size ∧ readW s = ((n : Int), 30) ∧ (n < s.size → readW (s.extract 0 (n + 1) ++ more) = ((n : Int), 30)) ∧
    (0 < n → (readW (s.extract 0 n)).2 = 30 → (readW (s.extract 0 n)).1 = n) ∧ ∃ d : Nat, d ≤ 16 ∧ (∃ i e pv, scL ⟨0, false, 0, 0⟩ (s.extract 0 n).data.toList = ⟨d, i, e, pv⟩) ∧
    ∃ (K : Nat) (hd : L8), hds[K]? = some hd ∧ readW (s.extract 0 n ++ txtV hd ++ txtV (List.replicate d 93)) = (0, 0) := by
  obtain ⟨u, h1, h2, h3, hd, h4, d, h5, h6, x, h7⟩ := read_loc _ _ h
  have hsz : s.size = u.length + r.length := by rw [size_list, h1, List.length_append]
  have htk : (s.extract 0 u.length).data.toList = u := by rw [data_take, h1, List.take_left']; rfl
  refine ⟨u.length, by omega, by rw [readW_no h, show s.size - r.length = u.length by omega], fun hn => ?_, fun hn h30 => ?_, d, h5, by rw [htk]; exact h6, ?_⟩
  · cases r with
    | nil => simp at hsz; omega
    | cons c r' =>
      have e1 : (s.extract 0 (u.length + 1) ++ more).data.toList = u ++ c :: more.data.toList := by
        rw [data_app, data_take, h1, List.take_append, List.take_of_length_le (by omega)]
        simp
      have e2 := h2 c more.data.toList r' rfl
      rw [← e1] at e2
      rw [readW_no e2, size_list, e1]
      have : (u ++ c :: more.data.toList).length - (c :: more.data.toList).length = u.length := by simp
      rw [this]
  · rcases h3 (by rintro rfl; simp at hn) with h8 | ⟨y, h8⟩
    · rw [← htk] at h8
      rw [readW_no h8]
      simp only [List.length_nil, Nat.sub_zero]
      rw [size_list, htk]
    · rw [← htk] at h8
      rw [readW_ok h8] at h30
      cases h30
  · obtain ⟨K, hK⟩ := List.mem_iff_getElem?.1 h4
    refine ⟨K, hd, hK, ?_⟩
    refine readW_ok (x := x) (r := []) ?_
    rw [data_app, data_app, htk, List.append_assoc]
    exact h7
def hdC : Array Value := #[.string ⟨#[]⟩, .string ⟨#[95]⟩, .string ⟨#[49]⟩, .string ⟨#[34]⟩, .string ⟨#[48, 34]⟩, .string ⟨#[48, 48, 34]⟩, .string ⟨#[102, 34]⟩, .string ⟨#[110, 34]⟩, .string ⟨#[120, 48, 48, 34]⟩]
def hdB (k : Nat) : ByteArray := txtV (hds.getD k [])
theorem nine {p : Nat → Prop} (h0 : p 0) (h1 : p 1) (h2 : p 2) (h3 : p 3) (h4 : p 4) (h5 : p 5) (h6 : p 6) (h7 : p 7) (h8 : p 8) : ∀ k, k < 9 → p k
  | 0, _ => h0
  | 1, _ => h1
  | 2, _ => h2
  | 3, _ => h3
  | 4, _ => h4
  | 5, _ => h5
  | 6, _ => h6
  | 7, _ => h7
  | 8, _ => h8
  | k + 9, h => by omega
theorem hdC_at : ∀ k, k < 9 → hdC[k]? = some (.string (hdB k)) := nine rfl rfl rfl rfl rfl rfl rfl rfl rfl
theorem hdB_size : ∀ k, k < 9 → (hdB k).size ≤ 4 := nine (by decide) (by decide) (by decide) (by decide) (by decide) (by decide) (by decide) (by decide) (by decide)
theorem rep_succ (j : Nat) : txtV (List.replicate j 93) ++ (⟨#[93]⟩ : ByteArray) = txtV (List.replicate (j + 1) 93) := by
  apply ByteArray.ext
  apply Array.ext'
  show (txtV (List.replicate j 93) ++ (⟨#[93]⟩ : ByteArray)).data.toList = List.replicate (j + 1) 93
  rw [data_app, List.replicate_succ']
  rfl
theorem scL_snoc (s : Sc) (l : L8) (j : Nat) (hj : j < l.length) : scL s (l.take (j + 1)) = scS (scL s (l.take j)) l[j] := by
  rw [List.take_succ_eq_append_getElem hj, scL_append]
  rfl
attribute [local irreducible] wpList
set_option maxRecDepth 100000 in
set_option maxHeartbeats 8000000 in
theorem well_law (s more : ByteArray) (hs : s.size ≤ 140737488351232) (hm : more.size ≤ 140737488351232) (w : World) (hv : Vars w) : Calls Tryd.prog 7 #[.string s, .string more] w fun e w' => e = .returned (.bool true) ∧ Below w.heap.size w w' := by
  have HV := Lib.hid hv
  clear hv
  have C15 := Lib.hid (fun w' (hb : Below w.heap.size w w') => awake_any w' (HV.out.on hb))
  have C12 := read_w s hs w
  cases hL : readL s.data.toList with
  | ok x t =>
    rw [readW_ok hL] at C12
    have C12 := Lib.hid C12
    clear hL
    go_enter Tryd.func7, Tryd.ntmps7
    go_wp2_with (first | (go_at_call 12; refine C12.out.mono ?_; rintro e w1 ⟨hb1, k1, n1, s1, A1, len1, cap1, r1, rfl⟩; have HB1 := Lib.hid ((show Below w.heap.size w _ from hb1).alloc hb1.size (.cells #[.int .u8 k1, .int .i64 n1, .string s1, .slice A1 len1 cap1, .int .i64 r1] 26)); clear hb1) | (go_at_call 15; refine (C15.out _ HB1.out).mono ?_; rintro e w5 ⟨rfl, hb5⟩))
    go_ret
    exact ⟨rfl, bnext HB1.out hb5⟩
  | no r =>
    obtain ⟨n, hn, hW0, hW1, hW2, d, hd, hsc, K, hdK, hK, hWK⟩ := well_facts s more r hL
    rw [hW0] at C12
    have C12 := Lib.hid C12
    clear hL hW0
    go_enter Tryd.func7, Tryd.ntmps7
    by_cases hbig : 3000 < s.size ∨ 3000 < more.size
    · have hb : (3000 : Int) < s.size ∨ (¬ (3000 : Int) < s.size ∧ (3000 : Int) < more.size) := by omega
      clear hbig hW1 hW2 hsc hK hWK
      rcases hb with hb | ⟨hb, hb2⟩
      all_goals
        go_wp2_with (first | (go_at_call 12; refine C12.out.mono ?_; rintro e w1 ⟨hb1, k1, n1, s1, A1, len1, cap1, r1, rfl⟩; have HB1 := Lib.hid ((show Below w.heap.size w _ from hb1).alloc hb1.size (.cells #[.int .u8 k1, .int .i64 n1, .string s1, .slice A1 len1 cap1, .int .i64 r1] 26)); clear hb1) | (go_at_call 15; refine (C15.out _ HB1.out).mono ?_; rintro e w5 ⟨rfl, hb5⟩))
        go_ret
        exact ⟨rfl, bnext HB1.out hb5⟩
    have hb1 : ¬ (3000 : Int) < s.size := by omega
    have hb2 : ¬ (3000 : Int) < more.size := by omega
    have hn1 : ¬ (n : Int) < 0 := by omega
    have hn2 : ¬ (s.size : Int) < n := by omega
    have HW1 := Lib.hid hW1
    have HW2 := Lib.hid hW2
    have HSC := Lib.hid hsc
    have HK := Lib.hid hK
    have HWK := Lib.hid hWK
    clear hbig hW1 hW2 hsc hK hWK
    go_upto_if 56 with (first | (go_at_call 12; refine C12.out.mono ?_; rintro e w1 ⟨hb1', k1, n1, s1, A1, len1, cap1, r1, rfl⟩; have HB1 := Lib.hid ((show Below w.heap.size w _ from hb1').alloc hb1'.size (.cells #[.int .u8 k1, .int .i64 n1, .string s1, .slice A1 len1 cap1, .int .i64 r1] 26)); clear hb1'))
    go_cut [] from 27 (fun wx => Below w.heap.size w wx)
    case first =>
      by_cases h1 : n < s.size
      · have hni : (n : Int) < s.size := by omega
        have C12b := read_w (s.extract 0 (n + 1) ++ more) (by rw [ByteArray.size_append, ByteArray.size_extract]; omega)
        rw [HW1.out h1] at C12b
        have C12b := Lib.hid C12b
        go_wp2_with (first | (go_at_call 12; refine (C12b.out _).mono ?_; rintro e w2 ⟨hb2', k2, n2, s2, A2, len2, cap2, r2, rfl⟩; have HB2 := Lib.hid ((bnext HB1.out hb2').alloc (bnext HB1.out hb2').size (.cells #[.int .u8 k2, .int .i64 n2, .string s2, .slice A2 len2 cap2, .int .i64 r2] 26)); clear hb2'))
        go_meet
        exact HB2.out
      · have hni : ¬ (n : Int) < s.size := by omega
        go_wp2_with fail
        go_meet
        exact HB1.out
    case rest =>
      have HB2 := Lib.hid hcut
      clear hcut
      go_upto_if 76 with fail
      go_cut [] from 27 (fun wx => Below w.heap.size w wx)
      case first =>
        by_cases h2 : 0 < n
        · have hni : (0 : Int) < n := by omega
          have C12b := read_w (s.extract 0 n) (by rw [ByteArray.size_extract]; omega)
          have hk2 := HW2.out h2
          obtain ⟨k2, er, hke⟩ : ∃ k e, readW (s.extract 0 n) = (k, e) := ⟨_, _, rfl⟩
          have hee := readW_e (s.extract 0 n)
          rw [hke] at hee hk2 C12b
          have C12b := Lib.hid C12b
          simp only at hee hk2
          clear hke
          rcases hee with rfl | rfl
          · clear hk2
            go_wp2_with (first | (go_at_call 12; refine (C12b.out _).mono ?_; rintro e w2 ⟨hb2', k3, n2, s2, A2, len2, cap2, r2, rfl⟩; have HB3 := Lib.hid ((bnext HB2.out hb2').alloc (bnext HB2.out hb2').size (.cells #[.int .u8 k3, .int .i64 n2, .string s2, .slice A2 len2 cap2, .int .i64 r2] 26)); clear hb2'))
            go_meet
            exact HB3.out
          · obtain rfl := hk2 rfl
            clear hk2
            go_wp2_with (first | (go_at_call 12; refine (C12b.out _).mono ?_; rintro e w2 ⟨hb2', k3, n2, s2, A2, len2, cap2, r2, rfl⟩; have HB3 := Lib.hid ((bnext HB2.out hb2').alloc (bnext HB2.out hb2').size (.cells #[.int .u8 k3, .int .i64 n2, .string s2, .slice A2 len2 cap2, .int .i64 r2] 26)); clear hb2'))
            go_meet
            exact HB3.out
        · have hni : ¬ (0 : Int) < n := by omega
          go_wp2_with fail
          go_meet
          exact HB2.out
      case rest =>
      have HB3 := Lib.hid hcut
      clear hcut
      go_upto_region 15 with fail
      obtain ⟨T, hT⟩ : ∃ T, T = s.extract 0 n := ⟨_, rfl⟩
      have hTs : T.size ≤ 3000 := by rw [hT, ByteArray.size_extract]; omega
      rw [← hT]
      have HSC : Hid (∃ i e pv, scL ⟨0, false, 0, 0⟩ T.data.toList = ⟨d, i, e, pv⟩) := Lib.hid (by rw [hT]; exact HSC.out)
      have HWK : Hid (readW (T ++ txtV hdK ++ txtV (List.replicate d 93)) = (0, 0)) := Lib.hid (by rw [hT]; exact HWK.out)
      clear hT hb1 hb2 hn1 hn2 HW1 HW2 HB2 HB1
      go_wp2_with fail
      go_loopw [15, 16, 17, 18] (fun ox ib ex ix wr => ∃ (j : Nat) (sc : Sc), j ≤ T.size ∧ ix = .int .i64 j ∧ ox = .int .i64 sc.o ∧ ib = .bool sc.i ∧ ex = .int .i64 (sc.e : Nat) ∧ scL ⟨0, false, 0, 0⟩ (T.data.toList.take j) = sc ∧ -(j : Int) ≤ sc.o ∧ sc.o ≤ j ∧ sc.e ≤ 2 ∧ (0 < sc.e → 0 < j) ∧ (∀ (q : Nat) (h : q < T.size), j = q + 1 → sc.pv = T[q]) ∧ wr = wc) (fun _ _ _ ix _ => T.size - (intOf ix).toNat)
      case atStart => exact ⟨0, ⟨0, false, 0, 0⟩, by omega, rfl, rfl, rfl, rfl, rfl, by simp, by simp, by simp, by simp, fun q h e => by omega, rfl⟩
      case round =>
        obtain ⟨j, sc, hj, rfl, rfl, rfl, rfl, hscj, ho1, ho2, he2, he0, hpv, rfl⟩ := hrel
        by_cases hlt : j < T.size
        · have hji : (j : Int) < T.size := by omega
          have hst := scL_snoc ⟨0, false, 0, 0⟩ T.data.toList j (by rw [← size_list]; exact hlt)
          rw [hscj, show T.data.toList[j]'(by rw [← size_list]; exact hlt) = T[j] from rfl] at hst
          obtain ⟨o, i, e, pv⟩ := sc
          simp only at ho1 ho2 he2 he0 hpv
          simp only
          clear hscj
          rcases (show e = 0 ∨ e = 1 ∨ e = 2 by omega) with rfl | rfl | rfl
          · clear he0 hpv he2
            cases i with
            | true =>
              by_cases h92 : T[j] = 92
              · have hb92 : ((T[j].toNat : Int) == 92) = true := by rw [h92]; rfl
                have hb34 : ((T[j].toNat : Int) == 34) = false := by rw [h92]; rfl
                have HC := Lib.hid h92
                clear h92
                go_wp2_with fail
                go_roundw
                case rel => exact ⟨j + 1, ⟨o, true, 1, T[j]⟩, by omega, by go_num, by first | rfl | go_num, rfl, rfl, by rw [hst]; rw [HC.out]; rfl, by simp only; omega, by simp only; omega, by simp only; omega, fun _ => by omega, fun q h e => by (obtain rfl : q = j := by omega); rfl, by first | rfl | trivial⟩
                case measure => simp only [intOf]; omega
              have hb92 : ((T[j].toNat : Int) == 92) = false := u8_beq (n := 92) (by decide) h92
              have HN92 := Lib.hid h92
              clear h92
              by_cases h34 : T[j] = 34
              · have hb34 : ((T[j].toNat : Int) == 34) = true := by rw [h34]; rfl
                have HC := Lib.hid h34
                clear h34
                go_wp2_with fail
                go_roundw
                case rel => exact ⟨j + 1, ⟨o, false, 0, T[j]⟩, by omega, by go_num, by first | rfl | go_num, rfl, rfl, by rw [hst]; rw [HC.out]; rfl, by simp only; omega, by simp only; omega, by simp only; omega, fun _ => by omega, fun q h e => by (obtain rfl : q = j := by omega); rfl, by first | rfl | trivial⟩
                case measure => simp only [intOf]; omega
              have hb34 : ((T[j].toNat : Int) == 34) = false := u8_beq (n := 34) (by decide) h34
              have HN34 := Lib.hid h34
              clear h34
              go_wp2_with fail
              go_roundw
              case rel => exact ⟨j + 1, ⟨o, true, 0, T[j]⟩, by omega, by go_num, by first | rfl | go_num, rfl, rfl, by rw [hst]; simp [scS, HN92.out, HN34.out], by simp only; omega, by simp only; omega, by simp only; omega, fun _ => by omega, fun q h e => by (obtain rfl : q = j := by omega); rfl, by first | rfl | trivial⟩
              case measure => simp only [intOf]; omega
            | false =>
              by_cases h34 : T[j] = 34
              · have hb34 : ((T[j].toNat : Int) == 34) = true := by rw [h34]; rfl
                have hb91 : ((T[j].toNat : Int) == 91) = false := by rw [h34]; rfl
                have hb93 : ((T[j].toNat : Int) == 93) = false := by rw [h34]; rfl
                have HC := Lib.hid h34
                clear h34
                go_wp2_with fail
                go_roundw
                case rel => exact ⟨j + 1, ⟨o, true, 0, T[j]⟩, by omega, by go_num, by first | rfl | go_num, rfl, rfl, by rw [hst]; rw [HC.out]; rfl, by simp only; omega, by simp only; omega, by simp only; omega, fun _ => by omega, fun q h e => by (obtain rfl : q = j := by omega); rfl, by first | rfl | trivial⟩
                case measure => simp only [intOf]; omega
              have hb34 : ((T[j].toNat : Int) == 34) = false := u8_beq (n := 34) (by decide) h34
              have HN34 := Lib.hid h34
              clear h34
              by_cases h91 : T[j] = 91
              · have hb91 : ((T[j].toNat : Int) == 91) = true := by rw [h91]; rfl
                have hb93 : ((T[j].toNat : Int) == 93) = false := by rw [h91]; rfl
                have HC := Lib.hid h91
                clear h91
                go_wp2_with fail
                go_roundw
                case rel => exact ⟨j + 1, ⟨o + 1, false, 0, T[j]⟩, by omega, by go_num, by first | rfl | go_num, rfl, rfl, by rw [hst]; rw [HC.out]; rfl, by simp only; omega, by simp only; omega, by simp only; omega, fun _ => by omega, fun q h e => by (obtain rfl : q = j := by omega); rfl, by first | rfl | trivial⟩
                case measure => simp only [intOf]; omega
              have hb91 : ((T[j].toNat : Int) == 91) = false := u8_beq (n := 91) (by decide) h91
              have HN91 := Lib.hid h91
              clear h91
              by_cases h93 : T[j] = 93
              · have hb93 : ((T[j].toNat : Int) == 93) = true := by rw [h93]; rfl
                have HC := Lib.hid h93
                clear h93
                go_wp2_with fail
                go_roundw
                case rel => exact ⟨j + 1, ⟨o - 1, false, 0, T[j]⟩, by omega, by go_num, by first | rfl | go_num, rfl, rfl, by rw [hst]; rw [HC.out]; rfl, by simp only; omega, by simp only; omega, by simp only; omega, fun _ => by omega, fun q h e => by (obtain rfl : q = j := by omega); rfl, by first | rfl | trivial⟩
                case measure => simp only [intOf]; omega
              have hb93 : ((T[j].toNat : Int) == 93) = false := u8_beq (n := 93) (by decide) h93
              have HN93 := Lib.hid h93
              clear h93
              go_wp2_with fail
              go_roundw
              case rel => exact ⟨j + 1, ⟨o, false, 0, T[j]⟩, by omega, by go_num, by first | rfl | go_num, rfl, rfl, by rw [hst]; simp [scS, HN34.out, HN91.out, HN93.out], by simp only; omega, by simp only; omega, by simp only; omega, fun _ => by omega, fun q h e => by (obtain rfl : q = j := by omega); rfl, by first | rfl | trivial⟩
              case measure => simp only [intOf]; omega
          · obtain ⟨j, rfl⟩ : ∃ j', j = j' + 1 := ⟨j - 1, by have := he0 (by decide); omega⟩
            obtain rfl := hpv j (by omega) rfl
            have hji2 : (j : Int) < T.size := by omega
            clear he0 he2 hpv
            by_cases h120 : T[j + 1] = 120
            rotate_left
            · have hb120 : ((T[j + 1].toNat : Int) == 120) = false := u8_beq (n := 120) (by decide) h120
              have HN := Lib.hid h120
              clear h120
              go_wp2_with fail
              go_roundw
              case rel => exact ⟨j + 1 + 1, ⟨o, i, 0, T[j + 1]⟩, by omega, by go_num, by first | rfl | go_num, rfl, rfl, by rw [hst]; simp [scS, HN.out], by simp only; omega, by simp only; omega, by simp only; omega, fun _ => by omega, fun q h e => by (obtain rfl : q = j + 1 := by omega); rfl, by first | rfl | trivial⟩
              case measure => simp only [intOf]; omega
            have hb120 : ((T[j + 1].toNat : Int) == 120) = true := by rw [h120]; rfl
            have H120 := Lib.hid h120
            clear h120
            by_cases h92 : T[j] = 92
            · have hb92 : ((T[j].toNat : Int) == 92) = true := by rw [h92]; rfl
              have H92 := Lib.hid h92
              clear h92
              go_wp2_with fail
              go_roundw
              case rel => exact ⟨j + 1 + 1, ⟨o, i, 2, T[j + 1]⟩, by omega, by go_num, by first | rfl | go_num, rfl, rfl, by rw [hst]; simp [scS, H92.out, H120.out], by simp only; omega, by simp only; omega, by simp only; omega, fun _ => by omega, fun q h e => by (obtain rfl : q = j + 1 := by omega); rfl, by first | rfl | trivial⟩
              case measure => simp only [intOf]; omega
            · have hb92 : ((T[j].toNat : Int) == 92) = false := u8_beq (n := 92) (by decide) h92
              have H92 := Lib.hid h92
              clear h92
              go_wp2_with fail
              go_roundw
              case rel => exact ⟨j + 1 + 1, ⟨o, i, 0, T[j + 1]⟩, by omega, by go_num, by first | rfl | go_num, rfl, rfl, by rw [hst]; simp [scS, H92.out, H120.out], by simp only; omega, by simp only; omega, by simp only; omega, fun _ => by omega, fun q h e => by (obtain rfl : q = j + 1 := by omega); rfl, by first | rfl | trivial⟩
              case measure => simp only [intOf]; omega
          · clear he0 hpv he2
            go_wp2_with fail
            go_roundw
            case rel => exact ⟨j + 1, ⟨o, i, 1, T[j]⟩, by omega, by go_num, by first | rfl | go_num, rfl, rfl, by rw [hst]; simp [scS], by simp only; omega, by simp only; omega, by simp only; omega, fun _ => by omega, fun q h e => by (obtain rfl : q = j := by omega); rfl, by first | rfl | trivial⟩
            case measure => simp only [intOf]; omega
        · have hji : ¬ (j : Int) < T.size := by omega
          obtain rfl : j = T.size := by omega
          rw [List.take_of_length_le (by rw [← size_list]; exact Nat.le_refl _)] at hscj
          obtain ⟨i', e', pv', hse⟩ := HSC.out
          rw [hse] at hscj
          subst hscj
          have hd1 : ¬ (16 : Int) < d := by omega
          have hd2 : ¬ (d : Int) < 0 := by omega
          simp only
          clear ho1 ho2 he2 he0 hpv hse hlt hj HSC
          go_wp2_with fail
          obtain ⟨W2, hW2⟩ : ∃ W2, W2 = wr := ⟨_, rfl⟩
          have HB3 : Hid (Below w.heap.size w W2) := Lib.hid (by rw [hW2]; exact HB3.out)
          rw [← hW2]
          clear hW2
          go_loopw [19, 20] (fun tl ix wq => ∃ k : Nat, k ≤ d ∧ ix = .int .i64 k ∧ tl = .string (txtV (List.replicate k 93)) ∧ wq = W2) (fun _ ix _ => d - (intOf ix).toNat)
          case atStart => exact ⟨0, by omega, rfl, rfl, rfl⟩
          case round =>
            obtain ⟨k, hk, rfl, rfl, hwq⟩ := hrel
            rw [hwq]
            have hTK : (txtV (List.replicate k 93)).size ≤ 16 := by show (List.replicate k 93).length ≤ 16; simp; omega
            by_cases hkd : k < d
            · have hki : (k : Int) < d := by omega
              go_wp2_with fail
              go_roundw
              case rel => exact ⟨k + 1, by omega, by go_num, congrArg Value.string (rep_succ k), by first | rfl | trivial⟩
              case measure => simp only [intOf]; omega
            have hki : ¬ (k : Int) < d := by omega
            obtain rfl : k = d := by omega
            clear hkd hk
            obtain ⟨TL, hTL⟩ : ∃ TL, TL = txtV (List.replicate k 93) := ⟨_, rfl⟩
            have hTLs : TL.size ≤ 16 := by rw [hTL]; show (List.replicate k 93).length ≤ 16; simp; omega
            have HWK : Hid (readW (T ++ txtV hdK ++ TL) = (0, 0)) := Lib.hid (by rw [hTL]; exact HWK.out)
            rw [← hTL]
            clear hTL
            have HK9 : Hid (K < 9 ∧ hdB K = txtV hdK) := Lib.hid (by
              have h1 := HK.out
              have h2 := (List.getElem?_eq_some_iff.1 h1).1
              exact ⟨h2, by unfold hdB; rw [List.getD_eq_getElem?_getD, h1]; rfl⟩)
            go_upto_region 40 with fail
            obtain ⟨b, hb⟩ : ∃ b, b = W2.heap.size := ⟨_, rfl⟩
            obtain ⟨W3, hW3⟩ : ∃ W3, W3 = W2.alloc (.cells hdC 9) := ⟨_, rfl⟩
            have HB4 : Hid (Below w.heap.size w W3) := Lib.hid (by rw [hW3]; exact HB3.out.alloc HB3.out.size _)
            have HH : Hid (BlkN W3 b 9 hdC) := Lib.hid (by rw [hW3, hb]; exact BlkN.at_ rfl _ _)
            rw [show W2.alloc (.cells #[.string ⟨#[]⟩, .string ⟨#[95]⟩, .string ⟨#[49]⟩, .string ⟨#[34]⟩, .string ⟨#[48, 34]⟩, .string ⟨#[48, 48, 34]⟩, .string ⟨#[102, 34]⟩, .string ⟨#[110, 34]⟩, .string ⟨#[120, 48, 48, 34]⟩] 9) = W3 from hW3.symm, ← hb]
            clear hW3 hb
            go_wp2_with fail
            go_loopw [22] (fun ix wq => ∃ k : Nat, k ≤ K ∧ ix = .int .i64 k ∧ Below W3.heap.size W3 wq) (fun ix _ => 9 - (intOf ix).toNat)
            case atStart => exact ⟨0, by omega, rfl, Below.refl _ _⟩
            case round =>
              obtain ⟨q, hq, rfl, hbq⟩ := hrel
              have HBQ := Lib.hid hbq
              clear hbq
              have hq9 : q < 9 := by have := HK9.out.1; omega
              have hqi : (q : Int) < 9 := by omega
              have hbl := (HH.out.below HBQ.out).cell q (hdC_at q hq9)
              obtain ⟨H, hH⟩ : ∃ H, H = hdB q := ⟨_, rfl⟩
              have hHs : H.size ≤ 4 := by rw [hH]; exact hdB_size q hq9
              rw [← hH] at hbl
              have HHB := Lib.hid hH
              clear hH
              have C12h := read_w (T ++ H ++ TL) (by rw [ByteArray.size_append, ByteArray.size_append]; omega)
              obtain ⟨kh, eh, hke⟩ : ∃ k e, readW (T ++ H ++ TL) = (k, e) := ⟨_, _, rfl⟩
              have hee := readW_e (T ++ H ++ TL)
              rw [hke] at hee C12h
              have C12h := Lib.hid C12h
              have HKE := Lib.hid hke
              simp only at hee
              clear hke
              rcases hee with rfl | rfl
              · go_wp2_with (first | (go_at_call 12; refine (C12h.out _).mono ?_; rintro e w5 ⟨hb5, k5, n5, s5, A5, len5, cap5, r5, rfl⟩; have HB5 := Lib.hid ((bnext (bnext HB4.out HBQ.out) hb5).alloc (bnext (bnext HB4.out HBQ.out) hb5).size (.cells #[.int .u8 k5, .int .i64 n5, .string s5, .slice A5 len5 cap5, .int .i64 r5] 26)); clear hb5) | (go_at_call 15; refine (C15.out _ HB5.out).mono ?_; rintro e w6 ⟨rfl, hb6⟩))
                go_ret
                exact ⟨rfl, bnext HB5.out hb6⟩
              · have hqK : q ≠ K := fun e => by
                  have h1 := HKE.out
                  rw [HHB.out, e, HK9.out.2, HWK.out] at h1
                  cases h1
                go_wp2_with (first | (go_at_call 12; refine (C12h.out _).mono ?_; rintro e w5 ⟨hb5, k5, n5, s5, A5, len5, cap5, r5, rfl⟩; have HB5 := Lib.hid ((bnext HBQ.out hb5).alloc (bnext HBQ.out hb5).size (.cells #[.int .u8 k5, .int .i64 n5, .string s5, .slice A5 len5 cap5, .int .i64 r5] 26)); clear hb5))
                go_roundw
                case rel => exact ⟨q + 1, by omega, by go_num, HB5.out⟩
                case measure => simp only [intOf]; omega
end Go.Proofs.YtkhpfghehjcfoaaDoor
