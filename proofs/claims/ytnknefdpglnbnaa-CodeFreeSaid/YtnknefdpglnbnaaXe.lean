/- The document's side of CodeUses: Reads. -/
import Derived.Test.YtnknefdpglnbnaaXd
import Derived.Test.YtnknefdpglnbnaaPc
namespace Go.Proofs.Ytnknefdpglnbnaa
open Go Go.RowKit

/-- The names that a statement reads. -/
def readsX : St → List ByteArray
  | .mk _ _ _ _ _ a b _ _ _ ws => namesX a ++ (namesX b ++ ws)
theorem readsX_len {x : St} (h : mayS x = true) : (readsX x).length ≤ 1088 := by
  obtain ⟨op, nm, sec, ab, wh, a, b, t, e, c, ws⟩ := x
  obtain ⟨ha, hb, hw⟩ := mayS_parts h
  have h1 := (or_names ha).1
  have h2 := (or_names hb).1
  have h3 : ws.length ≤ 64 := by rcases hw with rfl | hw <;> simp_all
  simp only [readsX, List.length_append]
  omega
theorem rows_may (l : List St) (h : (chkL l).2 = 0) : ∀ r ∈ rowsX l, mayS r.2.2 = true := by
  intro r hr
  rw [chkL_rows] at h
  have hm := chk_zero_may _ 0 (by omega) h
  have hr' : r ∈ flatsI l 0 false := List.mem_of_mem_take hr
  rw [List.all_eq_true] at hm
  exact hm _ (List.mem_map.2 ⟨r, hr', rfl⟩)
attribute [local irreducible] wpList
set_option maxRecDepth 100000 in
set_option maxHeartbeats 2000000 in
theorem Reads60_any (l : List St) (A : Option Addr) (len cap : Nat) (w : World) (B : Nat) (hB : B ≤ w.heap.size) (h : LR (fun b _ => b < B) 256 A len cap l (fun b o => IsSts w B b o l)) :
    Calls Try.prog 60 #[.slice A len cap] w fun e w' => Below w.heap.size w w' ∧ (((chkL l).2 ≠ 0 ∧ e = .returned (.tuple #[.slice Option.none 0 0, .int .i64 ((chkL l).2 : Nat)])) ∨
      ((chkL l).2 = 0 ∧ ∃ sl, e = .returned (.tuple #[sl, .int .i64 0]) ∧ NmRow w' w.heap.size sl (sortU (ownR readsX (rowsX l))))) := by
  have HC := Lib.hid (Check29_any l A len cap w B hB h)
  have HW := Lib.hid (fun w' (hb : Below w.heap.size w w') => Walk51_any l A len cap w' B (Nat.le_trans hB hb.size) (h.imp fun b o hr hp => ⟨hr, IsSts.keep (fun b hb' => hb.block b (by omega)) hr hp⟩))
  have HL : (rowsX l).length ≤ 513 := by unfold rowsX; simp; omega
  clear h
  obtain ⟨va, hva⟩ : ∃ va, va = (chkL l).1 := ⟨_, rfl⟩
  obtain ⟨n, hn⟩ : ∃ n, n = (chkL l).2 := ⟨_, rfl⟩
  have HM := Lib.hid (rows_may l)
  rw [← hn] at HM
  rw [← hn, ← hva] at HC
  rw [← hn]
  clear hn hva
  by_cases hn0 : n = 0
  rotate_left
  · have hne : ((n : Int) != 0) = true := by simp; omega
    go_enter Try.func60, Try.ntmps60
    go_wp2_with (go_at_call 29; refine HC.out.mono ?_; rintro e w1 ⟨rfl, hb1⟩)
    go_ret2
    exact ⟨hb1, .inl ⟨hn0, rfl⟩⟩
  · subst hn0
    obtain ⟨R, hR⟩ : ∃ R, R = rowsX l := ⟨_, rfl⟩
    rw [← hR] at HW HL HM ⊢
    clear hR
    go_enter Try.func60, Try.ntmps60
    go_wp2_with (first
      | (go_at_call 29; refine HC.out.mono ?_; rintro e w1 ⟨rfl, hb1⟩; have HB1 := Lib.hid hb1)
      | (go_at_call 51; refine (HW.out w1 HB1.out).mono ?_; rintro e w2 ⟨sl, xs, rfl, hrow, hb2⟩))
    obtain ⟨A1, cap1, rfl, hcap1, hne⟩ := hrow.list
    have HNE := Lib.hid hne
    have HB2 := Lib.hid (HB1.out.trans (hb2.mono HB1.out.size))
    clear hne hb1 hb2 hrow HW HC
    go_loopw [6, 8] (fun o i wr => ∃ j : Nat, j ≤ R.length ∧ i = .int .i64 j ∧ NmRow wr w2.heap.size o (ownR readsX (R.take j)) ∧ Below w2.heap.size w2 wr) (fun _ i _ => R.length - (intOf i).toNat)
    case atStart => exact ⟨0, Nat.zero_le _, rfl, World.ownsRow_nil _ _ _ _, Below.refl _ _⟩
    case round =>
      obtain ⟨W, rfl⟩ : ∃ W : World, W = wr := ⟨_, rfl⟩
      obtain ⟨j, hj, rfl, hr, hb⟩ := hrel
      have hOl : (ownR readsX (R.take j)).length ≤ 558144 := by
        have := ownR_len readsX 1088 (R.take j) (fun r hr => readsX_len (HM.out (by first | rfl | trivial) r (List.mem_of_mem_take hr)))
        simp only [List.length_take] at this
        omega
      by_cases hlt : j < R.length
      · obtain ⟨g, hg, hA, hall⟩ := HNE.out (by rintro rfl; simp at hlt)
        obtain ⟨cs, hcs, hat, s, hcs2, hst⟩ := hall j hlt
        have HNT := Lib.hid (ownR_take readsX R j hlt)
        have hOT := hOl
        obtain ⟨O, hO⟩ : ∃ O, O = ownR readsX (R.take j) := ⟨_, rfl⟩
        rw [← hO] at hr hOT HNT
        obtain ⟨⟨d, ins, y⟩, hy⟩ : ∃ r, r = R[j] := ⟨_, rfl⟩
        rw [← hy] at hcs2 hst HNT
        have hmay : mayS y = true := by have := HM.out (by first | rfl | trivial) R[j] (List.getElem_mem hlt); rw [← hy] at this; exact this
        obtain ⟨op, nm, sec, ab, wh, xa, xb, t, e, c, ws⟩ := y
        obtain ⟨ma, mb, mw⟩ := mayS_parts hmay
        have na := (or_names ma).1
        have nb := (or_names mb).1
        have nw : ws.length ≤ 64 := by rcases mw with rfl | hw <;> simp_all
        have hf := hst
        simp only at hf
        obtain ⟨-, -, hxa, hxb, -, -, -, hws⟩ := IsStR.form hf
        have hwlen : s.wl = ws.length := by obtain ⟨_, _, _, _, _, e, _⟩ := hws; injection e
        rw [hwlen] at hws
        have hIX : ∀ v, Below w2.heap.size w2 v → IsEx v w2.heap.size s.a xa ∧ IsEx v w2.heap.size s.b xb ∧ IsSs v w2.heap.size (.slice s.wA ws.length s.wc) ws := fun v hv =>
          ⟨IsEx.keep (fun b hb => hv.block b hb) (IsExR.mono (fun b o hr => hr.2) hxa), IsEx.keep (fun b hb => hv.block b hb) (IsExR.mono (fun b o hr => hr.2) hxb), IsSsR.keep (fun b o hb => hv.block b hb) (IsSsR.mono (fun b o hr => hr.2) hws)⟩
        have HIX := Lib.hid hIX
        rw [hcs2] at hat
        have hcell : ∀ v, Below w2.heap.size w2 v → ∀ (k : Nat) (u : Value), (Value.int .i64 d :: Value.bool ins :: s.arr.toList)[k]? = some u → v.cell? ⟨g, j * 19 + k, Option.none⟩ = some u := fun v hv k u hu =>
          (World.cell?_of_block (w := w2) (a := ⟨g, j * 19 + k, Option.none⟩) (hv.block g hg.2)).trans (by have := hat k u hu; rw [Nat.zero_add] at this; exact this)
        have HCE := Lib.hid hcell
        have q1 := hcell W hb 1 _ rfl
        have HR := Lib.hid hr
        have HB := Lib.hid hb
        have hsw := hb.size
        subst hA
        clear hr hb hO hy hcs2 hst hat hall hcs hOl hf hxa hxb hws hIX hcell hmay ma mb mw
        cases ins with
        | true =>
          go_wp2_with fail
          go_roundw
          case rel => exact ⟨j + 1, by omega, by go_num, by rw [HNT.out]; simpa using HR.out, HB.out⟩
          case measure => simp [intOf]; omega
        | false =>
          have CA := Lib.hid (named97_any xa W w2.heap.size (.agg #[.int .u8 s.a0, .int .i64 s.a1, .string s.a2, .slice s.aA s.al s.ac]) (HIX.out W HB.out).1 HB.out.size (by omega))
          have z5 := HCE.out W HB.out 7 _ rfl
          have z6 := HCE.out W HB.out 8 _ rfl
          have z7 := HCE.out W HB.out 9 _ rfl
          have z8 := HCE.out W HB.out 10 _ rfl
          go_wp2_with (first
            | (go_at_call 97; (with_reducible refine (CA.out).mono ?_); rintro e5 w5 ⟨sl5, rfl, hr5, hb5⟩; have hs5 := hb5.size; have HB5 := Lib.hid (HB.out.trans (hb5.mono hsw)); have HRA := Lib.hid hr5; have HR5 := Lib.hid (own_below HR.out hb5); clear hb5 hr5)
            | (at_builtin; refine wpList_append_row2 rfl (.tmp 30) (.tmp 37) rfl w2.heap.size W.heap.size u6 _ _ rfl HR5.out sl5 _ _ rfl HRA.out (nm_one _) (by unfold maxLen; omega) (by omega) HB5.out.size ?_; intro v6 w6 r6 g6 o6; have HR6 := Lib.hid r6; have hb6 := HB5.out.grown g6 HB5.out.size (fun k e => (HR5.out.lt k e).1); have HB6 := Lib.hid hb6; have hs6 := hb6.size; have CB := Lib.hid (named97_any xb w6 w2.heap.size (.agg #[.int .u8 s.b0, .int .i64 s.b1, .string s.b2, .slice s.bA s.bl s.bc]) (HIX.out w6 hb6).2.1 hb6.size (by omega)); have y5 := HCE.out w6 hb6 11 _ rfl; have y6 := HCE.out w6 hb6 12 _ rfl; have y7 := HCE.out w6 hb6 13 _ rfl; have y8 := HCE.out w6 hb6 14 _ rfl; clear r6 g6 o6 hb6)
            | (go_at_call 97; (with_reducible refine (CB.out).mono ?_); rintro e7 w7 ⟨sl7, rfl, hr7, hb7⟩; have hs7 := hb7.size; have HB7 := Lib.hid (HB6.out.trans (hb7.mono hs6)); have HRB := Lib.hid hr7; have HR7 := Lib.hid (own_below HR6.out hb7); clear hb7 hr7)
            | (at_builtin; refine wpList_append_row2 rfl (.tmp 39) (.tmp 46) rfl w2.heap.size w6.heap.size v6 _ _ rfl HR7.out sl7 _ _ rfl HRB.out (nm_one _) (by unfold maxLen; omega) (by omega) HB7.out.size ?_; intro v8 w8 r8 g8 o8; have HR8 := Lib.hid r8; have hb8 := HB7.out.grown g8 HB7.out.size (fun k e => (HR7.out.lt k e).1); have HB8 := Lib.hid hb8; have hs8 := hb8.size; have x18 := HCE.out w8 hb8 18 _ rfl; clear r8 g8 o8 hb8)
            | (at_builtin; refine wpList_append_ss2 rfl (.tmp 48) (.tmp 54) rfl w2.heap.size w2.heap.size v8 _ _ rfl HR8.out s.wA ws.length s.wc ws rfl (HIX.out w8 HB8.out).2.2 (by unfold maxLen; omega) (by omega) hs8 ?_; intro v9 w9 r9 g9 o9; have HR9 := Lib.hid r9; have hb9 := HB8.out.grown g9 hs8 (fun k e => (HR8.out.lt k e).1); have HB9 := Lib.hid hb9; clear r9 g9 o9 hb9))
          go_roundw
          case rel => exact ⟨j + 1, by omega, by go_num, by rw [HNT.out]; have h9 := HR9.out; unfold NmRow; simpa [readsX, Nat.add_assoc] using h9, HB9.out⟩
          case measure => simp [intOf]; omega
      · obtain rfl : j = R.length := by omega
        have HR := Lib.hid hr
        have HB := Lib.hid hb
        have HRT := Lib.hid (List.take_length (l := R))
        clear hr hb
        go_wp2_with (go_at_call 102; refine (sorted102_any _ W _ _ HR.out (by omega)).mono ?_; rintro e w9 ⟨sl9, rfl, hr9, hb9⟩)
        go_ret2
        have hs := HB.out.size
        have hs2 := HB2.out.size
        refine ⟨(HB2.out.trans (HB.out.mono hs2)).trans (hb9.mono (by omega)), .inr ⟨trivial, sl9, rfl, ?_⟩⟩
        rw [HRT.out] at hr9
        exact row_low hr9 (by omega)
end Go.Proofs.Ytnknefdpglnbnaa
