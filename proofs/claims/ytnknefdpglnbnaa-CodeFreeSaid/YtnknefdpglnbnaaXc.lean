/- The document's side of CodeUses: Sets. -/
import Derived.Test.YtnknefdpglnbnaaXb
import Derived.Test.YtnknefdpglnbnaaCi
namespace Go.Proofs.Ytnknefdpglnbnaa
open Go Go.RowKit

/-- The names that a statement sets. -/
def setsX : St → List ByteArray
  | .mk _ nm sec _ _ _ _ _ _ _ _ => (if (nm.toList == []) = true then [] else [nm]) ++ (if (sec.toList == []) = true then [] else [sec])
def ownR (f : St → List ByteArray) (R : List RowX) : List ByteArray := R.flatMap fun r => if r.2.1 = true then [] else f r.2.2
theorem ownR_take (f : St → List ByteArray) (R : List RowX) (j : Nat) (h : j < R.length) : ownR f (R.take (j + 1)) = ownR f (R.take j) ++ (if R[j].2.1 = true then [] else f R[j].2.2) := by
  unfold ownR
  rw [List.take_add_one, List.getElem?_eq_getElem h, List.flatMap_append]
  simp
theorem setsX_len (x : St) : (setsX x).length ≤ 2 := by
  obtain ⟨op, nm, sec, ab, wh, a, b, t, e, c, ws⟩ := x
  by_cases h1 : (nm.toList == []) = true <;> by_cases h2 : (sec.toList == []) = true <;> simp only [setsX, h1, h2, if_true] <;> simp
theorem ownR_len (f : St → List ByteArray) (m : Nat) (R : List RowX) (h : ∀ r ∈ R, (f r.2.2).length ≤ m) : (ownR f R).length ≤ R.length * m := by
  induction R with
  | nil => simp [ownR]
  | cons r R ih =>
    have h1 := h r (by simp)
    have h2 := ih (fun r' hr => h r' (by simp [hr]))
    have e : ownR f (r :: R) = (if r.2.1 = true then [] else f r.2.2) ++ ownR f R := by simp [ownR]
    rw [e, List.length_append, List.length_cons, Nat.succ_mul]
    split <;> simp <;> omega
/-- One name more in the row. -/
theorem nm_push {w : World} {lo : Nat} {sl : Value} {a : List ByteArray} {x : ByteArray} (h : w.ownsRow lo 9 1 sl (a.length + [x].length) (a.map Value.string ++ [x].map Value.string)) : NmRow w lo sl (a ++ [x]) := by
  unfold NmRow
  rw [List.length_append, List.map_append]
  exact h
attribute [local irreducible] wpList
set_option maxRecDepth 100000 in
set_option maxHeartbeats 2000000 in
theorem Sets58_any (l : List St) (A : Option Addr) (len cap : Nat) (w : World) (B : Nat) (hB : B ≤ w.heap.size) (h : LR (fun b _ => b < B) 256 A len cap l (fun b o => IsSts w B b o l)) :
    Calls Try.prog 58 #[.slice A len cap] w fun e w' => Below w.heap.size w w' ∧ (((chkL l).2 ≠ 0 ∧ e = .returned (.tuple #[.slice Option.none 0 0, .int .i64 ((chkL l).2 : Nat)])) ∨
      ((chkL l).2 = 0 ∧ ∃ sl, e = .returned (.tuple #[sl, .int .i64 0]) ∧ NmRow w' w.heap.size sl (sortU (ownR setsX (rowsX l))))) := by
  have HC := Lib.hid (Check29_any l A len cap w B hB h)
  have HW := Lib.hid (fun w' (hb : Below w.heap.size w w') => Walk51_any l A len cap w' B (Nat.le_trans hB hb.size) (h.imp fun b o hr hp => ⟨hr, IsSts.keep (fun b hb' => hb.block b (by omega)) hr hp⟩))
  have HL : (rowsX l).length ≤ 513 := by unfold rowsX; simp; omega
  clear h
  obtain ⟨va, hva⟩ : ∃ va, va = (chkL l).1 := ⟨_, rfl⟩
  obtain ⟨n, hn⟩ : ∃ n, n = (chkL l).2 := ⟨_, rfl⟩
  rw [← hn, ← hva] at HC
  rw [← hn]
  clear hn hva
  by_cases hn0 : n = 0
  rotate_left
  · have hne : ((n : Int) != 0) = true := by simp; omega
    go_enter Try.func58, Try.ntmps58
    go_wp2_with (go_at_call 29; refine HC.out.mono ?_; rintro e w1 ⟨rfl, hb1⟩)
    go_ret2
    exact ⟨hb1, .inl ⟨hn0, rfl⟩⟩
  · subst hn0
    obtain ⟨R, hR⟩ : ∃ R, R = rowsX l := ⟨_, rfl⟩
    rw [← hR] at HW HL ⊢
    clear hR
    go_enter Try.func58, Try.ntmps58
    go_wp2_with (first
      | (go_at_call 29; refine HC.out.mono ?_; rintro e w1 ⟨rfl, hb1⟩; have HB1 := Lib.hid hb1)
      | (go_at_call 51; refine (HW.out w1 HB1.out).mono ?_; rintro e w2 ⟨sl, xs, rfl, hrow, hb2⟩))
    obtain ⟨A1, cap1, rfl, hcap1, hne⟩ := hrow.list
    have HNE := Lib.hid hne
    have HB2 := Lib.hid (HB1.out.trans (hb2.mono HB1.out.size))
    clear hne hb1 hb2 hrow HW HC
    go_loopw [6, 8] (fun o i wr => ∃ j : Nat, j ≤ R.length ∧ i = .int .i64 j ∧ NmRow wr w2.heap.size o (ownR setsX (R.take j)) ∧ Below w2.heap.size w2 wr) (fun _ i _ => R.length - (intOf i).toNat)
    case atStart => exact ⟨0, Nat.zero_le _, rfl, World.ownsRow_nil _ _ _ _, Below.refl _ _⟩
    case round =>
      obtain ⟨W, rfl⟩ : ∃ W : World, W = wr := ⟨_, rfl⟩
      obtain ⟨j, hj, rfl, hr, hb⟩ := hrel
      have hOl : (ownR setsX (R.take j)).length ≤ 1026 := by
        have := ownR_len setsX 2 (R.take j) (fun r _ => setsX_len _)
        simp only [List.length_take] at this
        omega
      by_cases hlt : j < R.length
      · obtain ⟨g, hg, hA, hall⟩ := HNE.out (by rintro rfl; simp at hlt)
        obtain ⟨cs, hcs, hat, s, hcs2, hst⟩ := hall j hlt
        have HNT := Lib.hid (ownR_take setsX R j hlt)
        have hOT := hOl
        obtain ⟨O, hO⟩ : ∃ O, O = ownR setsX (R.take j) := ⟨_, rfl⟩
        rw [← hO] at hr hOT HNT
        obtain ⟨⟨d, ins, y⟩, hy⟩ : ∃ r, r = R[j] := ⟨_, rfl⟩
        rw [← hy] at hcs2 hst HNT
        obtain ⟨op, nm, sec, ab, wh, xa, xb, t, e, c, ws⟩ := y
        have hf := hst
        simp only at hf
        unfold IsStR at hf
        obtain ⟨⟨-, e1, e2, -, -⟩, -⟩ := hf
        rw [hcs2] at hat
        have hkw : W.heap[g]? = w2.heap[g]? := hb.block g hg.2
        have q1 : W.cell? ⟨g, j * 19 + 1, Option.none⟩ = some (.bool ins) := (World.cell?_of_block (w := w2) (a := ⟨g, j * 19 + 1, Option.none⟩) hkw).trans (by have := hat 1 _ rfl; rw [Nat.zero_add] at this; exact this)
        have q3 : W.cell? ⟨g, j * 19 + 3, Option.none⟩ = some (.string nm) := (World.cell?_of_block (w := w2) (a := ⟨g, j * 19 + 3, Option.none⟩) hkw).trans (by have := hat 3 _ rfl; rw [Nat.zero_add] at this; rw [← e1]; exact this)
        have q4 : W.cell? ⟨g, j * 19 + 4, Option.none⟩ = some (.string sec) := (World.cell?_of_block (w := w2) (a := ⟨g, j * 19 + 4, Option.none⟩) hkw).trans (by have := hat 4 _ rfl; rw [Nat.zero_add] at this; rw [← e2]; exact this)
        have HR := Lib.hid hr
        have HB := Lib.hid hb
        have hglt := hg.2
        have HKW := Lib.hid hkw
        have HE2 := Lib.hid e2
        subst hA
        clear hr hb hO hy hcs2 hst hat hall hcs hkw hOl e1 e2
        cases ins with
        | true =>
          go_wp2_with fail
          go_roundw
          case rel => exact ⟨j + 1, by omega, by go_num, by rw [HNT.out]; simpa using HR.out, HB.out⟩
          case measure => simp [intOf]; omega
        | false =>
          rcases hc1 : (nm.toList == []) with _ | _
          · rcases hc2 : (sec.toList == []) with _ | _
            · go_wp2_with (first
                  | (at_builtin; refine wpList_append_nms rfl (.tmp 37) (.tmp 44) rfl w2.heap.size u6 _ _ rfl (HR.out.alloc _) _ 1 1 rfl [nm] rfl (one_cells W nm) (by simp; unfold maxLen; omega) (by simp; omega) (HB.out.alloc HB.out.size _).size ?_; intro v1 w6 r6 g6; have HR6 := Lib.hid (nm_push r6); have hb6 := (HB.out.alloc HB.out.size (.cells #[.string nm] 9)).grown g6 (HB.out.alloc HB.out.size _).size (fun k e => (HR.out.lt k e).1); have HB6 := Lib.hid hb6; have q46 : w6.cell? ⟨g, j * 19 + 4, Option.none⟩ = some (.string sec) := (World.cell?_of_block (w := W) (a := ⟨g, j * 19 + 4, Option.none⟩) ((hb6.block g hglt).trans HKW.out.symm)).trans q4; clear r6 g6 hb6)
                  | (at_builtin; refine wpList_append_nms rfl (.tmp 53) (.tmp 60) rfl w2.heap.size v1 _ _ rfl (HR6.out.alloc _) _ 1 1 rfl [sec] rfl (one_cells w6 sec) (by simp; unfold maxLen; omega) (by simp; omega) (HB6.out.alloc HB6.out.size _).size ?_; intro v2 w7 r7 g7; have HR7 := Lib.hid (nm_push r7); have hb7 := (HB6.out.alloc HB6.out.size (.cells #[.string sec] 9)).grown g7 (HB6.out.alloc HB6.out.size _).size (fun k e => (HR6.out.lt k e).1); have HB7 := Lib.hid hb7; have q47 : w7.cell? ⟨g, j * 19 + 4, Option.none⟩ = some (.string sec) := (World.cell?_of_block (w := W) (a := ⟨g, j * 19 + 4, Option.none⟩) ((hb7.block g hglt).trans HKW.out.symm)).trans q4; clear r7 g7 hb7))
              go_roundw
              case rel => exact ⟨j + 1, by omega, by go_num, by rw [HNT.out]; simpa [setsX, hc1, hc2] using HR7.out, HB7.out⟩
              case measure => simp [intOf]; omega
            · go_wp2_with (first
                  | (at_builtin; refine wpList_append_nms rfl (.tmp 37) (.tmp 44) rfl w2.heap.size u6 _ _ rfl (HR.out.alloc _) _ 1 1 rfl [nm] rfl (one_cells W nm) (by simp; unfold maxLen; omega) (by simp; omega) (HB.out.alloc HB.out.size _).size ?_; intro v1 w6 r6 g6; have HR6 := Lib.hid (nm_push r6); have hb6 := (HB.out.alloc HB.out.size (.cells #[.string nm] 9)).grown g6 (HB.out.alloc HB.out.size _).size (fun k e => (HR.out.lt k e).1); have HB6 := Lib.hid hb6; have q46 : w6.cell? ⟨g, j * 19 + 4, Option.none⟩ = some (.string sec) := (World.cell?_of_block (w := W) (a := ⟨g, j * 19 + 4, Option.none⟩) ((hb6.block g hglt).trans HKW.out.symm)).trans q4; clear r6 g6 hb6))
              go_roundw
              case rel => exact ⟨j + 1, by omega, by go_num, by rw [HNT.out]; simpa [setsX, hc1, hc2] using HR6.out, HB6.out⟩
              case measure => simp [intOf]; omega
          · rcases hc2 : (sec.toList == []) with _ | _
            · go_wp2_with (first
                  | (at_builtin; refine wpList_append_nms rfl (.tmp 53) (.tmp 60) rfl w2.heap.size u6 _ _ rfl (HR.out.alloc _) _ 1 1 rfl [sec] rfl (one_cells W sec) (by simp; unfold maxLen; omega) (by simp; omega) (HB.out.alloc HB.out.size _).size ?_; intro v2 w7 r7 g7; have HR7 := Lib.hid (nm_push r7); have hb7 := (HB.out.alloc HB.out.size (.cells #[.string sec] 9)).grown g7 (HB.out.alloc HB.out.size _).size (fun k e => (HR.out.lt k e).1); have HB7 := Lib.hid hb7; have q47 : w7.cell? ⟨g, j * 19 + 4, Option.none⟩ = some (.string sec) := (World.cell?_of_block (w := W) (a := ⟨g, j * 19 + 4, Option.none⟩) ((hb7.block g hglt).trans HKW.out.symm)).trans q4; clear r7 g7 hb7))
              go_roundw
              case rel => exact ⟨j + 1, by omega, by go_num, by rw [HNT.out]; simpa [setsX, hc1, hc2] using HR7.out, HB7.out⟩
              case measure => simp [intOf]; omega
            · go_wp2_with fail
              go_roundw
              case rel => exact ⟨j + 1, by omega, by go_num, by rw [HNT.out]; simpa [setsX, hc1, hc2] using HR.out, HB.out⟩
              case measure => simp [intOf]; omega
      · obtain rfl : j = R.length := by omega
        have HR := Lib.hid hr
        have HB := Lib.hid hb
        have HRT := Lib.hid (List.take_length (l := R))
        clear hr hb
        go_wp2_with (go_at_call 102; refine (sorted102_any _ W _ _ HR.out (by omega)).mono ?_; rintro e w9 ⟨sl9, rfl, hr9, hb9⟩)
        go_ret2
        have hs := HB.out.size
        have hs2 := HB2.out.size
        refine ⟨(HB2.out.trans (HB.out.mono hs2)).trans (hb9.mono (by omega)), .inr ⟨trivial, sl9, rfl, ?_⟩⟩
        rw [HRT.out] at hr9
        exact row_low hr9 (by omega)
end Go.Proofs.Ytnknefdpglnbnaa
