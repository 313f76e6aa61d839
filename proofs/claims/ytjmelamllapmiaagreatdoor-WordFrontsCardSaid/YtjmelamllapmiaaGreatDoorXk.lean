/- The statements' great and may. -/
import Derived.Test.YtjmelamllapmiaaGreatDoorXj
namespace Go.Proofs.YtjmelamllapmiaaGreatDoor
open Go.RowKit

mutual
/-- What great answers. -/
def greatL : Va → Int → Int
  | .mk _ _ s l _, room => if room < 0 then -1 else greatLs l (room - 1 - (s.size / 64 : Nat))
def greatLs : List Va → Int → Int
  | [], room => room
  | x :: l, room => if room < 0 then room else greatLs l (greatL x room)
end
mutual
theorem greatL_le : ∀ (x : Va) (room : Int), 0 ≤ room → greatL x room ≤ room - 1
  | .mk _ _ s l _, room, h => by
    unfold greatL
    rw [if_neg (by omega)]
    have := greatLs_le l (room - 1 - (s.size / 64 : Nat))
    omega
theorem greatLs_le : ∀ (l : List Va) (room : Int), greatLs l room ≤ room
  | [], room => by unfold greatLs; omega
  | x :: l, room => by
    unfold greatLs
    split
    · omega
    · rename_i h
      have h1 := greatLs_le l (greatL x room)
      have h2 := greatL_le x room (by omega)
      omega
end
def GreatC (x : Va) : Prop := ∀ (w : World) (B : Nat) (v : Value) (room : Int), IsVa w B v x → B ≤ w.heap.size → -4398046511104 ≤ room → room ≤ 20000 →
  Calls Tryz.prog 14 #[v, .int .i64 room] w fun e w' => (e = .returned (.int .i64 (greatL x room)) ∧ -4398046511104 ≤ greatL x room) ∧ Below w.heap.size w w'
set_option maxRecDepth 100000 in
set_option maxHeartbeats 4000000 in
theorem great_any (x : Va) : GreatC x := by
  induction x using Va.ind with
  | h k n s l r IH =>
  intro w B v room h hB hr0 hr1
  obtain ⟨h1, h2, h3, h4, A, cap, h5, rfl, h7⟩ := h.form
  have HI := Lib.hid IH
  have H7 := Lib.hid h7
  have hln := h.len
  clear h h7 IH
  by_cases hneg : room < 0
  · have HG : Hid (greatL (.mk k n s l r) room = -1) := Lib.hid (by unfold greatL; rw [if_pos hneg])
    go_enter Tryz.func14, Tryz.ntmps14
    go_wp2_with fail
    go_ret
    exact ⟨⟨ret_int HG.out.symm, by rw [HG.out]; omega⟩, (Below.refl _ _).alloc (Nat.le_refl _) _⟩
  obtain ⟨G, hG⟩ : ∃ G, G = greatLs l (room - 1 - (s.size / 64 : Nat)) := ⟨_, rfl⟩
  have HG : Hid (greatL (.mk k n s l r) room = G) := Lib.hid (by unfold greatL; rw [if_neg hneg, hG])
  have HG0 := Lib.hid hG
  clear hG
  have hs64 : ((s.size : Int).tdiv 64) = ((s.size / 64 : Nat) : Int) := by rw [Int.tdiv_eq_ediv_of_nonneg (by omega)]; omega
  have hsb : ((s.size / 64 : Nat) : Int) ≤ 2199023255552 := by omega
  go_enter Tryz.func14, Tryz.ntmps14
  go_wp2_with fail
  go_loopw [1, 5] (fun rx ix wr => ∃ (j : Nat) (rm : Int), rx = .int .i64 rm ∧ ix = .int .i64 j ∧ j ≤ l.length ∧ greatLs (l.drop j) rm = G ∧ rm ≤ 20000 ∧ -4398046511104 ≤ rm ∧ Below w.heap.size w wr ∧ BlkN wr w.heap.size 27 #[.int .u8 k, .int .i64 n, .string s, .slice A l.length cap, .int .i64 r]) (fun _ ix _ => l.length - (intOf ix).toNat)
  case atStart => exact ⟨0, room - 1 - (s.size / 64 : Nat), by rw [Int.natCast_ediv]; rfl, rfl, by omega, HG0.out.symm, by omega, by omega, (Below.refl _ _).alloc (Nat.le_refl _) _, BlkN.at_ rfl _ _⟩
  case round =>
    obtain ⟨j, rm, rfl, rfl, hj, hg, hrm1, hrm0, hb, hz⟩ := hrel
    have HGJ := Lib.hid hg
    have HB := Lib.hid hb
    have HZ := Lib.hid hz
    have hzl := hz.lt
    have z3 := hz.cell 3 rfl
    clear hg hb hz
    by_cases hlt : j < l.length
    rotate_left
    · have hji : ¬ (j : Int) < l.length := by omega
      have HGE : Hid (G = rm) := Lib.hid (by
        have := HGJ.out
        rw [List.drop_of_length_le (by omega)] at this
        rw [← this, greatLs])
      go_wp2_with fail
      go_ret
      exact ⟨⟨ret_int (by rw [HG.out, HGE.out]), by rw [HG.out, HGE.out]; omega⟩, HB.out⟩
    have hji : (j : Int) < l.length := by omega
    have HD := Lib.hid (List.drop_eq_getElem_cons hlt)
    by_cases hng : rm < 0
    · have hng2 : ¬ 0 ≤ rm := by omega
      have HGE : Hid (G = rm) := Lib.hid (by
        have := HGJ.out
        rw [HD.out, greatLs, if_pos hng] at this
        exact this.symm)
      go_wp2_with fail
      go_ret
      exact ⟨⟨ret_int (by rw [HG.out, HGE.out]), by rw [HG.out, HGE.out]; omega⟩, HB.out⟩
    have hng2 : 0 ≤ rm := by omega
    obtain ⟨b, o, hbB, hA, hx⟩ := H7.out (by rintro rfl; simp at hlt)
    subst hA
    obtain ⟨k1, n1, s1, A1, len1, cap1, r1, hat, hx1⟩ := hx.at2 j hlt
    have hat' := hat.keep hbB (fun b hb => HB.out.block b (by omega))
    obtain ⟨e0, e1, e2, e3, e4⟩ := hat'.five
    have C23 := Lib.hid (HI.out l[j] (List.getElem_mem hlt) wr B _ rm (IsVa.keep (fun b hb' => HB.out.block b (by omega)) hx1) (Nat.le_trans hB HB.out.size) (by omega) (by omega))
    obtain ⟨g, hg⟩ : ∃ g, g = greatL l[j] rm := ⟨_, rfl⟩
    rw [← hg] at C23
    have hgl : g ≤ rm - 1 := by rw [hg]; exact greatL_le _ _ hng2
    have HST : Hid (greatLs (l.drop (j + 1)) g = G) := Lib.hid (by
      have := HGJ.out
      rw [HD.out, greatLs, if_neg hng, ← hg] at this
      exact this)
    clear hat hat' hx hx1 hg
    go_wp2_with (first | (go_at_call 14; refine C23.out.mono ?_; rintro e w1 ⟨⟨rfl, hg0⟩, hb1⟩))
    go_roundw
    case rel => exact ⟨j + 1, g, rfl, by go_num, by omega, HST.out, by omega, hg0, bnext HB.out hb1, HZ.out.below hb1⟩
    case measure => simp only [intOf]; omega
end Go.Proofs.YtjmelamllapmiaaGreatDoor
