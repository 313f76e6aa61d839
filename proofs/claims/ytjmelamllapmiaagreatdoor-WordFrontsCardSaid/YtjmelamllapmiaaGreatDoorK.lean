/- package word: quote, Quote. -/
import Derived.Test.YtjmelamllapmiaaGreatDoorJ
import Derived.Test.YtjmelamllapmiaaGreatDoorRt
namespace Go.Proofs.YtjmelamllapmiaaGreatDoor
open Go.RowKit

def hexc (n : Nat) : UInt8 := if n < 10 then UInt8.ofNat (48 + n) else UInt8.ofNat (87 + n)
/-- A byte's form in a quoted form. -/
def qb (c : UInt8) : L8 := if c = 34 ∨ c = 92 then [92, c] else if c = 10 then [92, 110] else if c.toNat < 32 ∨ 126 < c.toNat then [92, 120, hexc (c.toNat / 16), hexc (c.toNat % 16)] else [c]
def qbs : L8 → L8
  | [] => []
  | c :: t => qb c ++ qbs t
def quoteL (b : L8) : L8 := 34 :: (qbs b ++ [34])
theorem qbs_append : ∀ (a b : L8), qbs (a ++ b) = qbs a ++ qbs b
  | [], b => rfl
  | c :: a, b => by simp [qbs, qbs_append a b]
theorem qb_len (c : UInt8) : 1 ≤ (qb c).length ∧ (qb c).length ≤ 4 := by
  unfold qb; repeat' split
  all_goals simp
theorem qbs_len : ∀ (b : L8), (qbs b).length ≤ 4 * b.length
  | [] => by simp [qbs]
  | c :: t => by have := qbs_len t; have := (qb_len c).2; simp [qbs]; omega
theorem take_next {s : ByteArray} {j : Nat} (h : j < s.size) : s.data.toList.take (j + 1) = s.data.toList.take j ++ [s[j]] := by
  have h' : j < s.data.toList.length := by simpa using h
  rw [List.take_add_one, List.getElem?_eq_getElem h']
  rfl
theorem below_of_grown {w w' : World} (h : w.grownBy w' Option.none) : Below w.heap.size w w' := ⟨h.os, h.tape, h.output, h.size, fun k hk => h.block k hk (by simp)⟩
def Yes (_ : World) : Prop := True
theorem Yes.intro (w : World) : Yes w := trivial
theorem hex_at (w' : World) (x : Int) (q : Nat) (hq : q < 16) (hx : x = q) (E : Result Value) :
    ((if _h : 0 ≤ x ∧ x < 16 then Result.ok (Value.int .u8 (((⟨#[48, 49, 50, 51, 52, 53, 54, 55, 56, 57, 97, 98, 99, 100, 101, 102]⟩ : ByteArray)[x.toNat]'(by show x.toNat < 16; omega)).toNat : Nat)) w' else E).andThen fun a w' => Result.ok (Next.value a) w') = Result.ok (Next.value (.int .u8 ((hexc q).toNat : Nat))) w' := by
  subst hx
  rw [dif_pos ⟨by omega, by omega⟩]
  have h : q = 0 ∨ q = 1 ∨ q = 2 ∨ q = 3 ∨ q = 4 ∨ q = 5 ∨ q = 6 ∨ q = 7 ∨ q = 8 ∨ q = 9 ∨ q = 10 ∨ q = 11 ∨ q = 12 ∨ q = 13 ∨ q = 14 ∨ q = 15 := by omega
  rcases h with rfl | rfl | rfl | rfl | rfl | rfl | rfl | rfl | rfl | rfl | rfl | rfl | rfl | rfl | rfl | rfl <;> rfl
theorem and15 : ∀ c : Fin 256, bits BinOp.and IntKind.u8 (c.val : Int) 15 = ((c.val % 16 : Nat) : Int) := by decide +kernel
/-- A row of bytes of the call's own that a call has lengthened. -/
structure Grw (w : World) (lo : Nat) (v : Value) (w' : World) (v' : Value) (b' : L8) : Prop where
  row : BRow w' lo v' b'
  grow : w.grownBy w' v.ownBlock
  blk : v'.ownBlock = v.ownBlock ∨ ∃ g, v'.ownBlock = some g ∧ w.heap.size ≤ g
theorem Grw.refl {w : World} {lo : Nat} {v : Value} {b : L8} (h : BRow w lo v b) : Grw w lo v w v b := ⟨h, grown_of_below (Below.refl _ _) _, .inl rfl⟩
theorem Grw.step {w w1 w2 : World} {lo : Nat} {v v1 v2 : Value} {b1 b2 : L8} (h : Grw w lo v w1 v1 b1) (hr : BRow w2 lo v2 b2) (hg : w1.grownBy w2 v1.ownBlock) (ho : v2.ownBlock = v1.ownBlock ∨ ∃ g, v2.ownBlock = some g ∧ w1.heap.size ≤ g) : Grw w lo v w2 v2 b2 := by
  refine ⟨hr, ⟨hg.os.trans h.grow.os, hg.tape.trans h.grow.tape, hg.output.trans h.grow.output, Nat.le_trans h.grow.size hg.size, fun i hi hn => ?_⟩, ?_⟩
  · refine (hg.block i (Nat.lt_of_lt_of_le hi h.grow.size) fun e => ?_).trans (h.grow.block i hi hn)
    rcases h.blk with hb | ⟨g, hb, hgl⟩
    · exact hn (by rw [← hb]; exact e)
    · rw [hb] at e; injection e with e; omega
  · rcases ho with ho | ⟨g, ho, hgl⟩
    · rw [ho]; exact h.blk
    · exact .inr ⟨g, ho, Nat.le_trans h.grow.size hgl⟩
theorem Grw.trans {w w1 w2 : World} {lo : Nat} {v v1 v2 : Value} {b1 b2 : L8} (h : Grw w lo v w1 v1 b1) (k : Grw w1 lo v1 w2 v2 b2) : Grw w lo v w2 v2 b2 := h.step k.row k.grow k.blk
theorem Grw.below {w w1 w2 : World} {lo : Nat} {v v1 : Value} {b1 : L8} (h : Grw w lo v w1 v1 b1) (hb : Below w1.heap.size w1 w2) : Grw w lo v w2 v1 b1 := h.step (own_below h.row hb) (grown_of_below hb _) (.inl rfl)
theorem Grw.add {w w1 : World} {lo : Nat} {v v1 : Value} {b1 : L8} (h : Grw w lo v w1 v1 b1) (o : Obj) : Grw w lo v (w1.alloc o) v1 b1 := h.below ((Below.refl _ _).alloc (Nat.le_refl _) o)
theorem Grw.cut {w w1 : World} {lo : Nat} {v v1 : Value} {b1 : L8} (h : Grw w lo v w1 v1 b1) : lo ≤ w.heap.size → lo ≤ w1.heap.size := fun hl => Nat.le_trans hl h.grow.size
set_option maxRecDepth 100000 in
set_option maxHeartbeats 4000000 in
theorem quote_any (s : ByteArray) (lo : Nat) (v : Value) (b : L8) (w : World) (hb : BRow w lo v b) (hlo : lo ≤ w.heap.size) (hlen : b.length + 4 * s.size + 2 ≤ 140737488355328) :
    Calls Tryz.prog 85 #[v, .string s] w fun e w' => ∃ v', e = .returned v' ∧ Grw w lo v w' v' (b ++ quoteL s.data.toList) := by
  have hs : s.size ≤ 140737488355328 := by omega
  obtain ⟨A, cap, rfl, hcap⟩ := hb.slice
  have HB := Lib.hid hb
  clear hb
  go_enter Tryz.func85, Tryz.ntmps85
  go_wp2_with (first
    | (refine wpList_append_byte _ rfl (.tmp 7) (.tmp 8) rfl rfl lo (.slice A b.length cap) b rfl (own_below HB.out ((Below.refl _ w).alloc (Nat.le_refl _) (.cells #[byt 34] 5))) w.heap.size 1 1 [34] rfl rfl (row_new w [byt 34] 5) (by simp; omega) (by simp; omega) ?_
       intro v1 w1 hv1 hg1 ho1
       have HG1 := Lib.hid (Grw.step (Grw.add (Grw.refl HB.out) (.cells #[byt 34] 5)) hv1 hg1 ho1)
       clear hv1 hg1 ho1))
  go_loopw [0, 5, 6] (fun v i c wr => ∃ j : Nat, i = .int .i64 j ∧ j ≤ s.size ∧ Grw w lo (.slice A b.length cap) wr v (b ++ (34 :: qbs (s.data.toList.take j)))) (fun _ i _ _ => s.size - (intOf i).toNat)
  case atStart => exact ⟨0, rfl, by omega, by simpa [qbs] using HG1.out⟩
  case round =>
    obtain ⟨j, rfl, hj, hg⟩ := hrel
    obtain ⟨A2, cap2, rfl, hcap2⟩ := hg.row.slice
    have HG := Lib.hid hg
    have hql := qbs_len (s.data.toList.take j)
    have htl : (s.data.toList.take j).length = j := by simp; omega
    rw [htl] at hql
    have hlw := hg.cut hlo
    clear hg
    obtain ⟨B, hB⟩ : ∃ B, B = b ++ (34 :: qbs (s.data.toList.take j)) := ⟨_, rfl⟩
    have hBl : B.length ≤ b.length + 1 + 4 * j := by rw [hB]; simp; omega
    rw [← hB] at HG ⊢
    have HBB := Lib.hid hB
    clear hB hql htl
    by_cases hjl : j < s.size
    rotate_left
    · go_wp2_with (first
        | (refine wpList_append_byte _ rfl (.tmp 56) (.tmp 57) rfl rfl lo (.slice A2 B.length cap2) B rfl (own_below HG.out.row ((Below.refl _ _).alloc (Nat.le_refl _) (.cells #[byt 34] 5))) wr.heap.size 1 1 [34] rfl rfl (row_new wr [byt 34] 5) (by simp; omega) (by simp; omega) ?_
           intro v2 w2 hv2 hg2 ho2
           have HG2 := Lib.hid (Grw.step (Grw.add HG.out (.cells #[byt 34] 5)) hv2 hg2 ho2)
           clear hv2 hg2 ho2))
      go_ret
      refine ⟨_, rfl, ?_⟩
      have e : b ++ quoteL s.data.toList = B ++ [34] := by
        rw [HBB.out, List.take_of_length_le (by simp; omega)]; simp [quoteL]
      rw [e]; exact HG2.out
    have Hnext : ∀ (w' : World) (v' : Value), Grw w lo (.slice A b.length cap) w' v' (B ++ qb s[j]) → Grw w lo (.slice A b.length cap) w' v' (b ++ (34 :: qbs (s.data.toList.take (j + 1)))) := fun w' v' h => by
      rw [take_next hjl, qbs_append]
      rw [HBB.out] at h
      simpa [qbs] using h
    have HNEXT := Lib.hid Hnext
    clear Hnext
    obtain ⟨c, hc⟩ : ∃ c, c = s[j] := ⟨_, rfl⟩
    rw [← hc] at HNEXT
    have hc0 : c.toNat < 256 := c.toNat_lt
    have HC := Lib.hid hc
    go_upto_region 7 with fail
    rw [← hc]
    clear hc
    by_cases h34 : c = 34
    · subst h34
      go_wp2_with (first
        | (refine wpList_append_byte _ rfl (.tmp 30) (.tmp 32) rfl rfl lo (.slice A2 B.length cap2) B rfl (own_below HG.out.row ((Below.refl _ _).alloc (Nat.le_refl _) (.cells #[byt 92, byt 34] 5))) wr.heap.size 2 2 [92, 34] rfl rfl (row_new wr [byt 92, byt 34] 5) (by simp; omega) (by simp; omega) ?_
           intro v2 w2 hv2 hg2 ho2
           have HG2 := Lib.hid (Grw.step (Grw.add HG.out (.cells #[byt 92, byt 34] 5)) hv2 hg2 ho2)
           clear hv2 hg2 ho2))
      go_roundw
      case rel => exact ⟨j + 1, by go_num, by omega, HNEXT.out _ _ HG2.out⟩
      case measure => simp only [intOf]; omega
    have n34 : ((c.toNat : Int) == 34) = false := u8_beq (n := 34) (by decide) h34
    by_cases h92 : c = 92
    · subst h92
      go_wp2_with (first
        | (refine wpList_append_byte _ rfl (.tmp 30) (.tmp 32) rfl rfl lo (.slice A2 B.length cap2) B rfl (own_below HG.out.row ((Below.refl _ _).alloc (Nat.le_refl _) (.cells #[byt 92, byt 92] 5))) wr.heap.size 2 2 [92, 92] rfl rfl (row_new wr [byt 92, byt 92] 5) (by simp; omega) (by simp; omega) ?_
           intro v2 w2 hv2 hg2 ho2
           have HG2 := Lib.hid (Grw.step (Grw.add HG.out (.cells #[byt 92, byt 92] 5)) hv2 hg2 ho2)
           clear hv2 hg2 ho2))
      go_roundw
      case rel => exact ⟨j + 1, by go_num, by omega, HNEXT.out _ _ HG2.out⟩
      case measure => simp only [intOf]; omega
    have n92 : ((c.toNat : Int) == 92) = false := u8_beq (n := 92) (by decide) h92
    by_cases h10 : c = 10
    · subst h10
      go_wp2_with (first
        | (refine wpList_append_byte _ rfl (.tmp 37) (.tmp 38) rfl rfl lo (.slice A2 B.length cap2) B rfl (own_below HG.out.row ((Below.refl _ _).alloc (Nat.le_refl _) (.cells #[byt 92, byt 110] 5))) wr.heap.size 2 2 [92, 110] rfl rfl (row_new wr [byt 92, byt 110] 5) (by simp; omega) (by simp; omega) ?_
           intro v2 w2 hv2 hg2 ho2
           have HG2 := Lib.hid (Grw.step (Grw.add HG.out (.cells #[byt 92, byt 110] 5)) hv2 hg2 ho2)
           clear hv2 hg2 ho2))
      go_roundw
      case rel => exact ⟨j + 1, by go_num, by omega, HNEXT.out _ _ HG2.out⟩
      case measure => simp only [intOf]; omega
    have n10 : ((c.toNat : Int) == 10) = false := u8_beq (n := 10) (by decide) h10
    by_cases hx : c.toNat < 32 ∨ 126 < c.toNat
    rotate_left
    · have e : qb c = [c] := by simp only [qb, h34, h92, h10, or_self, if_false, if_neg hx]
      rw [e] at HNEXT
      have hx1 : ¬ c.toNat < 32 := by omega
      have hx2 : ¬ 126 < c.toNat := by omega
      go_wp2_with (first
        | (refine wpList_append_byte _ rfl (.tmp 19) (.tmp 21) rfl rfl lo (.slice A2 B.length cap2) B rfl (own_below HG.out.row ((Below.refl _ _).alloc (Nat.le_refl _) (.cells #[byt c] 5))) wr.heap.size 1 1 [c] rfl rfl (row_new wr [byt c] 5) (by simp; omega) (by simp; omega) ?_
           intro v2 w2 hv2 hg2 ho2
           have HG2 := Lib.hid (Grw.step (Grw.add HG.out (.cells #[byt c] 5)) hv2 hg2 ho2)
           clear hv2 hg2 ho2))
      go_roundw
      case rel => exact ⟨j + 1, by go_num, by omega, HNEXT.out _ _ HG2.out⟩
      case measure => simp only [intOf]; omega
    have e : qb c = [92, 120, hexc (c.toNat / 16), hexc (c.toNat % 16)] := by simp only [qb, h34, h92, h10, or_self, if_false, if_pos hx]
    rw [e] at HNEXT
    have hx1 : (decide (c.toNat < 32) || decide (126 < c.toNat)) = true := by simpa using hx
    go_upto_region 12 with fail
    all_goals
      refine RegT.region_seq (fun i => Nat.ble i 7) Yes [0, 1, 2, 3, 4, 5, 6] [7, 8, 9] (by kernel_rfl) (by kernel_rfl) (by decide +kernel) (by decide) (Yes.intro _) ?_
      refine RegT.quiet_step rfl (fun _ _ _ h => h) (by kernel_rfl) (v := .slice A2 B.length cap2) (fun w' hS => ?_) ?_
      · go_simp
      refine RegT.quiet_step rfl (fun _ _ _ h => h) (by kernel_rfl) (v := .int .u8 (c.toNat : Nat)) (fun w' hS => ?_) ?_
      · go_simp
      refine RegT.quiet_step rfl (fun _ _ _ h => h) (by kernel_rfl) (v := .int .u8 ((c.toNat / 16 : Nat) : Int)) (fun w' hS => ?_) ?_
      · go_simp
      refine RegT.quiet_step rfl (fun _ _ _ h => h) (by kernel_rfl) (v := .int .u8 ((hexc (c.toNat / 16)).toNat : Nat)) (fun w' hS => ?_) ?_
      · go_simp
        exact hex_at _ _ _ (by omega) (by omega) _
      refine RegT.quiet_step rfl (fun _ _ _ h => h) (by kernel_rfl) (v := .int .u8 (c.toNat : Nat)) (fun w' hS => ?_) ?_
      · go_simp
      refine RegT.quiet_step rfl (fun _ _ _ h => h) (by kernel_rfl) (v := .int .u8 ((c.toNat % 16 : Nat) : Int)) (fun w' hS => ?_) ?_
      · go_simp
        exact and15 ⟨c.toNat, hc0⟩
      refine RegT.quiet_step rfl (fun _ _ _ h => h) (by kernel_rfl) (v := .int .u8 ((hexc (c.toNat % 16)).toNat : Nat)) (fun w' hS => ?_) ?_
      · go_simp
        exact hex_at _ _ _ (by omega) (by omega) _
      refine RegT.seqT_held rfl ?_
      go_wp2_with fail
      refine ⟨Yes.intro _, RegT.seqT_tail [8, 9] [_, _] rfl rfl _ _ ?_⟩
      go_wp2_with (first
        | (refine wpList_append_byte _ rfl (.tmp 47) (.tmp 54) rfl rfl lo (.slice A2 B.length cap2) B rfl (own_below HG.out.row ((Below.refl _ _).alloc (Nat.le_refl _) (.cells #[byt 92, byt 120, byt (hexc (c.toNat / 16)), byt (hexc (c.toNat % 16))] 5)).drew) wr.heap.size 4 4 [92, 120, hexc (c.toNat / 16), hexc (c.toNat % 16)] rfl rfl (fun j u hu => row_new wr [byt 92, byt 120, byt (hexc (c.toNat / 16)), byt (hexc (c.toNat % 16))] 5 j u hu) (by simp; omega) (by simp; omega) ?_
           intro v2 w2 hv2 hg2 ho2
           have HG2 := Lib.hid (Grw.step (Grw.below HG.out ((Below.refl _ _).alloc (Nat.le_refl _) (.cells #[byt 92, byt 120, byt (hexc (c.toNat / 16)), byt (hexc (c.toNat % 16))] 5)).drew) hv2 hg2 ho2)
           clear hv2 hg2 ho2))
      simp only [RegT.NP, Exit.inBlock]
      go_wp2_with fail
      go_roundw
      case rel => exact ⟨j + 1, by go_num, by omega, HNEXT.out _ _ HG2.out⟩
      case measure => simp only [intOf]; omega
set_option maxHeartbeats 1000000 in
theorem Quote_any (s : ByteArray) (hs : 4 * s.size + 2 ≤ 140737488355328) (w : World) :
    Calls Tryz.prog 56 #[.string s] w fun e w' => Below w.heap.size w w' ∧ e = .returned (.string (txtV (quoteL s.data.toList))) := by
  have C := Lib.hid (quote_any s w.heap.size (.slice Option.none 0 0) [] w (BRow.nil _ _) (Nat.le_refl _) (by simpa using hs))
  go_enter Tryz.func56, Tryz.ntmps56
  go_wp2_with (first | (go_at_call 85; refine C.out.mono ?_; rintro e w1 ⟨v', rfl, hg⟩; have hconv := brow_string hg.row))
  go_ret
  exact ⟨below_of_grown hg.grow, rfl⟩
end Go.Proofs.YtjmelamllapmiaaGreatDoor
