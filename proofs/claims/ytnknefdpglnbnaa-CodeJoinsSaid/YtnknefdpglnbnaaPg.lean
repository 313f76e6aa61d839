/- CodeJoins: the law's walk, where both codes may be. -/
import Derived.Test.YtnknefdpglnbnaaPf
namespace Go.Proofs.Ytnknefdpglnbnaa
open Go.RowKit

attribute [local irreducible] wpList
set_option maxRecDepth 100000 in
set_option maxHeartbeats 4000000 in
theorem joins_long (c d : List St) (Ac Ad : Option Addr) (lc cc ld cd : Nat) (w : World) (hc : LR (fun b _ => b < w.heap.size) 256 Ac lc cc c (fun b o => IsSts w w.heap.size b o c)) (hd : LR (fun b _ => b < w.heap.size) 256 Ad ld cd d (fun b o => IsSts w w.heap.size b o d)) (hnc : Ac = Option.none → cc = 0) (hnd : Ad = Option.none → cd = 0)
    (hz1 : (chkL c).2 = 0) (hz2 : (chkL d).2 = 0) (hlong : 512 < (flats c 0).length + (flats d 0).length) :
    Calls Try.prog 6 #[.slice Ac lc cc, .slice Ad ld cd] w fun e w' => e = .returned (.bool true) ∧ Below w.heap.size w w' := by
  have U1 := fun w' (hb : Below w.heap.size w w') => Uses_any c Ac lc cc w' w.heap.size hb.size (hc.keep hb.block)
  have U2 := fun w' (hb : Below w.heap.size w w') => Uses_any d Ad ld cd w' w.heap.size hb.size (hd.keep hb.block)
  have S1 := Lib.hid (fun w' (hb : Below w.heap.size w w') => Size_any c Ac lc cc w' w.heap.size hb.size (hc.keep hb.block))
  have S2 := Lib.hid (fun w' (hb : Below w.heap.size w w') => Size_any d Ad ld cd w' w.heap.size hb.size (hd.keep hb.block))
  have hf1 := flats512 hz1
  have hf2 := flats512 hz2
  have hl1 := flats_len c 0
  have hl2 := flats_len d 0
  have hch := chkL_join c d hz1 hz2
  rw [if_neg (by omega)] at hch
  rw [hz1] at U1
  rw [hz2] at U2
  rw [sizeL_of hz1] at S1
  rw [sizeL_of hz2] at S2
  obtain ⟨nc, hncd⟩ : ∃ nc, nc = (flats c 0).length := ⟨_, rfl⟩
  obtain ⟨nd, hndd⟩ : ∃ nd, nd = (flats d 0).length := ⟨_, rfl⟩
  rw [← hncd] at S1 hf1 hl1 hlong
  rw [← hndd] at S2 hf2 hl2 hlong
  obtain ⟨uc, huc⟩ : ∃ uc, uc = usesL c := ⟨_, rfl⟩
  obtain ⟨ud, hud⟩ : ∃ ud, ud = usesL d := ⟨_, rfl⟩
  rw [← huc] at U1
  rw [← hud] at U2
  obtain ⟨ca, cm, cr⟩ := uc
  obtain ⟨da, dm, dr⟩ := ud
  have V1 : Hid (∀ w', Below w.heap.size w w' → Calls Try.prog 35 #[.slice Ac lc cc] w' fun e w'' => e = .returned (.tuple #[.agg #[.int .u8 ca, .bool cm, .bool cr], .int .i64 0]) ∧ Below w'.heap.size w' w'') := Lib.hid U1
  have V2 : Hid (∀ w', Below w.heap.size w w' → Calls Try.prog 35 #[.slice Ad ld cd] w' fun e w'' => e = .returned (.tuple #[.agg #[.int .u8 da, .bool dm, .bool dr], .int .i64 0]) ∧ Below w'.heap.size w' w'') := Lib.hid U2
  have HC := Lib.hid hc
  have HD := Lib.hid hd
  have HNC := Lib.hid hnc
  have HND := Lib.hid hnd
  have HCH := Lib.hid hch
  have hlc := hc.1
  have hld := hd.1
  have HLC := Lib.hid hlc
  have HLD := Lib.hid hld
  clear U1 U2 hc hd hnc hnd hz1 hz2 huc hud hncd hndd hch hlc hld
  go_enter Try.func6, Try.ntmps6
  go_upto_region 5 with (first | (go_at_call 35; (with_reducible refine (V1.out _ (Below.refl _ _)).mono ?_); rintro e w1 ⟨rfl, hb1⟩; have hb1' : Below w.heap.size w (w1.alloc (.cells #[.int .u8 ca, .bool cm, .bool cr] 51)) := hb1.alloc hb1.size _) | (go_at_call 35; refine (V2.out _ hb1').mono ?_; rintro e w2 ⟨rfl, hb2⟩; have hb2' : Below w.heap.size w (w2.alloc (.cells #[.int .u8 da, .bool dm, .bool dr] 51)) := (hb1'.trans (hb2.mono hb1'.size)).alloc (Nat.le_trans hb1'.size hb2.size) _))
  obtain ⟨W2, hW2⟩ : ∃ W2, W2 = w2.alloc (.cells #[.int .u8 da, .bool dm, .bool dr] 51) := ⟨_, rfl⟩
  rw [← hW2] at hb2' ⊢
  clear hW2 hb1 hb1' hb2
  refine wp_region_lit ?_
  refine wpList_move rfl (.tmp 0) rfl ?_
  have hmx : maxLen = 9223372036854775807 := rfl
  refine wpList_append_lr rfl (.const (.slice Option.none 0 0)) (.tmp 37) rfl w.heap.size w.heap.size (.slice Option.none 0 0) 0 [] rfl (World.ownsRow_nil _ _ _ _) Ac lc cc c rfl HNC.out (HC.out.keep hb2'.block) (by have := HLC.out; unfold maxLen; omega) (by have := HLC.out; omega) hb2'.size ?_
  intro v1 w3 ss hs1 hst1 hown1 hg1 hloc1
  have hb3 : Below w.heap.size w w3 := ⟨hg1.os.trans hb2'.os, hg1.tape.trans hb2'.tape, hg1.output.trans hb2'.output, Nat.le_trans hb2'.size hg1.size, fun k hk => (hg1.block k (Nat.lt_of_lt_of_le hk hb2'.size) (by simp [Value.ownBlock])).trans (hb2'.block k hk)⟩
  refine wpList_move rfl (.tmp 1) rfl ?_
  refine wpList_append_lr rfl (.tmp 38) (.tmp 39) rfl w.heap.size w.heap.size v1 c.length (cellsOf ss) rfl (by simpa using hown1) Ad ld cd d rfl HND.out (HD.out.keep hb3.block) (by have := HLD.out; unfold maxLen; omega) (by have := HLD.out; omega) hb3.size ?_
  intro v2 w4 tt hs2 hst2 hown2 hg2 hloc2
  obtain ⟨hb4, A, cap, rfl, hboth⟩ := both_of hb2'.size hs1 hst1 hs2 hst2 hg1 hg2 (by simpa [Value.ownBlock] using hloc1) _ hown2 (by omega)
  have hb5 : Below w.heap.size w w4 := hb2'.trans (hb4.mono hb2'.size)
  have UB := fun w' (hb : Below w4.heap.size w4 w') => Uses_any (c ++ d) A (c.length + d.length) cap w' w4.heap.size hb.size (hboth.keep hb.block)
  have KB := Lib.hid (fun w' (hb : Below w4.heap.size w4 w') => Check_any (c ++ d) A (c.length + d.length) cap w' w4.heap.size hb.size (hboth.keep hb.block))
  rw [HCH.out] at UB KB
  obtain ⟨ub, hub⟩ : ∃ ub, ub = usesL (c ++ d) := ⟨_, rfl⟩
  rw [← hub] at UB
  obtain ⟨ba, bm, br⟩ := ub
  have VB : Hid (∀ w', Below w4.heap.size w4 w' → Calls Try.prog 35 #[.slice A (c.length + d.length) cap] w' fun e w'' => e = .returned (.tuple #[.agg #[.int .u8 ba, .bool bm, .bool br], .int .i64 4]) ∧ Below w'.heap.size w' w'') := Lib.hid UB
  have KV : Hid (∀ w', Below w4.heap.size w4 w' → Calls Try.prog 28 #[.slice A (c.length + d.length) cap] w' fun e w'' => e = .returned (.tuple #[.int .i64 512, .int .i64 4]) ∧ Below w'.heap.size w' w'') := Lib.hid KB.out
  have HB4 := Lib.hid hb4
  clear UB KB hub hboth hown1 hown2 hg1 hg2 hloc1 hloc2 hst1 hst2 hs1 hs2 hb4 hb3 hb2'
  have hdec : decide ((512 : Int) < (nc : Int) + (nd : Int)) = true := by simp; omega
  go_wp2_with (first | (go_at_call 35; refine (VB.out _ (Below.refl _ _)).mono ?_; rintro e w5 ⟨rfl, hb6⟩; have hb6' : Below w4.heap.size w4 (w5.alloc (.cells #[.int .u8 ba, .bool bm, .bool br] 51)) := hb6.alloc hb6.size _) | (go_at_call 32; (with_reducible refine (S1.out _ (hb5.trans (hb6'.mono hb5.size))).mono ?_); rintro e w6 ⟨rfl, hb7⟩; have hb7' := hb6'.trans (hb7.mono hb6'.size)) | (go_at_call 32; (with_reducible refine (S2.out _ (hb5.trans (hb7'.mono hb5.size))).mono ?_); rintro e w7 ⟨rfl, hb8⟩; have hb8' := hb7'.trans (hb8.mono hb7'.size)) | (go_at_call 28; refine (KV.out _ hb8').mono ?_; rintro e w8 ⟨rfl, hb9⟩; have hb9' := hb8'.trans (hb9.mono hb8'.size)) | (go_at_call 17; refine (lives_any _).mono ?_; rintro e w9 ⟨rfl, hb10⟩; have hb10' := hb9'.trans (hb10.mono hb9'.size)))
  go_ret
  exact ⟨rfl, hb5.trans (hb10'.mono hb5.size)⟩
end Go.Proofs.Ytnknefdpglnbnaa
