/- CodeJoins: the law's walk, where both codes may be. -/
import Derived.Test.YtnknefdpglnbnaaPg
namespace Go.Proofs.Ytnknefdpglnbnaa
open Go.RowKit

attribute [local irreducible] wpList
theorem usesL_of {l : List St} (h : (chkL l).2 = 0) : usesL l = usesF (flats l 0) := by unfold usesL; rw [if_pos h]
set_option maxRecDepth 100000 in
set_option maxHeartbeats 4000000 in
theorem joins_short (c d : List St) (Ac Ad : Option Addr) (lc cc ld cd : Nat) (w : World) (hc : LR (fun b _ => b < w.heap.size) 256 Ac lc cc c (fun b o => IsSts w w.heap.size b o c)) (hd : LR (fun b _ => b < w.heap.size) 256 Ad ld cd d (fun b o => IsSts w w.heap.size b o d)) (hnc : Ac = Option.none → cc = 0) (hnd : Ad = Option.none → cd = 0)
    (hz1 : (chkL c).2 = 0) (hz2 : (chkL d).2 = 0) (hshort : (flats c 0).length + (flats d 0).length ≤ 512) :
    Calls Try.prog 6 #[.slice Ac lc cc, .slice Ad ld cd] w fun e w' => e = .returned (.bool true) ∧ Below w.heap.size w w' := by
  have U1 := fun w' (hb : Below w.heap.size w w') => Uses_any c Ac lc cc w' w.heap.size hb.size (hc.keep hb.block)
  have U2 := fun w' (hb : Below w.heap.size w w') => Uses_any d Ad ld cd w' w.heap.size hb.size (hd.keep hb.block)
  have S1 := Lib.hid (fun w' (hb : Below w.heap.size w w') => Size_any c Ac lc cc w' w.heap.size hb.size (hc.keep hb.block))
  have S2 := Lib.hid (fun w' (hb : Below w.heap.size w w') => Size_any d Ad ld cd w' w.heap.size hb.size (hd.keep hb.block))
  have hf1 := flats512 hz1
  have hf2 := flats512 hz2
  have hl1 := flats_len c 0
  have hl2 := flats_len d 0
  have hch := chkL_join c d hz1 hz2
  rw [if_pos hshort] at hch
  rw [hz1] at U1
  rw [hz2] at U2
  rw [sizeL_of hz1] at S1
  rw [sizeL_of hz2] at S2
  obtain ⟨nc, hncd⟩ : ∃ nc, nc = (flats c 0).length := ⟨_, rfl⟩
  obtain ⟨nd, hndd⟩ : ∃ nd, nd = (flats d 0).length := ⟨_, rfl⟩
  rw [← hncd] at S1 hf1 hl1 hshort
  rw [← hndd] at S2 hf2 hl2 hshort
  have hub : usesL (c ++ d) = ⟨bits .or .u8 (usesL c).a (usesL d).a, (usesL c).m || (usesL d).m, (usesL c).r || (usesL d).r⟩ := by
    rw [usesL_of (by rw [hch]), usesL_of hz1, usesL_of hz2, flats_append, ← usesF_or, ← usesF_m_append, ← usesF_r_append]
  have hsb : sizeL (c ++ d) = (flats c 0).length + (flats d 0).length := by rw [sizeL_of (by rw [hch]), flats_append, List.length_append]
  obtain ⟨uc, huc⟩ : ∃ uc, uc = usesL c := ⟨_, rfl⟩
  obtain ⟨ud, hud⟩ : ∃ ud, ud = usesL d := ⟨_, rfl⟩
  rw [← huc] at U1 hub
  rw [← hud] at U2 hub
  rw [← hncd, ← hndd] at hsb
  obtain ⟨ca, cm, cr⟩ := uc
  obtain ⟨da, dm, dr⟩ := ud
  have V1 : Hid (∀ w', Below w.heap.size w w' → Calls Try.prog 35 #[.slice Ac lc cc] w' fun e w'' => e = .returned (.tuple #[.agg #[.int .u8 ca, .bool cm, .bool cr], .int .i64 0]) ∧ Below w'.heap.size w' w'') := Lib.hid U1
  have V2 : Hid (∀ w', Below w.heap.size w w' → Calls Try.prog 35 #[.slice Ad ld cd] w' fun e w'' => e = .returned (.tuple #[.agg #[.int .u8 da, .bool dm, .bool dr], .int .i64 0]) ∧ Below w'.heap.size w' w'') := Lib.hid U2
  have HC := Lib.hid hc
  have HD := Lib.hid hd
  have HNC := Lib.hid hnc
  have HND := Lib.hid hnd
  have HCH := Lib.hid hch
  have HUB := Lib.hid hub
  have HSB := Lib.hid hsb
  clear hub hsb
  have hlc := hc.1
  have hld := hd.1
  have HLC := Lib.hid hlc
  have HLD := Lib.hid hld
  have HBK : Hid (∀ (i : Nat) (hi : i < c.length) (b : List St), b ∈ blocksOf c[i] → (chkL b).2 = 0 ∧ bits .andNot .u8 (usesL b).a ca = 0 ∧ ((usesL b).m = true → cm = true) ∧ ((usesL b).r = true → cr = true)) := Lib.hid (by
    intro i hi b hb
    have h0 := block_chk c hz1 i hi b hb
    have e : (⟨ca, cm, cr⟩ : US) = usesF (flats c 0) := by rw [huc, usesL_of hz1]
    refine ⟨h0, ?_, ?_, ?_⟩
    · have := block_a c i hi b hb
      rw [← e] at this
      rw [usesL_of h0]; exact this
    · intro h
      have := block_m c i hi b hb (by rw [usesL_of h0] at h; exact h)
      rw [← e] at this; exact this
    · intro h
      have := block_r c i hi b hb (by rw [usesL_of h0] at h; exact h)
      rw [← e] at this; exact this)
  clear U1 U2 hc hd hnc hnd hz1 hz2 huc hud hncd hndd hch hlc hld
  go_enter Try.func6, Try.ntmps6
  go_upto_region 5 with (first | (go_at_call 35; (with_reducible refine (V1.out _ (Below.refl _ _)).mono ?_); rintro e w1 ⟨rfl, hb1⟩; have hb1' : Below w.heap.size w (w1.alloc (.cells #[.int .u8 ca, .bool cm, .bool cr] 51)) := hb1.alloc hb1.size _) | (go_at_call 35; refine (V2.out _ hb1').mono ?_; rintro e w2 ⟨rfl, hb2⟩; have hb2' : Below w.heap.size w (w2.alloc (.cells #[.int .u8 da, .bool dm, .bool dr] 51)) := (hb1'.trans (hb2.mono hb1'.size)).alloc (Nat.le_trans hb1'.size hb2.size) _))
  obtain ⟨W2, hW2⟩ : ∃ W2, W2 = w2.alloc (.cells #[.int .u8 da, .bool dm, .bool dr] 51) := ⟨_, rfl⟩
  have hQ1 : BlkN W2 w1.heap.size 51 #[.int .u8 ca, .bool cm, .bool cr] := by rw [hW2]; exact ((BlkN.at_ (w := w1) rfl 51 #[.int .u8 ca, .bool cm, .bool cr]).below hb2).alloc _
  have hQ2 : BlkN W2 w2.heap.size 51 #[.int .u8 da, .bool dm, .bool dr] := by rw [hW2]; exact BlkN.at_ rfl _ _
  have HQ1 := Lib.hid hQ1
  have HQ2 := Lib.hid hQ2
  clear hQ1 hQ2
  rw [← hW2] at hb2' ⊢
  clear hW2 hb1 hb1' hb2
  refine wp_region_lit ?_
  refine wpList_move rfl (.tmp 0) rfl ?_
  have hmx : maxLen = 9223372036854775807 := rfl
  refine wpList_append_lr rfl (.const (.slice Option.none 0 0)) (.tmp 37) rfl w.heap.size w.heap.size (.slice Option.none 0 0) 0 [] rfl (World.ownsRow_nil _ _ _ _) Ac lc cc c rfl HNC.out (HC.out.keep hb2'.block) (by have := HLC.out; unfold maxLen; omega) (by have := HLC.out; omega) hb2'.size ?_
  intro v1 w3 ss hs1 hst1 hown1 hg1 hloc1
  have hb3 : Below w.heap.size w w3 := ⟨hg1.os.trans hb2'.os, hg1.tape.trans hb2'.tape, hg1.output.trans hb2'.output, Nat.le_trans hb2'.size hg1.size, fun k hk => (hg1.block k (Nat.lt_of_lt_of_le hk hb2'.size) (by simp [Value.ownBlock])).trans (hb2'.block k hk)⟩
  refine wpList_move rfl (.tmp 1) rfl ?_
  refine wpList_append_lr rfl (.tmp 38) (.tmp 39) rfl w.heap.size w.heap.size v1 c.length (cellsOf ss) rfl (by simpa using hown1) Ad ld cd d rfl HND.out (HD.out.keep hb3.block) (by have := HLD.out; unfold maxLen; omega) (by have := HLD.out; omega) hb3.size ?_
  intro v2 w4 tt hs2 hst2 hown2 hg2 hloc2
  obtain ⟨hb4, A, cap, rfl, hboth⟩ := both_of hb2'.size hs1 hst1 hs2 hst2 hg1 hg2 (by simpa [Value.ownBlock] using hloc1) _ hown2 (by omega)
  have hb5 : Below w.heap.size w w4 := hb2'.trans (hb4.mono hb2'.size)
  have UB := fun w' (hb : Below w4.heap.size w4 w') => Uses_any (c ++ d) A (c.length + d.length) cap w' w4.heap.size hb.size (hboth.keep hb.block)
  have SB := fun w' (hb : Below w4.heap.size w4 w') => Size_any (c ++ d) A (c.length + d.length) cap w' w4.heap.size hb.size (hboth.keep hb.block)
  rw [HCH.out, HUB.out] at UB
  rw [HSB.out] at SB
  have VB : Hid (∀ w', Below w4.heap.size w4 w' → Calls Try.prog 35 #[.slice A (c.length + d.length) cap] w' fun e w'' => e = .returned (.tuple #[.agg #[.int .u8 (bits .or .u8 ca da), .bool (cm || dm), .bool (cr || dr)], .int .i64 0]) ∧ Below w'.heap.size w' w'') := Lib.hid UB
  have S3 : Hid (∀ w', Below w4.heap.size w4 w' → Calls Try.prog 32 #[.slice A (c.length + d.length) cap] w' fun e w'' => e = .returned (.int .i64 ((nc : Int) + (nd : Int))) ∧ Below w'.heap.size w' w'') := Lib.hid (by simpa using SB)
  have HB4 := Lib.hid hb4
  have HQ3 := Lib.hid (HQ1.out.below hb4)
  have HQ4 := Lib.hid (HQ2.out.below hb4)
  clear UB SB hboth hown1 hown2 hg1 hg2 hloc1 hloc2 hst1 hst2 hs1 hs2 hb4 hb3 hb2'
  have hdec : decide ((512 : Int) < (nc : Int) + (nd : Int)) = false := by simp; omega
  go_upto_region 11 with (first | (go_at_call 35; refine (VB.out _ (Below.refl _ _)).mono ?_; rintro e w5 ⟨rfl, hb6⟩; have hb6' : Below w4.heap.size w4 (w5.alloc (.cells #[.int .u8 (bits .or .u8 ca da), .bool (cm || dm), .bool (cr || dr)] 51)) := hb6.alloc hb6.size _) | (go_at_call 32; (with_reducible refine (S1.out _ (hb5.trans (hb6'.mono hb5.size))).mono ?_); rintro e w6 ⟨rfl, hb7⟩; have hb7' := hb6'.trans (hb7.mono hb6'.size)) | (go_at_call 32; (with_reducible refine (S2.out _ (hb5.trans (hb7'.mono hb5.size))).mono ?_); rintro e w7 ⟨rfl, hb8⟩; have hb8' := hb7'.trans (hb8.mono hb7'.size)))
  have hr1 := (((HQ3.out.below hb6).alloc (.cells #[.int .u8 (bits .or .u8 ca da), .bool (cm || dm), .bool (cr || dr)] 51)).below hb7).below hb8
  have hr2 := (((HQ4.out.below hb6).alloc (.cells #[.int .u8 (bits .or .u8 ca da), .bool (cm || dm), .bool (cr || dr)] 51)).below hb7).below hb8
  have hr3 := ((BlkN.at_ (w := w5) rfl 51 #[.int .u8 (bits .or .u8 ca da), .bool (cm || dm), .bool (cr || dr)]).below hb7).below hb8
  have HR1 := Lib.hid hr1
  have HR2 := Lib.hid hr2
  have HR3 := Lib.hid hr3
  clear hr1 hr2 hr3
  have hne : (((nc : Int) + (nd : Int)) != ((nc : Int) + (nd : Int))) = false := by simp
  go_upto_region 13 with (go_at_call 32; refine (S3.out _ hb8').mono ?_; rintro e w8 ⟨rfl, hb9⟩; have hs1 := HR1.out.below hb9; have hs2 := HR2.out.below hb9; have hs3 := HR3.out.below hb9; have a0 := hs1.cell 0 rfl; have a1 := hs1.cell 1 rfl; have a2 := hs1.cell 2 rfl; have b0 := hs2.cell 0 rfl; have b1 := hs2.cell 1 rfl; have b2 := hs2.cell 2 rfl; have c0 := hs3.cell 0 rfl; have c1 := hs3.cell 1 rfl; have c2 := hs3.cell 2 rfl; have H1 := Lib.hid hs1; have H2 := Lib.hid hs2; have H3 := Lib.hid hs3; clear hs1 hs2 hs3)
  all_goals
    have HB8 := Lib.hid (hb8'.trans (hb9.mono hb8'.size))
    clear hb6 hb6' hb7 hb7' hb8 hb8' hb9 HR1 HR2 HR3 H2 H3 V1 V2 VB S1 S2 S3 HQ3 HQ4 HQ1 HQ2 HD HND a0 a1 a2 b0 b1 b2 c0 c1 c2 hne hdec HUB HSB HCH HLD
    go_wp2_with fail
    go_loopw [15] (fun i wr => ∃ k : Nat, k ≤ lc ∧ i = .int .i64 k ∧ Below w4.heap.size w4 wr ∧ BlkN wr w1.heap.size 51 #[.int .u8 ca, .bool cm, .bool cr]) (fun i _ => lc - (intOf i).toNat)
    case atStart => exact ⟨0, by omega, rfl, HB8.out, H1.out⟩
    case round =>
      obtain ⟨k, hk, rfl, hu, hq⟩ := hrel
      have HU := Lib.hid hu
      have HQ := Lib.hid hq
      clear hu hq
      by_cases hlt : k < lc
      · have hlt2 : k < c.length := by have := HC.out.1; omega
        obtain ⟨b, o, hbB, hA, hp⟩ := HC.out.2.2.2 (by rintro rfl; simp at hlt2)
        subst hA
        obtain ⟨s, hat, hst⟩ := hp.at k hlt2
        have hat' := hat.keep hbB (fun b hb => (HU.out.block b (Nat.lt_of_lt_of_le hb hb5.size)).trans (hb5.block b hb))
        have e13 : wr.cell? ⟨b, o + k * 17 + 13, Option.none⟩ = some (.slice s.tA s.tl s.tc) := hat' 13 _ rfl
        have e14 : wr.cell? ⟨b, o + k * 17 + 14, Option.none⟩ = some (.slice s.eA s.el s.ec) := hat' 14 _ rfl
        have e15 : wr.cell? ⟨b, o + k * 17 + 15, Option.none⟩ = some (.slice s.cA s.cl s.cc) := hat' 15 _ rfl
        have hbl : b < wr.heap.size := Nat.lt_of_lt_of_le hbB (Nat.le_trans hb5.size HU.out.size)
        have HST := Lib.hid hst
        clear hat hat' hp hst
        go_wp2_with fail
        go_region
        go_wp2_with fail
        obtain ⟨wo, rfl⟩ : ∃ wo : World, wo = wr := ⟨_, rfl⟩
        have HQ2 : Hid (BlkN ((wo.alloc (.cells #[.slice s.tA s.tl s.tc, .slice s.eA s.el s.ec, .slice s.cA s.cl s.cc] 59)).drew) wo.heap.size 59 #[.slice s.tA s.tl s.tc, .slice s.eA s.el s.ec, .slice s.cA s.cl s.cc]) := Lib.hid (BlkN.at_ rfl _ _)
        have HU2 := Lib.hid ((HU.out.alloc HU.out.size (.cells #[.slice s.tA s.tl s.tc, .slice s.eA s.el s.ec, .slice s.cA s.cl s.cc] 59)).drew)
        have HQ3 : Hid (BlkN ((wo.alloc (.cells #[.slice s.tA s.tl s.tc, .slice s.eA s.el s.ec, .slice s.cA s.cl s.cc] 59)).drew) w1.heap.size 51 #[.int .u8 ca, .bool cm, .bool cr]) := Lib.hid (HQ.out.alloc _)
        clear e13 e14 e15
        go_loopw [17] (fun i wi => ∃ m : Nat, m ≤ 3 ∧ i = .int .i64 m ∧ Below w4.heap.size w4 wi ∧ BlkN wi w1.heap.size 51 #[.int .u8 ca, .bool cm, .bool cr] ∧ BlkN wi wo.heap.size 59 #[.slice s.tA s.tl s.tc, .slice s.eA s.el s.ec, .slice s.cA s.cl s.cc]) (fun i _ => 3 - (intOf i).toNat)
        case atStart => exact ⟨0, by omega, rfl, HU2.out, HQ3.out, HQ2.out⟩
        case round =>
          obtain ⟨m, hm, rfl, hv, hq, hg⟩ := hrel
          have HV := Lib.hid hv
          have HQ4 := Lib.hid hq
          have HG := Lib.hid hg
          by_cases hm3 : m < 3
          · have hsel : ∃ (bl : List St) (A' : Option Addr) (l' c' : Nat), bl ∈ blocksOf c[k] ∧ LR (fun b _ => b < w.heap.size) 256 A' l' c' bl (fun b o => IsSts w w.heap.size b o bl) ∧ wr.cell? ⟨wo.heap.size, m, Option.none⟩ = some (.slice A' l' c') := by
              have hst := HST.out
              generalize c[k] = x at hst ⊢
              obtain ⟨op, nm, sec, ab, wh, xa, xb, tt, ee, c2, ws⟩ := x
              obtain ⟨_, _, _, _, g1, g2, g3, _⟩ := hst.form
              obtain rfl | rfl | rfl : m = 0 ∨ m = 1 ∨ m = 2 := by omega
              · exact ⟨tt, _, _, _, by simp [blocksOf], g1, hg.cell 0 rfl⟩
              · exact ⟨ee, _, _, _, by simp [blocksOf], g2, hg.cell 1 rfl⟩
              · exact ⟨c2, _, _, _, by simp [blocksOf], g3, hg.cell 2 rfl⟩
            obtain ⟨bl, A', l', c', hmem, hlr, hcell⟩ := hsel
            obtain ⟨f0, f1, f2, f3⟩ := HBK.out k hlt2 bl hmem
            have hU := Uses_any bl A' l' c' wr w.heap.size (Nat.le_trans hb5.size hv.size) (hlr.keep fun b hb => (hv.block b (Nat.lt_of_lt_of_le hb hb5.size)).trans (hb5.block b hb))
            rw [f0] at hU
            obtain ⟨ux, hux⟩ : ∃ ux, ux = usesL bl := ⟨_, rfl⟩
            rw [← hux] at hU f1 f2 f3
            obtain ⟨xa, xm, xr⟩ := ux
            have hand : (bits .andNot .u8 xa ca != 0) = false := by rw [show bits .andNot .u8 xa ca = 0 from f1]; rfl
            have HUU : Hid (Calls Try.prog 35 #[.slice A' l' c'] wr fun e w'' => e = .returned (.tuple #[.agg #[.int .u8 xa, .bool xm, .bool xr], .int .i64 0]) ∧ Below wr.heap.size wr w'') := Lib.hid hU
            have F2 : Hid (xm = true → cm = true) := Lib.hid f2
            have F3 : Hid (xr = true → cr = true) := Lib.hid f3
            have hlq := hq.lt
            clear hU f0 f1 f2 f3 hux hmem hlr hv hq hg
            cases xm <;> cases xr
            all_goals
              have F2' := F2.out
              have F3' := F3.out
              simp only [Bool.false_eq_true, false_imp_iff, forall_const] at F2' F3'
              go_wp2_with (go_at_call 35; refine HUU.out.mono ?_; rintro e wz ⟨rfl, hz⟩; have hqz := HQ4.out.below hz; have z0 := hqz.cell 0 rfl; have z1 := hqz.cell 1 rfl; have z2 := hqz.cell 2 rfl; have zl := hqz.lt)
              all_goals
                go_roundw
                case rel => exact ⟨m + 1, by omega, by go_num, (HV.out.trans (hz.mono HV.out.size)).alloc (Nat.le_trans HV.out.size hz.size) _, hqz.alloc _, (HG.out.below hz).alloc _⟩
                case measure => simp [intOf]; omega
          · obtain rfl : m = 3 := by omega
            clear hv hq hg
            go_wp2_with fail
            go_roundw
            case rel => exact ⟨k + 1, by omega, by go_num, HV.out, HQ4.out⟩
            case measure => simp [intOf]; omega
      · go_wp2_with (go_at_call 17; refine (lives_any _).mono ?_; rintro e w9 ⟨rfl, hb10⟩)
        go_ret
        exact ⟨rfl, hb5.trans ((HU.out.trans (hb10.mono HU.out.size)).mono hb5.size)⟩
end Go.Proofs.Ytnknefdpglnbnaa
