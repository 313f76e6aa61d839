/- CodeNames: the law's walk. -/
import Derived.Test.YtnknefdpglnbnaaMc
import Derived.Test.YtnknefdpglnbnaaLp
namespace Go.Proofs.Ytnknefdpglnbnaa
open Go.RowKit

/-- Texts appended to a row of the call's own. -/
theorem wpList_append_ss {w : World} {ops : Array Oper} {rest : List Oper} {o : Oper} {a : Act} {Q : Exit → Act → World → Prop} (hgd : o.guard = Option.none) (s x : Operand)
    (ho : o.op = .call { callee := .builtin .append, args := #[s, x], argTypes := #[56, 56] }) (base B : Nat) (v : Value) (n : Nat) (xs : List Value) (hs : a.eval s = v) (hown : w.ownsRow base 9 1 v n xs)
    (A : Option Addr) (len cap : Nat) (l : List ByteArray) (hx : a.eval x = .slice A len cap) (hn : A = Option.none → cap = 0) (hl : IsSs w B (.slice A len cap) l) (h63 : n + len ≤ maxLen) (hby : (n + len) * 16 ≤ 140737488355328) (hbase : base ≤ w.heap.size)
    (h : ∀ v' w', w'.ownsRow base 9 1 v' (n + l.length) (xs ++ l.map Value.string) → w.grownBy w' v.ownBlock →
      (v'.ownBlock = v.ownBlock ∨ ∃ g, v'.ownBlock = some g ∧ w.heap.size ≤ g) → wpList Try.prog ops Q rest (a.put o.dst v') w') : wpList Try.prog ops Q (o :: rest) a w := by
  obtain ⟨i0, hi, hz0, hz1, hz2⟩ := info_parts info9
  obtain ⟨hl16, hsz, A', cap', hcap, he, hA⟩ := hl
  simp only [Value.slice.injEq] at he
  obtain ⟨rfl, rfl, rfl⟩ := he
  cases A with
  | none =>
    have hc0 := hn rfl
    have hl0 : l = [] := List.eq_nil_of_length_eq_zero (by omega)
    subst hl0 hc0
    refine wpList_append_own_none hgd s x 56 ho base 9 i0 1 Try.underlying56 hi v n xs hs hown (by simpa using hx) ?_
    refine h v w (by simpa using hown) ⟨rfl, rfl, rfl, Nat.le_refl _, fun _ _ _ => rfl⟩ (.inl rfl)
  | some ad =>
    by_cases hl0 : l = []
    · subst hl0
      refine wpList_append_row w hgd s x 56 ho base 9 i0 (.string ⟨#[]⟩) 1 16 Try.underlying56 hi hz0 hz1 hz2 rfl (by decide) v n xs hs hown ad 0 cap [] (by simpa using hx) rfl (fun j u hj => by simp at hj) (by simp) (by simpa using h63) (by simpa using hby) hbase ?_
      intro v' w' h1 h2 h3
      exact h v' w' (by simpa using h1) h2 h3
    · obtain ⟨b, o', hb, hAe, hp⟩ := hA hl0
      cases hAe
      refine wpList_append_row w hgd s x 56 ho base 9 i0 (.string ⟨#[]⟩) 1 16 Try.underlying56 hi hz0 hz1 hz2 rfl (by decide) v n xs hs hown ⟨b, o', Option.none⟩ l.length cap (l.map Value.string) hx (by simp) (fun j u hj => ?_) (fun u hu => ?_) h63 hby hbase ?_
      · have hj' : j < l.length := by have := (List.getElem?_eq_some_iff.1 hj).1; simpa using this
        rw [show (⟨b, o', Option.none⟩ : Addr).add j = ⟨b, o' + j, Option.none⟩ from by unfold Addr.add; split <;> simp_all]
        rw [hp j hj']
        simp [List.getElem?_eq_getElem hj'] at hj
        rw [hj]
      · obtain ⟨t, _, rfl⟩ := List.mem_map.1 hu
        rfl
      · intro v' w' h1 h2 h3
        exact h v' w' h1 h2 h3
theorem NTops.below {w w' : World} {lo g : Nat} {L : List Nat} (h : NTops w lo g L) (hb : Below w.heap.size w w') : NTops w' lo g L := by
  obtain ⟨⟨cur, h1, h2⟩, h3⟩ := h
  refine ⟨⟨cur, h1.below hb, h2⟩, fun i hi => ?_⟩
  obtain ⟨s, k, m, t, A, l, c, r, h4, h5, h6, h7⟩ := h3 i hi
  exact ⟨s, k, m, t, A, l, c, r, h4.below h1.lt hb, h5, h6, fun hl => by obtain ⟨b', g1, g2, g3⟩ := h7 hl; exact ⟨b', g1, g2, g3.below hb⟩⟩
theorem onlyW_bad (ns : List Na) (ss : List ByteArray) (h : ¬ (onlyW ns ss).2 = 0) : (onlyW ns ss).1 = [] := by
  unfold onlyW at *
  split
  · rename_i h1; simp [h1] at h
  · rfl
theorem onlyW_len (ns : List Na) (ss : List ByteArray) : (onlyW ns ss).1.length ≤ ss.length := by
  unfold onlyW
  split <;> simp
/-- A row of texts of the call's own, cut: it reads as those at its front. -/
theorem row_cut {w : World} {base : Nat} {v : Value} {ss ts : List ByteArray} (h : w.ownsRow base 9 1 v (ss.length + ts.length) ((ss ++ ts).map Value.string)) (hts : 0 < ts.length) (h16 : ss.length * 16 ≤ 140737488351232) (hs : ∀ s ∈ ss, s.size ≤ 140737488351232) :
    ∃ g cap, v = .slice (some ⟨g, 0, Option.none⟩) (ss.length + ts.length) cap ∧ base ≤ g ∧ g < w.heap.size ∧ ss.length + ts.length ≤ cap ∧ IsSs w w.heap.size (.slice (some ⟨g, 0, Option.none⟩) ss.length cap) ss ∧ w.cell? ⟨g, ss.length, Option.none⟩ = some (.string (ts[0]'hts)) := by
  rcases h.2 with ⟨_, h0⟩ | ⟨g, cap, cur, rfl, hb, hg, hcap, _⟩
  · omega
  · refine ⟨g, cap, rfl, hb, lt_of_block hg, hcap, ⟨h16, hs, some ⟨g, 0, Option.none⟩, cap, by omega, rfl, fun _ => ⟨g, 0, lt_of_block hg, rfl, fun i hi => ?_⟩⟩, ?_⟩
    · have := h.cells (g := g) rfl i (.string ss[i]) (by rw [List.getElem?_map, List.getElem?_append_left hi, List.getElem?_eq_getElem hi]; rfl)
      rw [add_lit] at this
      rw [Nat.zero_add]
      exact this
    · have := h.cells (g := g) rfl ss.length (.string (ts[0]'hts)) (by rw [List.getElem?_map, List.getElem?_append_right (Nat.le_refl _), Nat.sub_self, List.getElem?_eq_getElem hts]; rfl)
      rw [add_lit] at this
      exact this
attribute [local irreducible] wpList
set_option maxRecDepth 100000 in
set_option maxHeartbeats 4000000 in
theorem names_walk (ns : List Na) (sx : ByteArray) (ss : List ByteArray) (w : World) (vn vs : Value) (hns : IsNs w w.heap.size vn ns) (hsx : sx.size ≤ 140737488351232) (hss : IsSs w w.heap.size vs ss) (hnil : ∀ n c, vs = .slice Option.none n c → c = 0) :
    Calls Try.prog 7 #[vn, .string sx, vs] w fun e w' => e = .returned (.bool true) ∧ Below w.heap.size w w' := by
  have HN := Lib.hid hns
  have HS := Lib.hid hss
  have HNIL := Lib.hid hnil
  have C18 := Lib.hid (fun w' (hb : Below w.heap.size w w') => ownNames18_any (B := w.heap.size) w' (hns.keep fun b hl => hb.block b hl) hb.size)
  have C37 := Lib.hid (fun w' (hb : Below w.heap.size w w') => Get37_any (B := w.heap.size) sx w' (hns.keep fun b hl => hb.block b hl) hb.size)
  have C24 := Lib.hid (fun w' (hb : Below w.heap.size w w') => MayNames24_any (B := w.heap.size) w' (hns.keep fun b hl => hb.block b hl) hb.size)
  have C38 := Lib.hid (fun w' => mayName_any sx w')
  have C39 := Lib.hid (fun w' => mayName39_any sx w' hsx)
  obtain ⟨An, ncap, rfl, hncap⟩ := hns.list
  obtain ⟨hl16, hszs, As, scap, hscap, rfl, h7⟩ := hss
  have HNILA : Hid (As = Option.none → scap = 0) := Lib.hid (fun e => hnil _ _ (by rw [e]))
  have hnl := hns.1
  obtain ⟨mx, hmx⟩ : ∃ mx, mx = mayN sx := ⟨_, rfl⟩
  rw [← hmx] at C38 C39
  obtain ⟨gb, hgb⟩ : ∃ gb, gb = getB ns sx := ⟨_, rfl⟩
  rw [← hgb] at C37
  clear hns hnil h7 hszs hmx
  by_cases hsh : decide ((ns.length : Int) ≤ 200) = false
  · have C16 := Lib.hid (fun w' => short16_any An ns.length ncap w' _ hsh)
    clear hsh
    go_enter Try.func7, Try.ntmps7
    go_wp2_with (first | (go_at_call 16; refine (C16.out _).mono ?_; rintro e w1 ⟨rfl, rfl⟩) | (go_at_call 17; refine (lives_any _).mono ?_; rintro e w2 ⟨rfl, hb2⟩))
    go_ret
    exact ⟨rfl, hb2⟩
  have C16 := Lib.hid (fun w' => short16_any An ns.length ncap w' _ (by simpa using hsh : decide ((ns.length : Int) ≤ 200) = true))
  clear hsh
  by_cases hs2 : (200 : Int) < ss.length
  · go_enter Try.func7, Try.ntmps7
    go_wp2_with (first | (go_at_call 16; refine (C16.out _).mono ?_; rintro e w1 ⟨rfl, rfl⟩) | (go_at_call 17; refine (lives_any _).mono ?_; rintro e w2 ⟨rfl, hb2⟩))
    go_ret
    exact ⟨rfl, hb2⟩
  have hs3 : ss.length ≤ 200 := by omega
  go_enter Try.func7, Try.ntmps7
  go_upto_region 6 with (first | (go_at_call 16; refine (C16.out _).mono ?_; rintro e w0 ⟨rfl, rfl⟩) | (go_at_call 18; refine (C18.out _ (Below.refl _ _)).mono ?_; rintro e w1 ⟨vin, rfl, hvin, hb1⟩; have C36 := Lib.hid (fun w' (hb : Below w1.heap.size w1 w') => Get_any (B := w1.heap.size) sx w' (hvin.lt.keep fun b hl => hb.block b hl) hb.size); obtain ⟨Ai, icap, rfl, hicap⟩ := hvin.list) | (go_at_call 36; refine (C36.out _ (Below.refl _ _)).mono ?_; rintro e w2 ⟨v1, rfl, hv1, hb2⟩; obtain ⟨k1, n1, s1, A1, len1, cap1, r1, rfl⟩ := hv1.shape; have hB2 := hb1.trans ((hb2.alloc hb2.size (.cells #[.int .u8 k1, .int .i64 n1, .string s1, .slice A1 len1 cap1, .int .i64 r1] 34)).mono hb1.size)) | (go_at_call 37; refine (C37.out _ hB2).mono ?_; rintro e w3 ⟨v2, rfl, hv2, hb3⟩; obtain ⟨k2, n2, s2, A2, len2, cap2, r2, rfl⟩ := hv2.shape))
  obtain ⟨W5, hW5⟩ : ∃ W5, W5 = w3.alloc (.cells #[.int .u8 k2, .int .i64 n2, .string s2, .slice A2 len2 cap2, .int .i64 r2] 34) := ⟨_, rfl⟩
  rw [← hW5]
  have hb35 : Below w3.heap.size w3 W5 := by rw [hW5]; exact (Below.refl _ _).alloc (Nat.le_refl _) _
  have hb25 : Below w2.heap.size w2 W5 := bnext ((Below.refl _ _).alloc (Nat.le_refl _) (.cells #[.int .u8 k1, .int .i64 n1, .string s1, .slice A1 len1 cap1, .int .i64 r1] 34)) (bnext hb3 hb35)
  have hB15 : Below w1.heap.size w1 W5 := bnext hb2 hb25
  have hB5 : Below w.heap.size w W5 := bnext hb1 hB15
  have HT8 : Hid (BlkN W5 w2.heap.size 34 #[.int .u8 k1, .int .i64 n1, .string s1, .slice A1 len1 cap1, .int .i64 r1]) := Lib.hid ((BlkN.at_ (w := w2) rfl 34 #[.int .u8 k1, .int .i64 n1, .string s1, .slice A1 len1 cap1, .int .i64 r1]).below (bnext hb3 hb35))
  have HT10 : Hid (BlkN W5 w3.heap.size 34 #[.int .u8 k2, .int .i64 n2, .string s2, .slice A2 len2 cap2, .int .i64 r2]) := Lib.hid (by rw [hW5]; exact BlkN.at_ rfl _ _)
  have HX1 : Hid (IsVa W5 w2.heap.size (.agg #[.int .u8 k1, .int .i64 n1, .string s1, .slice A1 len1 cap1, .int .i64 r1]) (getX ns sx)) := Lib.hid (IsVa.keep (fun b hb => hb25.block b hb) hv1.ownLt)
  have HX2 : Hid (IsVa W5 w.heap.size (.agg #[.int .u8 k2, .int .i64 n2, .string s2, .slice A2 len2 cap2, .int .i64 r2]) (rawX ns sx)) := Lib.hid (IsVa.keep (fun b hb => hb35.block b (by have := hb1.size; have := hb2.size; have := hb3.size; simp at this; omega)) hv2)
  have HIN : Hid (IsNs w1 w1.heap.size (.slice Ai ns.length icap) ns) := Lib.hid hvin.lt
  have C40 := Lib.hid (fun w' (hb : Below w1.heap.size w1 w') => MayNames_any (B := w1.heap.size) w' (HIN.out.keep fun b hl => hb.block b hl) hb.size)
  have hgetx := getX_raw ns sx
  have HGX := Lib.hid hgetx
  have C23 := Lib.hid (fun w' (hb : Below W5.heap.size W5 w') => Same23_any (getX ns sx) (rawX ns sx) w' w2.heap.size w.heap.size (.agg #[.int .u8 k1, .int .i64 n1, .string s1, .slice A1 len1 cap1, .int .i64 r1]) (.agg #[.int .u8 k2, .int .i64 n2, .string s2, .slice A2 len2 cap2, .int .i64 r2]) (IsVa.keep (fun b hl => hb.block b (Nat.lt_of_lt_of_le hl hb25.size)) HX1.out) (IsVa.keep (fun b hl => hb.block b (Nat.lt_of_lt_of_le hl hB5.size)) HX2.out) (Nat.le_trans hb25.size hb.size) (Nat.le_trans hB5.size hb.size))
  obtain ⟨mn, hmn⟩ : ∃ mn, mn = mayNs ns := ⟨_, rfl⟩
  rw [← hmn] at C24 C40
  have HMN := Lib.hid hmn
  have HB5 := Lib.hid hB5
  have HB15 := Lib.hid hB15
  have HB1 := Lib.hid hb1
  have hr55 : Below W5.heap.size W5 W5 := Below.refl _ _
  have hmm : (mx != mx) = false := by simp
  have hgg : (gb != gb) = false := by simp
  clear hW5 hb35 hb25 hb1 hb2 hb3 hB2 hv1 hv2 hvin hgetx hmn C36 C37 C18 C16
  cases mn
  focus
    go_upto_region 8 with (first | (go_at_call 38; refine (C38.out _).mono ?_; rintro e wn ⟨rfl, hbn⟩; have hBn : Below w.heap.size w wn := bnext (by assumption) hbn; have hBn1 : Below w1.heap.size w1 wn := bnext (by assumption) hbn; have hBn5 : Below W5.heap.size W5 wn := bnext (by assumption) hbn) | (go_at_call 39; refine (C39.out _).mono ?_; rintro e wn2 ⟨rfl, rfl⟩) | (go_at_call 40; refine (C40.out _ (by assumption)).mono ?_; rintro e wn ⟨rfl, hbn⟩; have hBn : Below w.heap.size w wn := bnext (by assumption) hbn; have hBn1 : Below w1.heap.size w1 wn := bnext (by assumption) hbn; have hBn5 : Below W5.heap.size W5 wn := bnext (by assumption) hbn) | (go_at_call 24; refine (C24.out _ (by assumption)).mono ?_; rintro e wn ⟨rfl, hbn⟩; have hBn : Below w.heap.size w wn := bnext (by assumption) hbn; have hBn1 : Below w1.heap.size w1 wn := bnext (by assumption) hbn; have hBn5 : Below W5.heap.size W5 wn := bnext (by assumption) hbn))
  rotate_left
  focus
    rw [HGX.out HMN.out.symm, sameV_refl] at C23
    go_upto_region 8 with (first | (go_at_call 38; refine (C38.out _).mono ?_; rintro e wn ⟨rfl, hbn⟩; have hBn : Below w.heap.size w wn := bnext (by assumption) hbn; have hBn1 : Below w1.heap.size w1 wn := bnext (by assumption) hbn; have hBn5 : Below W5.heap.size W5 wn := bnext (by assumption) hbn) | (go_at_call 39; refine (C39.out _).mono ?_; rintro e wn2 ⟨rfl, rfl⟩) | (go_at_call 40; refine (C40.out _ (by assumption)).mono ?_; rintro e wn ⟨rfl, hbn⟩; have hBn : Below w.heap.size w wn := bnext (by assumption) hbn; have hBn1 : Below w1.heap.size w1 wn := bnext (by assumption) hbn; have hBn5 : Below W5.heap.size W5 wn := bnext (by assumption) hbn) | (go_at_call 24; refine (C24.out _ (by assumption)).mono ?_; rintro e wn ⟨rfl, hbn⟩; have hBn : Below w.heap.size w wn := bnext (by assumption) hbn; have hBn1 : Below w1.heap.size w1 wn := bnext (by assumption) hbn; have hBn5 : Below W5.heap.size W5 wn := bnext (by assumption) hbn; have ht8 := HT8.out.below hBn5; have ht10 := HT10.out.below hBn5; have t0 := ht8.cell 0 rfl; have t1 := ht8.cell 1 rfl; have t2 := ht8.cell 2 rfl; have t3 := ht8.cell 3 rfl; have t4 := ht8.cell 4 rfl; have u0 := ht10.cell 0 rfl; have u1 := ht10.cell 1 rfl; have u2 := ht10.cell 2 rfl; have u3 := ht10.cell 3 rfl; have u4 := ht10.cell 4 rfl) | (go_at_call 23; refine (C23.out _ (by assumption)).mono ?_; rintro e wn ⟨rfl, hbn⟩; have hBn : Below w.heap.size w wn := bnext (by assumption) hbn; have hBn1 : Below w1.heap.size w1 wn := bnext (by assumption) hbn; have hBn5 : Below W5.heap.size W5 wn := bnext (by assumption) hbn))
  all_goals
    have HBn := Lib.hid hBn
    have HBn1 := Lib.hid hBn1
    clear hmm hgg hr55 hBn hBn1 hBn5 hbn C23 HX1 HX2 HT8 HT10 C38 C39 C40
    obtain ⟨W8, rfl⟩ : ∃ W8, W8 = wn := ⟨_, rfl⟩
    obtain ⟨i0, hi, hz0, hz1, hz2⟩ := info_parts info9
    have HIF := Lib.hid hi
    clear hi
    refine wp_region_lit ?_
    refine wpList_move rfl (.tmp 2) rfl ?_
    refine wpList_append_ss rfl (.const (.slice Option.none 0 0)) (.tmp 67) rfl W8.heap.size w.heap.size (.slice Option.none 0 0) 0 [] rfl (World.ownsRow_nil _ _ _ _) As ss.length scap ss rfl HNILA.out (IsSsR.keep (fun b o hb => HBn.out.block b hb) HS.out) (by unfold maxLen; omega) (by omega) (Nat.le_refl _) ?_
    intro va wa hown1 hg1 hor1
    rw [Nat.zero_add, List.nil_append] at hown1
    have HO1 := Lib.hid hown1
    have hba : Below W8.heap.size W8 wa := ⟨hg1.os, hg1.tape, hg1.output, hg1.size, fun k hk => hg1.block k hk (by simp [Value.ownBlock])⟩
    have HBA := Lib.hid hba
    have hva : ∀ g, va.ownBlock = some g → W8.heap.size ≤ g := fun g hg => by
      rcases hown1.2 with ⟨rfl, _⟩ | ⟨g', _, _, rfl, hb, _⟩
      · cases hg
      · simp [Value.ownBlock] at hg; omega
    have HVA := Lib.hid hva
    clear hown1 hg1 hor1 hba hva
    go_wp2_with (refine wpList_append_row _ rfl (.tmp 68) (.tmp 69) 56 rfl W8.heap.size 9 i0 (.string ⟨#[]⟩) 1 16 Try.underlying56 HIF.out hz0 hz1 hz2 rfl (by decide) va ss.length (ss.map Value.string) rfl ?hy1 ⟨wa.heap.size, 0, Option.none⟩ 2 2 [.string ⟨#[120]⟩, .string ⟨#[121]⟩] rfl rfl ?hy2 ?hy3 ?hy4 ?hy5 ?hy6 ?_)
    case hy1 => exact own_below HO1.out ((Below.refl _ _).alloc (Nat.le_refl _) _)
    case hy2 => exact row_new _ _ _
    case hy3 => intro u hu; simp only [List.mem_cons, List.not_mem_nil, or_false] at hu; rcases hu with rfl | rfl <;> rfl
    case hy4 => unfold maxLen; omega
    case hy5 => omega
    case hy6 => have := HBA.out.size; simp; omega
    intro vb wb hown2 hg2 hor2
    have hbb : Below W8.heap.size W8 wb := (HBA.out.alloc HBA.out.size _).grown hg2 (by have := HBA.out.size; simp; omega) (fun g hg => HVA.out g hg)
    obtain ⟨gw, capw, rfl, hgw, hgl, hcapw, hsw, hcw⟩ := row_cut (ss := ss) (ts := [⟨#[120]⟩, ⟨#[121]⟩]) (by simpa using hown2) (by decide) hl16 HS.out.2.1
    have hcw1 : ss.length ≤ capw := by simp at hcapw; omega
    have hcw2 : ss.length + 2 ≤ capw := by simpa using hcapw
    have HSW := Lib.hid hsw
    have HCW := Lib.hid hcw
    have HBB := Lib.hid hbb
    have HBw := Lib.hid (bnext HBn.out hbb)
    have HB1w := Lib.hid (bnext HBn1.out hbb)
    clear hown2 hg2 hor2 hbb hcapw hsw hcw
    have hbad := onlyW_bad ns ss
    have hlen := onlyW_len ns ss
    have C41 := Lib.hid (Only41_any (B := wb.heap.size) wb (IsNsR.mono (fun b o hr => Nat.lt_of_lt_of_le hr HB1w.out.size) (HIN.out.keep fun b hb => HB1w.out.block b hb)) HSW.out (Nat.le_refl _) (by omega))
    have C42 := Lib.hid (fun w' (hb : Below w.heap.size w w') => Only42_any (B := w.heap.size) w' (HN.out.keep fun b hl => hb.block b hl) (IsSsR.keep (fun b o hl => hb.block b hl) HS.out) hb.size (by omega))
    obtain ⟨WO, hWO⟩ : ∃ WO, WO = onlyW ns ss := ⟨_, rfl⟩
    rw [← hWO] at C41 C42 hbad hlen
    obtain ⟨ol, fo⟩ := WO
    simp only at hbad hlen
    have HBAD := Lib.hid hbad
    have C43 := Lib.hid (fun w' (hb : Below wb.heap.size wb w') => same43_any (B := wb.heap.size) (C := w.heap.size) w' (IsSsR.keep (fun b o hl => hb.block b hl) HSW.out) (IsSsR.keep (fun b o hl => (bnext HBw.out hb).block b hl) HS.out) hb.size (bnext HBw.out hb).size)
    rw [sameSs_refl] at C43
    clear hWO hbad
    have hol : ol.length ≤ 140737488351232 := by omega
    have hol2 : ol.length * 80 ≤ 140737488351232 := by omega
    go_upto_region 11 with (first | (go_at_call 41; refine C41.out.mono ?_; rintro e w41 ⟨vl, rfl, hvl, hb41⟩; obtain ⟨Al, cl, gl, Ll, rfl, hcl, hLl⟩ := ntops_of (show Own73 RdN34 w41 0 wb.heap.size vl ol from hvl) hol) | (go_at_call 42; refine (C42.out _ (bnext HBw.out hb41)).mono ?_; rintro e w42 ⟨vm, rfl, hvm, hb42⟩))
    have hvl' : Own73 RdN34 w41 0 wb.heap.size (.slice Al ol.length cl) ol := hvl
    have hvm' : Own73 RdN w42 w.heap.size w41.heap.size vm ol := hvm
    have hbb42 := bnext hb41 hb42
    have HNL : Hid (IsNs w42 w42.heap.size (.slice Al ol.length cl) ol) := Lib.hid ((hvl'.below hb42).names RdN34.plain hol2)
    have HNM : Hid (IsNs w42 w42.heap.size vm ol) := Lib.hid (hvm'.names id hol2)
    have HLL : Hid (0 < ol.length → Al = some ⟨gl, 0, Option.none⟩ ∧ wb.heap.size ≤ gl ∧ Ll.length = ol.length ∧ (∀ x ∈ Ll, x ≤ 140737488351232) ∧ NTops w42 wb.heap.size gl Ll) := Lib.hid (fun h => ⟨(hLl h).1, (hLl h).2.1, (hLl h).2.2.1, (hLl h).2.2.2.1, (hLl h).2.2.2.2.below hb42⟩)
    obtain ⟨Am, mcap, hm, hmcap⟩ := HNM.out.list
    subst hm
    have HB42 := Lib.hid hbb42
    have hxx : ((⟨#[120]⟩ : ByteArray).toList != (⟨#[120]⟩ : ByteArray).toList) = false := by simp
    have hff : (fo != fo) = false := by simp
    clear hvl hvm hvl' hvm' hLl hb41 hb42 hbb42
    by_cases hfo : fo = 0
    · subst hfo
      clear HBAD
      have C25 := Lib.hid (fun w' (hb : Below w42.heap.size w42 w') => sameNames25_any (B := w42.heap.size) (C := w42.heap.size) w' (IsNsR.keep (fun b o hl => hb.block b hl) HNL.out) (IsNsR.keep (fun b o hl => hb.block b hl) HNM.out) hb.size hb.size)
      rw [sameNs_refl] at C25
      go_upto_region 17 with (first | (go_at_call 43; refine (C43.out _ HB42.out).mono ?_; rintro e w43 ⟨rfl, hb43⟩; have hcx := (World.cell?_of_block (w := wb) (w' := w43) (a := ⟨gw, ss.length, Option.none⟩) ((bnext HB42.out hb43).block gw hgl)).trans HCW.out) | (go_at_call 25; refine (C25.out _ hb43).mono ?_; rintro e w44 ⟨rfl, hb44⟩))
      have hb4 := bnext hb43 hb44
      have hb4w := bnext HB42.out hb4
      have C44 := Lib.hid (spoilNames44_any Al ol.length cl wb.heap.size gl Ll w44 hb4w.size hcl hol (fun h => ⟨(HLL.out h).1, (HLL.out h).2.1, (HLL.out h).2.2.1, (HLL.out h).2.2.2.1, (HLL.out h).2.2.2.2.below hb4⟩))
      have HB44 := Lib.hid hb4w
      clear C25 hb43 hb44 hb4 hb4w hcx
      go_upto_region 18 with (go_at_call 44; refine C44.out.mono ?_; rintro e w46 ⟨rfl, hb46⟩)
      have hbz : Below wb.heap.size wb w46 := HB44.out.trans hb46
      have hin : IsNs w46 w1.heap.size (.slice Ai ns.length icap) ns := IsNsR.keep (fun b o hl => (hbz.block b (Nat.lt_of_lt_of_le hl HB1w.out.size)).trans (HB1w.out.block b hl)) HIN.out
      have hbz' := bnext HBw.out hbz
      have C25 := Lib.hid (sameNames25_any (B := w1.heap.size) (C := w.heap.size) w46 hin (HN.out.keep fun b hl => hbz'.block b hl) (Nat.le_trans HB1w.out.size hbz.size) hbz'.size)
      rw [sameNs_refl] at C25
      have HBZ := Lib.hid hbz'
      clear hbz hin hbz' hb46
      go_wp2_with (first | (go_at_call 25; refine C25.out.mono ?_; rintro e w47 ⟨rfl, hb47⟩) | (go_at_call 17; refine (lives_any _).mono ?_; rintro e w48 ⟨rfl, hb48⟩))
      go_ret
      exact ⟨rfl, bnext (bnext HBZ.out hb47) hb48⟩
    · have hf1 : (fo != 0) = true := by simpa using hfo
      have hol0 := HBAD.out hfo
      subst hol0
      clear hfo
      go_wp2_with (first | (go_at_call 43; refine (C43.out _ HB42.out).mono ?_; rintro e w43 ⟨rfl, hb43⟩; have hcx := (World.cell?_of_block (w := wb) (w' := w43) (a := ⟨gw, ss.length, Option.none⟩) ((bnext HB42.out hb43).block gw hgl)).trans HCW.out) | (go_at_call 17; refine (lives_any _).mono ?_; rintro e w45 ⟨rfl, hb45⟩))
      go_ret
      exact ⟨rfl, bnext HBw.out (bnext (bnext HB42.out hb43) hb45)⟩
end Go.Proofs.Ytnknefdpglnbnaa
