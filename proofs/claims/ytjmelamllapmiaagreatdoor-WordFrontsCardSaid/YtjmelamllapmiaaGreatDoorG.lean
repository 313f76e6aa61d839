/- The reader of package word: list, given value one level down. -/
import Derived.Test.YtjmelamllapmiaaGreatDoorF
namespace Go.Proofs.YtjmelamllapmiaaGreatDoor
open Go.RowKit

theorem wpList_append_va (w : World) {ops : Array Oper} {rest : List Oper} {o : Oper} {a : Act} {Q : Exit → Act → World → Prop} (hgd : o.guard = Option.none) (s x : Operand)
    (ho : o.op = .call { callee := .builtin .append, args := #[s, x], argTypes := #[24, 24] })
    (lo lo2 : Nat) (v : Value) (vs : List Va) (xs : List Value) (hs : a.eval s = v) (hown : VRow w lo v vs xs) (g : Nat) (c0 c1 c2 c3 c4 : Value) (y : Va) (hx : a.eval x = .slice (some ⟨g, 0, Option.none⟩) 1 1)
    (hg : BlkN w g 27 #[c0, c1, c2, c3, c4]) (hy : IsVaR w (Own34 w lo2) (.agg #[c0, c1, c2, c3, c4]) y) (hlo : lo ≤ lo2) (hlt : ∀ b, v.ownBlock = some b → b < lo2) (hlen : vs.length ≤ 1000000) (hbase : lo ≤ w.heap.size)
    (h : ∀ v' w' xs', VRow w' lo v' (vs ++ [y]) xs' → w.grownBy w' v.ownBlock → wpList Tryz.prog ops Q rest (a.put o.dst v') w') : wpList Tryz.prog ops Q (o :: rest) a w := by
  obtain ⟨i0, hi, hz0, hz1, hz2⟩ := info_parts info34
  refine wpList_append_row w hgd s x 24 ho lo 27 i0 (.agg zeroV) 5 64 Tryz.underlying24 hi hz0 hz1 hz2 rfl (by decide) v vs.length xs hs hown.1 ⟨g, 0, Option.none⟩ 1 1 [c0, c1, c2, c3, c4] hx rfl (fun j u hu => ?_) (fun u hu => ?_) (by unfold maxLen; omega) (by omega) hbase ?_
  · rw [add_lit, hg.cell_eq]
    simpa using hu
  · obtain ⟨k, n, t, A, len, cap, r, rfl, rfl, rfl, rfl, rfl⟩ := hy.cells
    simp only [List.mem_cons, List.not_mem_nil, or_false] at hu
    rcases hu with rfl | rfl | rfl | rfl | rfl <;> rfl
  · intro v' w' h1 h2 h3
    exact h v' w' _ (VRow.push hown hy hlo hlt h1 h2 h3) h2
/-- What is said of value, so many lists around it. -/
def ValC (nest : Nat) : Prop := ∀ (s : ByteArray) (i k : Nat) (w : World) (p : Nat), Rdr w p s i k → i ≤ s.size → s.size ≤ 140737488351232 → k < 512 →
  Calls Tryz.prog 105 #[.pointer (some ⟨p, 0, Option.none⟩), .int .i64 ((16 : Int) - nest)] w fun e w' => Upd p w w' ∧ RsP (rdV nest (rest s i) k) s i e (fun x j => ∃ v, e = .returned v ∧ IsVaR w' (Own34 w' w.heap.size) v x.1 ∧ Rdr w' p s j x.2)
def LstC (nest : Nat) : Prop := ∀ (s : ByteArray) (i k : Nat) (w : World) (p : Nat), Rdr w p s i k → i ≤ s.size → s.size ≤ 140737488351232 → k ≤ 512 →
  Calls Tryz.prog 163 #[.pointer (some ⟨p, 0, Option.none⟩), .int .i64 ((16 : Int) - nest)] w fun e w' => Upd p w w' ∧ RsP (lsV (rdV nest) 514 (rest s i) k []) s i e (fun x j => ∃ v xs, e = .returned v ∧ VRow w' w.heap.size v x.1 xs ∧ Rdr w' p s j x.2)
/-- A value has parts, and no more than may be. -/
def Part (f : L8 → Nat → Rs (Va × Nat)) : Prop := ∀ t k x r, k < 512 → f t k = .ok x r → k < x.2 ∧ x.2 ≤ 512
theorem lsV_part {f : L8 → Nat → Rs (Va × Nat)} (hf : Part f) : ∀ (n : Nat) (t : L8) (k : Nat) (l : List Va) x r, k ≤ 512 → lsV f n t k l = .ok x r → k ≤ x.2 ∧ x.2 ≤ 512
  | 0, t, k, l, x, r, _, h => by simp [lsV] at h
  | n + 1, [], k, l, x, r, _, h => by simp [lsV] at h
  | n + 1, c :: t, k, l, x, r, hk, h => by
    rw [lsV] at h
    by_cases hc : c = 93
    · rw [if_pos hc] at h
      injection h with h1 h2
      subst h1
      exact ⟨Nat.le_refl _, hk⟩
    · rw [if_neg hc] at h
      by_cases hb : 512 ≤ k ∨ l ≠ [] ∧ c ≠ 32
      · rw [if_pos hb] at h; cases h
      · rw [if_neg hb] at h
        cases he : f (if l = [] then c :: t else t) k with
        | no r' => rw [he] at h; cases h
        | ok y r' =>
          obtain ⟨v, q⟩ := y
          rw [he] at h
          have h1 := hf _ _ _ _ (by omega) he
          have h2 := lsV_part hf n r' q (l ++ [v]) x r h1.2 h
          exact ⟨by have := h1.1; simp only at this; omega, h2.2⟩
theorem rdV_part (nest : Nat) : Part (rdV nest) := by
  induction nest with
  | zero =>
    intro t k x r hk h
    cases t with
    | nil => simp [rdV] at h
    | cons c t =>
      unfold rdV at h
      repeat' (split at h)
      all_goals first
        | (injection h with h1 h2; subst h1; simp only; omega)
        | cases h
  | succ n ih =>
    intro t k x r hk h
    cases t with
    | nil => simp [rdV] at h
    | cons c t =>
      unfold rdV at h
      simp only at h
      repeat' (split at h)
      all_goals first
        | (injection h with h1 h2; subst h1; simp only; omega)
        | (rename_i heq; injection h with h1 h2; subst h1; have := lsV_part ih _ _ _ _ _ _ (by omega) heq; simp only at this ⊢; omega)
        | cases h
attribute [local irreducible] wpList
set_option maxRecDepth 100000 in
set_option maxHeartbeats 4000000 in
theorem list_step (n : Nat) (hV : ValC n) : LstC n := by
  intro s i k w p h hi hs hk
  have HR := Lib.hid h
  have hp := h.lt
  obtain ⟨R, hR⟩ : ∃ R, R = lsV (rdV n) 514 (rest s i) k [] := ⟨_, rfl⟩
  have HQ : Hid (lsV (rdV n) 514 (rest s i) k [] = R) := Lib.hid hR.symm
  have HV := Lib.hid hV
  rw [← hR]
  clear h hR hV
  go_enter Tryz.func163, Tryz.ntmps163
  go_wp2_with fail
  go_loopw [5, 6] (fun v c wr => ∃ (j m : Nat) (vs : List Va) (xs : List Value), i ≤ j ∧ j ≤ s.size ∧ vs.length ≤ m ∧ m ≤ 512 ∧ Rdr wr p s j m ∧ VRow wr w.heap.size v vs xs ∧ Upd p w wr ∧ lsV (rdV n) (514 - vs.length) (rest s j) m vs = R ∧ (vs = [] → j = i)) (fun _ _ wr => s.size - posOf wr p)
  case atStart => exact ⟨i, k, [], [], Nat.le_refl _, hi, by simp, hk, HR.out, VRow.nil _ _, Upd.refl p w, HQ.out, fun _ => rfl⟩
  case round =>
    obtain ⟨j, m, vs, xs, hij, hj, hvm, hm, hr, hv, hu, hq, hvj⟩ := hrel
    have HRJ := Lib.hid hr
    have HVJ := Lib.hid hv
    have HUJ := Lib.hid hu
    obtain ⟨f, hf⟩ : ∃ f, 514 - vs.length = f + 1 := ⟨513 - vs.length, by omega⟩
    rw [hf] at hq
    have HQJ := Lib.hid hq
    have HF := Lib.hid hf
    clear hr hu hq hf
    obtain ⟨A, cap, hsl, hcap, _⟩ := hv.list
    subst hsl
    clear hv
    have hpr := HRJ.out.lt
    by_cases hjl : j < s.size
    rotate_left
    · have CE := Lib.hid (next_end HRJ.out hj (by omega))
      go_wp2_with (first | (go_at_call 161; refine CE.out.mono ?_; rintro e w2 ⟨rfl, hb2⟩))
      refine ⟨rfl, HUJ.out.below hb2, ?_⟩
      rw [← HQJ.out, rest_end (by omega)]
      exact ⟨s.size, Nat.le_refl _, (rest_end (Nat.le_refl _)).symm, rfl⟩
    obtain ⟨d, hd⟩ : ∃ d, d = s[j] := ⟨_, rfl⟩
    have HRD : Hid (rest s j = d :: rest s (j + 1)) := Lib.hid (by rw [rest_cons hjl, hd])
    have CD := Lib.hid (next_at HRJ.out hjl hd)
    clear hd
    have hd0 : d.toNat < 256 := d.toNat_lt
    by_cases h93 : d = 93
    · subst h93
      go_wp2_with (first | (go_at_call 161; refine CD.out.mono ?_; rintro e w2 ⟨rfl, hb2⟩; have hr2 := HRJ.out.below hb2; have hp2 := hr2.lt; have c1 := hr2.cell 1 rfl; have f1 := hr2.free 1; have HR2 := Lib.hid hr2; have HB2 := Lib.hid hb2; clear hb2 hr2))
      go_ret
      refine ⟨(HUJ.out.below HB2.out).set 1 _, ?_⟩
      rw [← HQJ.out, HRD.out]
      exact ⟨j + 1, by omega, by omega, rfl, _, xs, rfl, (HVJ.out.below HB2.out).upd ((Upd.refl p w2).set 1 _) hp, Rdr.adv HR2.out⟩
    have hne : ((d.toNat : Int) == 93) = false := u8_beq (n := 93) (by decide) h93
    by_cases hbad : 512 ≤ m ∨ (vs ≠ [] ∧ d ≠ 32)
    · have HBAD := Lib.hid hbad
      have hq0 : R = .no (rest s j) := by rw [← HQJ.out, HRD.out, lsV, if_neg h93, if_pos hbad]
      have HQ0 := Lib.hid hq0
      have hlen : vs ≠ [] → 0 < vs.length := fun h => by cases vs with | nil => exact absurd rfl h | cons => simp
      have hcase : 512 ≤ m ∨ (m < 512 ∧ 0 < vs.length ∧ ((d.toNat : Int) != 32) = true) := by
        rcases hbad with h | ⟨h1, h2⟩
        · exact .inl h
        · by_cases h512 : 512 ≤ m
          · exact .inl h512
          · exact .inr ⟨by omega, hlen h1, u8_bne (n := 32) (by decide) h2⟩
      clear hbad hq0 hlen
      rcases hcase with hm5 | ⟨hm5, hlen, hd32⟩
      all_goals
        go_wp2_with (first | (go_at_call 161; refine CD.out.mono ?_; rintro e w2 ⟨rfl, hb2⟩; have hr2 := HRJ.out.below hb2; have hp2 := hr2.lt; have c2 := hr2.cell 2 rfl; have HR2 := Lib.hid hr2; have HB2 := Lib.hid hb2; clear hb2 hr2) | (go_at_call 81; refine (wrong_any s j m _ p HR2.out).mono ?_; rintro e w3 ⟨hb3, rfl⟩))
        refine ⟨rfl, HUJ.out.below (bnext HB2.out hb3), ?_⟩
        rw [HQ0.out]
        exact ⟨j, hj, rfl, rfl⟩
    have hm5 : m < 512 := by omega
    have hls := show R = match rdV n (if vs = [] then d :: rest s (j + 1) else rest s (j + 1)) m with | .ok (v, q) r => lsV (rdV n) f r q (vs ++ [v]) | .no r => .no r by rw [← HQJ.out, HRD.out, lsV, if_neg h93, if_neg hbad]; rfl
    by_cases hvs : vs = []
    · rw [if_pos hvs, ← HRD.out] at hls
      subst hvs
      have HLS := Lib.hid hls
      clear hls hbad hvj
      go_upto_region 10 with (first | (go_at_call 161; refine CD.out.mono ?_; rintro e w2 ⟨rfl, hb2⟩; have hr2 := HRJ.out.below hb2; have hp2 := hr2.lt; have c2 := hr2.cell 2 rfl; have HR2 := Lib.hid hr2; have HB2 := Lib.hid hb2; clear hb2 hr2))
      obtain ⟨W, hW⟩ : ∃ W, W = w2 := ⟨_, rfl⟩
      have HR3 : Hid (Rdr W p s j m) := Lib.hid (by rw [hW]; exact HR2.out)
      have HU3 : Hid (Upd p w W) := Lib.hid (by rw [hW]; exact HUJ.out.below HB2.out)
      have HV3 : Hid (VRow W w.heap.size (.slice A 0 cap) [] xs) := Lib.hid (by rw [hW]; exact HVJ.out.below HB2.out)
      rw [← hW]
      clear hW HR2 HB2 c2 hp2
      have hob : ∀ g, (Value.slice A 0 cap).ownBlock = some g → w.heap.size ≤ g ∧ g < W.heap.size := fun g hg => HV3.out.blk hg
      have CV := HV.out s j m W p HR3.out (by omega) hs hm5
      cases hE : rdV n (rest s j) m with
      | no t =>
        rw [hE] at CV HLS
        have HCV := Lib.hid CV
        clear CV hE
        go_wp2_with (first | (go_at_call 105; refine HCV.out.mono ?_; rintro e w3 ⟨hu3, j2, hj2, rfl, rfl⟩))
        refine ⟨rfl, HU3.out.trans hu3, ?_⟩
        rw [HLS.out]
        exact ⟨j2, hj2, rfl, rfl⟩
      | ok y t =>
        obtain ⟨x, m2⟩ := y
        have hpt := rdV_part n _ _ _ _ hm5 hE
        simp only at hpt
        rw [hE] at CV HLS
        have HCV := Lib.hid CV
        clear CV hE
        go_wp2_with (first
          | (go_at_call 105; refine HCV.out.mono ?_; rintro e w3 ⟨hu3, j2, hjj, hj2, rfl, v3, rfl, hv3, hr3⟩; obtain ⟨k3, n3, s3, A3, len3, cap3, r3, rfl⟩ := hv3.shape; have HX3 := Lib.hid hv3; have HR4 := Lib.hid hr3; have HU4 := Lib.hid (HU3.out.trans hu3); have HV4 := Lib.hid (HV3.out.upd hu3 hp); have hs4 := hu3.size; have hs3 := HU3.out.size; clear hr3 hu3 hv3)
          | (refine wpList_append_va _ rfl (.tmp 45) (.tmp 49) rfl w.heap.size W.heap.size (.slice A 0 cap) [] xs rfl (HV4.out.below ((Below.refl _ w3).alloc (Nat.le_refl _) (.cells #[.int .u8 k3, .int .i64 n3, .string s3, .slice A3 len3 cap3, .int .i64 r3] 27))) w3.heap.size (.int .u8 k3) (.int .i64 n3) (.string s3) (.slice A3 len3 cap3) (.int .i64 r3) x rfl (BlkN.at_ rfl 27 _) (HX3.out.below ((Below.refl _ w3).alloc (Nat.le_refl _) _)) hs3 (fun g hg => (hob g hg).2) (by omega) (by simp; omega) ?_
             intro v' w4 xs' hv5 hg5
             have HR5 := Lib.hid (Rdr.grown (BlkN.alloc HR4.out (.cells #[.int .u8 k3, .int .i64 n3, .string s3, .slice A3 len3 cap3, .int .i64 r3] 27)) hg5 (fun g hg => by have := (hob g hg).1; omega))
             have HV5 := Lib.hid hv5
             have HU5 := Lib.hid (Upd.grown (HU4.out.alloc (.cells #[.int .u8 k3, .int .i64 n3, .string s3, .slice A3 len3 cap3, .int .i64 r3] 27)) hg5 (fun g hg => (hob g hg).1))
             clear hv5 hg5))
        have hf2 : 514 - (([] ++ [x] : List Va)).length = f := by have := HF.out; simp at this ⊢; omega
        go_roundw
        case rel => exact ⟨j2, m2, [] ++ [x], xs', by omega, hj2, by simp; omega, by omega, HR5.out, HV5.out, HU5.out, by rw [HLS.out, hf2], fun h => by simp at h⟩
        case measure => rw [HR5.out.pos, HRJ.out.pos]; omega
    · have hl0 : 0 < vs.length := by cases vs with | nil => exact absurd rfl hvs | cons => simp
      have h32 : d = 32 := Decidable.byContradiction fun e => hbad (.inr ⟨hvs, e⟩)
      subst h32
      rw [if_neg hvs] at hls
      have HLS := Lib.hid hls
      clear hls hbad hvj
      go_upto_region 10 with (first | (go_at_call 161; refine CD.out.mono ?_; rintro e w2 ⟨rfl, hb2⟩; have hr2 := HRJ.out.below hb2; have hp2 := hr2.lt; have c1 := hr2.cell 1 rfl; have f1 := hr2.free 1; have c2 := hr2.cell 2 rfl; have HR2 := Lib.hid hr2; have HB2 := Lib.hid hb2; clear hb2 hr2))
      obtain ⟨W, hW⟩ : ∃ W, W = w2.setCell ⟨p, 1, Option.none⟩ (.int .i64 ((j : Int) + 1)) := ⟨_, rfl⟩
      have HR3 : Hid (Rdr W p s (j + 1) m) := Lib.hid (by rw [hW]; exact Rdr.adv HR2.out)
      have HU3 : Hid (Upd p w W) := Lib.hid (by rw [hW]; exact (HUJ.out.below HB2.out).set 1 _)
      have HV3 : Hid (VRow W w.heap.size (.slice A vs.length cap) vs xs) := Lib.hid (by rw [hW]; exact (HVJ.out.below HB2.out).upd ((Upd.refl p w2).set 1 _) hp)
      clear c1 f1
      rw [← hW]
      clear hW HR2 HB2 c2 hp2
      have hob : ∀ g, (Value.slice A vs.length cap).ownBlock = some g → w.heap.size ≤ g ∧ g < W.heap.size := fun g hg => HV3.out.blk hg
      have CV := HV.out s (j + 1) m W p HR3.out (by omega) hs hm5
      cases hE : rdV n (rest s (j + 1)) m with
      | no t =>
        rw [hE] at CV HLS
        have HCV := Lib.hid CV
        clear CV hE
        go_wp2_with (first | (go_at_call 105; refine HCV.out.mono ?_; rintro e w3 ⟨hu3, j2, hj2, rfl, rfl⟩))
        refine ⟨rfl, HU3.out.trans hu3, ?_⟩
        rw [HLS.out]
        exact ⟨j2, hj2, rfl, rfl⟩
      | ok y t =>
        obtain ⟨x, m2⟩ := y
        have hpt := rdV_part n _ _ _ _ hm5 hE
        simp only at hpt
        rw [hE] at CV HLS
        have HCV := Lib.hid CV
        clear CV hE
        go_wp2_with (first
          | (go_at_call 105; refine HCV.out.mono ?_; rintro e w3 ⟨hu3, j2, hjj, hj2, rfl, v3, rfl, hv3, hr3⟩; obtain ⟨k3, n3, s3, A3, len3, cap3, r3, rfl⟩ := hv3.shape; have HX3 := Lib.hid hv3; have HR4 := Lib.hid hr3; have HU4 := Lib.hid (HU3.out.trans hu3); have HV4 := Lib.hid (HV3.out.upd hu3 hp); have hs4 := hu3.size; have hs3 := HU3.out.size; clear hr3 hu3 hv3)
          | (refine wpList_append_va _ rfl (.tmp 45) (.tmp 49) rfl w.heap.size W.heap.size (.slice A vs.length cap) vs xs rfl (HV4.out.below ((Below.refl _ w3).alloc (Nat.le_refl _) (.cells #[.int .u8 k3, .int .i64 n3, .string s3, .slice A3 len3 cap3, .int .i64 r3] 27))) w3.heap.size (.int .u8 k3) (.int .i64 n3) (.string s3) (.slice A3 len3 cap3) (.int .i64 r3) x rfl (BlkN.at_ rfl 27 _) (HX3.out.below ((Below.refl _ w3).alloc (Nat.le_refl _) _)) hs3 (fun g hg => (hob g hg).2) (by omega) (by simp; omega) ?_
             intro v' w4 xs' hv5 hg5
             have HR5 := Lib.hid (Rdr.grown (BlkN.alloc HR4.out (.cells #[.int .u8 k3, .int .i64 n3, .string s3, .slice A3 len3 cap3, .int .i64 r3] 27)) hg5 (fun g hg => by have := (hob g hg).1; omega))
             have HV5 := Lib.hid hv5
             have HU5 := Lib.hid (Upd.grown (HU4.out.alloc (.cells #[.int .u8 k3, .int .i64 n3, .string s3, .slice A3 len3 cap3, .int .i64 r3] 27)) hg5 (fun g hg => (hob g hg).1))
             clear hv5 hg5))
        have hf2 : 514 - ((vs ++ [x] : List Va)).length = f := by have := HF.out; simp at this ⊢; omega
        go_roundw
        case rel => exact ⟨j2, m2, vs ++ [x], xs', by omega, hj2, by simp; omega, by omega, HR5.out, HV5.out, HU5.out, by rw [HLS.out, hf2], fun h => by simp at h⟩
        case measure => rw [HR5.out.pos, HRJ.out.pos]; omega
end Go.Proofs.YtjmelamllapmiaaGreatDoor
