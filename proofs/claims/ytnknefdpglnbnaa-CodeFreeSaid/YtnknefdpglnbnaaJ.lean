/- The contract of package code's work: what an expression that may be works out to, and what is left of the parts. -/
import Derived.Test.YtnknefdpglnbnaaH
namespace Go.Proofs.Ytnknefdpglnbnaa
open Go.RowKit

mutual
def szE : Ex → Nat | .mk _ _ _ l => 1 + szEs l
def szEs : List Ex → Nat | [] => 0 | x :: l => szE x + szEs l
end
mutual
def workX (ns : List Na) : Ex → Int → Va × Int
  | .mk k n s l, left =>
    if k == 1 then (.mk 1 n ⟨#[]⟩ [] 0, left - 1)
    else if k == 2 then (.mk 2 0 s [] 0, left - 1)
    else if k == 4 then (getX ns s, left - measV (getX ns s))
    else if k == 3 then (.mk 3 0 ⟨#[]⟩ (workXs ns l left).1 0, (workXs ns l left).2 - 1)
    else (zeroVa, left - 1)
def workXs (ns : List Na) : List Ex → Int → List Va × Int
  | [], left => ([], left)
  | x :: l, left => if left < 0 then ([], left) else ((workX ns x left).1 :: (workXs ns l (workX ns x left).2).1, (workXs ns l (workX ns x left).2).2)
end
def WorkP (p : Nat) (w : World) (r : Va × Int) (e : Ending) (w' : World) : Prop :=
  ∃ v', e = .returned v' ∧ IsVaR w' (Own34 w' w.heap.size) v' r.1 ∧ Blk w' p 3 (.int .i64 r.2) ∧ Upd p w w'
def WorkC (ns : List Na) (x : Ex) : Prop := ∀ (w : World) (B : Nat) (v vn : Value) (p : Nat) (left : Int), IsEx w B v x → IsNs w B vn ns → B ≤ p → Blk w p 3 (.int .i64 left) → left ≤ 512 → -1000000 ≤ left - 512 * szE x → szE x ≤ 512 →
  Calls Try.prog 63 #[vn, v, .pointer (some ⟨p, 0, Option.none⟩)] w (WorkP p w (workX ns x left))
theorem szE_pos (x : Ex) : 1 ≤ szE x := by cases x; unfold szE; omega
set_option maxRecDepth 100000 in
set_option maxHeartbeats 1000000 in
theorem work_one (ns : List Na) (k n : Int) (s : ByteArray) (l : List Ex) (A An : Option Addr) (cap ncap : Nat) (w : World) (p : Nat) (left : Int) (_h4 : l.length ≤ 140737488351232) (hp : Blk w p 3 (.int .i64 left)) (h512 : left ≤ 512) (hlow : -1000000 ≤ left - 512) (hk : k = 1) :
    Calls Try.prog 63 #[.slice An ns.length ncap, .agg #[.int .u8 k, .int .i64 n, .string s, .slice A l.length cap], .pointer (some ⟨p, 0, Option.none⟩)] w (WorkP p w (workX ns (.mk k n s l) left)) := by
  have hc := hp.cell
  have hf := hp.free
  obtain ⟨l0, l1, l2, l3, l4⟩ := lts hp.lt
  have HP := Lib.hid hp
  clear hp
  subst hk
  have E2 : Hid (workX ns (.mk 1 n s l) left = (.mk 1 n ⟨#[]⟩ [] 0, left - 1)) := Lib.hid (by simp [workX])
  go_enter Try.func63, Try.ntmps63
  go_wp2_with fail
  refine bodyPost_ret (v := .agg #[.int .u8 1, .int .i64 n, .string ⟨#[]⟩, .slice Option.none 0 0, .int .i64 0]) (by simp [results, Try.results63, go_sem]) rfl ⟨_, rfl, ?_, ?_, ((((Upd.refl p w).set 0 _).alloc _).alloc _).alloc _⟩
  · rw [E2.out]; unfold IsVaR; exact ⟨by omega, by omega, by first | assumption | (show 0 ≤ _; omega), by simp, Option.none, 0, by simp, rfl, fun h => absurd rfl h⟩
  · rw [E2.out]; exact (((HP.out.set _).alloc _).alloc _).alloc _
set_option maxRecDepth 100000 in
set_option maxHeartbeats 1000000 in
theorem work_two (ns : List Na) (k n : Int) (s : ByteArray) (l : List Ex) (A An : Option Addr) (cap ncap : Nat) (w : World) (p : Nat) (left : Int) (_h4 : l.length ≤ 140737488351232) (hp : Blk w p 3 (.int .i64 left)) (h512 : left ≤ 512) (hlow : -1000000 ≤ left - 512) (hk : k = 2) (hs3 : s.size ≤ 140737488351232) :
    Calls Try.prog 63 #[.slice An ns.length ncap, .agg #[.int .u8 k, .int .i64 n, .string s, .slice A l.length cap], .pointer (some ⟨p, 0, Option.none⟩)] w (WorkP p w (workX ns (.mk k n s l) left)) := by
  have hc := hp.cell
  have hf := hp.free
  obtain ⟨l0, l1, l2, l3, l4⟩ := lts hp.lt
  have HP := Lib.hid hp
  clear hp
  subst hk
  have E2 : Hid (workX ns (.mk 2 n s l) left = (.mk 2 0 s [] 0, left - 1)) := Lib.hid (by simp [workX])
  go_enter Try.func63, Try.ntmps63
  go_wp2_with fail
  refine bodyPost_ret (v := .agg #[.int .u8 2, .int .i64 0, .string s, .slice Option.none 0 0, .int .i64 0]) (by simp [results, Try.results63, go_sem]) rfl ⟨_, rfl, ?_, ?_, ((((Upd.refl p w).set 0 _).alloc _).alloc _).alloc _⟩
  · rw [E2.out]; unfold IsVaR; exact ⟨by omega, by omega, by first | assumption | (show 0 ≤ _; omega), by simp, Option.none, 0, by simp, rfl, fun h => absurd rfl h⟩
  · rw [E2.out]; exact (((HP.out.set _).alloc _).alloc _).alloc _
set_option maxRecDepth 100000 in
set_option maxHeartbeats 1000000 in
theorem work_other (ns : List Na) (k n : Int) (s : ByteArray) (l : List Ex) (A An : Option Addr) (cap ncap : Nat) (w : World) (p : Nat) (left : Int) (_h4 : l.length ≤ 140737488351232) (hp : Blk w p 3 (.int .i64 left)) (h512 : left ≤ 512) (hlow : -1000000 ≤ left - 512) (hk1 : ¬ k = 1) (hk2 : ¬ k = 2) (hk3 : ¬ k = 3) (hk4 : ¬ k = 4) :
    Calls Try.prog 63 #[.slice An ns.length ncap, .agg #[.int .u8 k, .int .i64 n, .string s, .slice A l.length cap], .pointer (some ⟨p, 0, Option.none⟩)] w (WorkP p w (workX ns (.mk k n s l) left)) := by
  have hc := hp.cell
  have hf := hp.free
  obtain ⟨l0, l1, l2, l3, l4⟩ := lts hp.lt
  have HP := Lib.hid hp
  clear hp
  have E2 : Hid (workX ns (.mk k n s l) left = (zeroVa, left - 1)) := Lib.hid (by simp [workX, hk1, hk2, hk3, hk4])
  go_enter Try.func63, Try.ntmps63
  go_wp2_with fail
  refine bodyPost_ret (v := .agg #[.int .u8 0, .int .i64 0, .string ⟨#[]⟩, .slice Option.none 0 0, .int .i64 0]) (by simp [results, Try.results63, go_sem]) rfl ⟨_, rfl, ?_, ?_, ((((Upd.refl p w).set 0 _).alloc _).alloc _).alloc _⟩
  · rw [E2.out]; exact IsVaR.zero _ _
  · rw [E2.out]; exact (((HP.out.set _).alloc _).alloc _).alloc _
set_option maxRecDepth 100000 in
set_option maxHeartbeats 1000000 in
theorem work_four (ns : List Na) (k n : Int) (s : ByteArray) (l : List Ex) (A An : Option Addr) (cap ncap : Nat) (w : World) (p : Nat) (left : Int) (B : Nat) (hB : B ≤ p) (hns : IsNs w B (.slice An ns.length ncap) ns) (_h4 : l.length ≤ 140737488351232) (hp : Blk w p 3 (.int .i64 left)) (h512 : left ≤ 512) (hlow : -1000000 ≤ left - 512) (hk : k = 4) :
    Calls Try.prog 63 #[.slice An ns.length ncap, .agg #[.int .u8 k, .int .i64 n, .string s, .slice A l.length cap], .pointer (some ⟨p, 0, Option.none⟩)] w (WorkP p w (workX ns (.mk k n s l) left)) := by
  have hc := hp.cell
  have hf := hp.free
  obtain ⟨l0, l1, l2, l3, l4⟩ := lts hp.lt
  have HP := Lib.hid hp
  clear hp
  subst hk
  have E2 : Hid (workX ns (.mk 4 n s l) left = (getX ns s, left - measV (getX ns s))) := Lib.hid (by simp [workX])
  have HN := Lib.hid hns
  clear hns
  have hB0 := Lib.hid ((((Below.refl w.heap.size w).alloc (Nat.le_refl _) (.cells #[.int .u8 4, .int .i64 n, .string s, .slice A l.length cap] 26)).alloc (by simp) (.cells zeroV 34)).alloc (by simp; omega) (.cells zeroV 34))
  go_enter Try.func63, Try.ntmps63
  go_wp2_with fail
  refine (Get_any (B := B) s _ (HN.out.keep (fun b hb => hB0.out.block b (by omega))) (by simp; omega)).mono ?_
  rintro e w1 ⟨v', rfl, hv', hb1⟩
  obtain ⟨k2, n2, s2, A2, len2, cap2, r2, rfl⟩ := hv'.shape
  have HR1 := Lib.hid ((BlkN.at_ (w := (w.alloc (.cells #[.int .u8 4, .int .i64 n, .string s, .slice A l.length cap] 26)).alloc (.cells zeroV 34)) (b := w.heap.size + 1 + 1) (by simp) 34 zeroV).below hb1)
  have HR0 := Lib.hid (((BlkN.at_ (w := w.alloc (.cells #[.int .u8 4, .int .i64 n, .string s, .slice A l.length cap] 26)) (b := w.heap.size + 1) (by simp) 34 zeroV).alloc (.cells zeroV 34)).below hb1)
  have HP1 := Lib.hid ((((HP.out.alloc (.cells #[.int .u8 4, .int .i64 n, .string s, .slice A l.length cap] 26)).alloc (.cells zeroV 34)).alloc (.cells zeroV 34)).below hb1)
  have HB1 := Lib.hid (bnext hB0.out hb1)
  have hsz1 := hb1.size
  simp only [World.size_alloc] at hsz1
  have HV := Lib.hid hv'
  clear hb1 hv' hc hf
  have d0 := HR1.out.cell 0 rfl
  have d1 := HR1.out.cell 1 rfl
  have d2 := HR1.out.cell 2 rfl
  have d3 := HR1.out.cell 3 rfl
  have d4 := HR1.out.cell 4 rfl
  have x0 := HR1.out.free 0
  have x1 := HR1.out.free 1
  have x2 := HR1.out.free 2
  have x3 := HR1.out.free 3
  have x4 := HR1.out.free 4
  go_wp2_with fail
  obtain ⟨W2, hW2, y0, y1, y2, y3, y4, hk, hbel, hR⟩ := res5 HR1.out (.int .u8 k2) (.int .i64 n2) (.string s2) (.slice A2 len2 cap2) (.int .i64 r2)
  rw [hW2]
  have HB2 := Lib.hid (hbel w.heap.size w (by omega) HB1.out)
  have hpc : W2.cell? ⟨p, 0, Option.none⟩ = some (.int .i64 left) := Blk.cell ((hk p (by omega)).trans HP1.out)
  have HP2 : Hid (Blk W2 p 3 (.int .i64 left)) := Lib.hid ((hk p (by omega)).trans HP1.out)
  have HR02 : Hid (BlkN W2 (w.heap.size + 1) 34 zeroV) := Lib.hid ((hk _ (by omega)).trans HR0.out)
  have HV2 := Lib.hid (HV.out.other hk (by simp))
  have hs2 : W2.heap.size = w1.heap.size := by rw [← hW2]; simp [World.setCell]
  have HS2 := Lib.hid hs2
  clear hW2 hk hbel d0 d1 d2 d3 d4 x0 x1 x2 x3 x4 hs2
  refine RegT.region_seq (fun i => Nat.ble i 4) (fun W => W.cell? ⟨p, 0, Option.none⟩ = some (.int .i64 left) ∧ W.cell? ⟨w.heap.size + 1 + 1, 0, Option.none⟩ = some (.int .u8 k2) ∧ W.cell? ⟨w.heap.size + 1 + 1, 1, Option.none⟩ = some (.int .i64 n2) ∧ W.cell? ⟨w.heap.size + 1 + 1, 2, Option.none⟩ = some (.string s2) ∧ W.cell? ⟨w.heap.size + 1 + 1, 3, Option.none⟩ = some (.slice A2 len2 cap2) ∧ W.cell? ⟨w.heap.size + 1 + 1, 4, Option.none⟩ = some (.int .i64 r2)) [0, 1, 2, 3] [4, 5, 6, 7] (by kernel_rfl) (by kernel_rfl) (by decide +kernel) (by decide) ⟨hpc, y0, y1, y2, y3, y4⟩ ?_
  refine RegT.quiet_step rfl (fun _ _ _ h => h) (by rfl) (v := .pointer (some ⟨p, 0, Option.none⟩)) (fun w' hS => ?_) ?_
  · go_simp
  refine RegT.quiet_step rfl (fun _ _ _ h => h) (by rfl) (v := .pointer (some ⟨p, 0, Option.none⟩)) (fun w' hS => ?_) ?_
  · go_simp
  refine RegT.quiet_step rfl (fun _ _ _ h => h) (by rfl) (v := .int .i64 left) (fun w' hS => ?_) ?_
  · obtain ⟨t0, t1, t2, t3, t4, t5⟩ := hS; go_simp
  refine RegT.quiet_step rfl (fun _ _ _ h => h) (by rfl) (v := .agg #[.int .u8 k2, .int .i64 n2, .string s2, .slice A2 len2 cap2, .int .i64 r2]) (fun w' hS => ?_) ?_
  · obtain ⟨t0, t1, t2, t3, t4, t5⟩ := hS; go_simp
  refine RegT.seqT_held rfl ?_
  go_wp2_with (go_at_call 107; refine (vparts_any (B := W2.heap.size) (x := getX ns s) W2.drew (IsVaR.mono (fun b o hr => hr.lt) (IsVaR.below HV2.out ((Below.refl _ _).drew))) (Nat.le_refl _)).mono ?_; rintro e w3 ⟨rfl, hb3'⟩; have hb3 : Below W2.heap.size W2 w3 := bnext ((Below.refl _ _).drew) hb3'; clear hb3')
  have hR3 := Lib.hid (BlkN.below hR hb3)
  have HP3 := Lib.hid (Blk.below HP2.out hb3)
  have HR03 := Lib.hid (BlkN.below HR02.out hb3)
  have HV3 := Lib.hid (IsVaR.below HV2.out hb3)
  have HB3 := Lib.hid (HB2.out.trans (hb3.mono HB2.out.size))
  have hs3 := hb3.size
  clear hb3 hpc y0 y1 y2 y3 y4 hR
  have hpc := HP3.out.cell
  have hpf := HP3.out.free
  have hm := measV_le (getX ns s)
  have y0 := hR3.out.cell 0 rfl
  have y1 := hR3.out.cell 1 rfl
  have y2 := hR3.out.cell 2 rfl
  have y3 := hR3.out.cell 3 rfl
  have y4 := hR3.out.cell 4 rfl
  refine ⟨⟨hpc, y0, y1, y2, y3, y4⟩, RegT.seqT_tail [5, 6, 7] [_, _, _] rfl rfl _ _ ?_⟩
  go_wp2_with fail
  simp only [RegT.NP, Exit.then]
  have HP4 := Lib.hid (HP3.out.set (.int .i64 (left - measV (getX ns s))))
  have HR4 := Lib.hid (hR3.out.setOther (q := ⟨p, 0, Option.none⟩) (by simp; omega) (.int .i64 (left - measV (getX ns s))))
  have HR04 := Lib.hid (HR03.out.setOther (q := ⟨p, 0, Option.none⟩) (by simp; omega) (.int .i64 (left - measV (getX ns s))))
  have HU4 := Lib.hid ((Upd.ofBelow HB3.out p).set 0 (.int .i64 (left - measV (getX ns s))))
  have HV4 := Lib.hid (IsVaR.other (w' := w3.setCell ⟨p, 0, Option.none⟩ (.int .i64 (left - measV (getX ns s)))) HV3.out (fun k hk => Below.heap_setCell _ _ _ _ hk) (by simp; omega))
  obtain ⟨w4, hw4⟩ : ∃ w4, w4 = w3.setCell ⟨p, 0, Option.none⟩ (.int .i64 (left - measV (getX ns s))) := ⟨_, rfl⟩
  rw [← hw4] at HP4 HR4 HR04 HU4 HV4 ⊢
  clear hw4 hpc hpf y0 y1 y2 y3 y4
  have y0 := HR4.out.cell 0 rfl
  have y1 := HR4.out.cell 1 rfl
  have y2 := HR4.out.cell 2 rfl
  have y3 := HR4.out.cell 3 rfl
  have y4 := HR4.out.cell 4 rfl
  have d0 := HR04.out.cell 0 rfl
  have d1 := HR04.out.cell 1 rfl
  have d2 := HR04.out.cell 2 rfl
  have d3 := HR04.out.cell 3 rfl
  have d4 := HR04.out.cell 4 rfl
  have x0 := HR04.out.free 0
  have x1 := HR04.out.free 1
  have x2 := HR04.out.free 2
  have x3 := HR04.out.free 3
  have x4 := HR04.out.free 4
  go_wp2_with fail
  obtain ⟨W5, hW5, z0, z1, z2, z3, z4, hk5, hbel5, _⟩ := res5 HR04.out (.int .u8 k2) (.int .i64 n2) (.string s2) (.slice A2 len2 cap2) (.int .i64 r2)
  rw [hW5]
  refine bodyPost_ret (v := .agg #[.int .u8 k2, .int .i64 n2, .string s2, .slice A2 len2 cap2, .int .i64 r2]) (by simp [results, Try.results63, go_sem, z0, z1, z2, z3, z4]) rfl ⟨_, rfl, ?_, ?_, ?_⟩
  · rw [E2.out]; exact (HV4.out.other hk5 (by simp)).low (by simp; omega)
  · rw [E2.out]; exact (hk5 p (by omega)).trans HP4.out
  · rw [← hW5]
    exact ((((HU4.out.setNew (by simp) _).setNew (by simp) _).setNew (by simp) _).setNew (by simp) _).setNew (by simp) _
theorem workXs_len (ns : List Na) : ∀ (l : List Ex) (left : Int), (workXs ns l left).1.length ≤ l.length
  | [], left => by simp [workXs]
  | x :: l, left => by
    unfold workXs
    split
    · simp
    · have := workXs_len ns l (workX ns x left).2
      simp only [List.length_cons]; omega
mutual
theorem workX_left (ns : List Na) : ∀ (x : Ex) (left : Int), left - 512 * szE x ≤ (workX ns x left).2 ∧ (workX ns x left).2 ≤ left
  | .mk k n s l, left => by
    unfold workX szE
    split
    · simp; omega
    · split
      · simp; omega
      · split
        · have := measV_le (getX ns s); simp; omega
        · split
          · have := workXs_left ns l left; simp only; omega
          · simp; omega
theorem workXs_left (ns : List Na) : ∀ (l : List Ex) (left : Int), left - 512 * szEs l ≤ (workXs ns l left).2 ∧ (workXs ns l left).2 ≤ left
  | [], left => by simp [workXs, szEs]
  | x :: l, left => by
    unfold workXs szEs
    split
    · simp; omega
    · have h1 := workX_left ns x left
      have h2 := workXs_left ns l (workX ns x left).2
      simp only; omega
end
theorem szEs_drop (l : List Ex) : ∀ (j : Nat) (h : j < l.length), szEs (l.drop j) = szE l[j] + szEs (l.drop (j + 1)) := by
  intro j h
  rw [List.drop_eq_getElem_cons h, szEs]
theorem szEs_le (l : List Ex) : ∀ j, szEs (l.drop j) ≤ szEs l := by
  induction l with
  | nil => intro j; simp [szEs]
  | cons x l ih => intro j; cases j with
    | zero => simp
    | succ j => have := ih j; simp only [List.drop_succ_cons, szEs]; omega
theorem len_szEs : ∀ (l : List Ex), l.length ≤ szEs l
  | [] => by simp [szEs]
  | x :: l => by have := len_szEs l; have := szE_pos x; simp only [List.length_cons, szEs]; omega
theorem info34' : (Try.prog.info? 34).map (fun i => (i.zero, i.size, i.bytes)) = some (some (.agg zeroV), 5, 64) := info34
set_option maxRecDepth 100000 in
set_option maxHeartbeats 1000000 in
theorem work_three (ns : List Na) (k n : Int) (s : ByteArray) (l : List Ex) (A An : Option Addr) (cap ncap : Nat) (w : World) (p : Nat) (left : Int) (h4 : l.length ≤ 140737488351232) (hp : Blk w p 3 (.int .i64 left)) (h512 : left ≤ 512) (hlow : -1000000 ≤ left - 512 * (1 + szEs l : Nat)) (hsz : 1 + szEs l ≤ 512) (B : Nat) (hB : B ≤ p) (hns : IsNs w B (.slice An ns.length ncap) ns) (IH : ∀ x ∈ l, WorkC ns x) (h7 : l ≠ [] → ∃ b o, b < B ∧ A = some ⟨b, o, Option.none⟩ ∧ IsExs w B b o l) (hk : k = 3) :
    Calls Try.prog 63 #[.slice An ns.length ncap, .agg #[.int .u8 k, .int .i64 n, .string s, .slice A l.length cap], .pointer (some ⟨p, 0, Option.none⟩)] w (WorkP p w (workX ns (.mk k n s l) left)) := by
  have hc := hp.cell
  have hf := hp.free
  obtain ⟨l0, l1, l2, l3, l4⟩ := lts hp.lt
  have HP := Lib.hid hp
  clear hp
  subst hk
  have E2 : Hid (workX ns (.mk 3 n s l) left = (.mk 3 0 ⟨#[]⟩ (workXs ns l left).1 0, (workXs ns l left).2 - 1)) := Lib.hid (by simp [workX])
  have HN := Lib.hid hns
  have HI := Lib.hid IH
  have H7 := Lib.hid h7
  have HLEN := len_szEs l
  obtain ⟨i0, hi, hz0, hz1, hz2⟩ := info_parts info34'
  have HIN := Lib.hid hi
  have hU0 := Lib.hid ((((Upd.refl p w).alloc (.cells #[.int .u8 3, .int .i64 n, .string s, .slice A l.length cap] 26)).alloc (.cells zeroV 34)).alloc (.cells #[.int .u8 3, .int .i64 0, .string ⟨#[]⟩, .slice Option.none 0 0, .int .i64 0] 34))
  have hR1 : Hid (BlkN (((w.alloc (.cells #[.int .u8 3, .int .i64 n, .string s, .slice A l.length cap] 26)).alloc (.cells zeroV 34)).alloc (.cells #[.int .u8 3, .int .i64 0, .string ⟨#[]⟩, .slice Option.none 0 0, .int .i64 0] 34)) (w.heap.size + 1) 34 zeroV) := Lib.hid ((BlkN.at_ (by simp) _ _).alloc _)
  have hR2 : Hid (BlkN (((w.alloc (.cells #[.int .u8 3, .int .i64 n, .string s, .slice A l.length cap] 26)).alloc (.cells zeroV 34)).alloc (.cells #[.int .u8 3, .int .i64 0, .string ⟨#[]⟩, .slice Option.none 0 0, .int .i64 0] 34)) (w.heap.size + 1 + 1) 34 #[.int .u8 3, .int .i64 0, .string ⟨#[]⟩, .slice Option.none 0 0, .int .i64 0]) := Lib.hid (BlkN.at_ (by simp) _ _)
  have hP0 := Lib.hid (((HP.out.alloc (.cells #[.int .u8 3, .int .i64 n, .string s, .slice A l.length cap] 26)).alloc (.cells zeroV 34)).alloc (.cells #[.int .u8 3, .int .i64 0, .string ⟨#[]⟩, .slice Option.none 0 0, .int .i64 0] 34))
  clear hns IH h7 hi hc hf
  go_enter Try.func63, Try.ntmps63
  go_wp2_with fail
  go_loopw [45] (fun i wr => ∃ k : Nat, k ≤ l.length ∧ i = .int .i64 k ∧ ∃ (q : Int) (vs : List Va) (xs : List Value) (sl : Value), vs.length = k ∧ left - 512 * (szEs l - szEs (l.drop k) : Nat) ≤ q ∧ q ≤ left ∧ ((workXs ns l left).1 = vs ++ (workXs ns (l.drop k) q).1 ∧ (workXs ns l left).2 = (workXs ns (l.drop k) q).2) ∧
      Blk wr p 3 (.int .i64 q) ∧ BlkN wr (w.heap.size + 1) 34 zeroV ∧ BlkN wr (w.heap.size + 1 + 1) 34 #[.int .u8 3, .int .i64 0, .string ⟨#[]⟩, sl, .int .i64 0] ∧ VRow wr (w.heap.size + 1 + 1 + 1) sl vs xs ∧ Upd p w wr) (fun i _ => l.length - (intOf i).toNat)
  case atStart => exact ⟨0, by omega, rfl, left, [], [], _, rfl, by simp, Int.le_refl _, by simp, hP0.out, hR1.out, hR2.out, VRow.nil _ _, hU0.out⟩
  case round =>
    obtain ⟨j, hj, rfl, q, vs, xs, sl, hvl, hq1, hq2, hw, hpq, hr1, hr2, hv, hu⟩ := hrel
    obtain ⟨A0, cap0, hsl, hcap0⟩ : ∃ A0 cap0, sl = .slice A0 j cap0 ∧ j ≤ cap0 := by
      obtain ⟨A0, cap0, h1, h2, _⟩ := hv.list
      exact ⟨A0, cap0, by rw [h1, hvl], by omega⟩
    subst hsl
    have HW := Lib.hid hw
    have HPQ := Lib.hid hpq
    have HR1 := Lib.hid hr1
    have HR2 := Lib.hid hr2
    have HV := Lib.hid hv
    have HU := Lib.hid hu
    have HVL := Lib.hid hvl
    have hpl := hpq.lt
    have hpc := hpq.cell
    have hpf := hpq.free
    have hc2 := hr2.lt
    clear hw hpq hr1 hr2 hv hu hvl
    by_cases hlt : j < l.length
    · obtain ⟨b, o, hbB, hA, hx⟩ := H7.out (by rintro rfl; simp at hlt)
      subst hA
      obtain ⟨k', n', s', A', len', cap', hat, hx1⟩ := hx.at2 j hlt
      have hat' := hat.keep hbB (HU.out.keep hB (by omega))
      obtain ⟨e0, e1, e2, e3⟩ := hat'.four
      have HX1 := Lib.hid hx1
      have hsd := szEs_drop l j hlt
      have hsle := szEs_le l j
      clear hat hat' hx hx1
      obtain ⟨l0, l1, l2, l3, l4⟩ := lts (show p < wr.heap.size by omega)
      by_cases hneg : q < 0
      · have hqb : -1000000 ≤ q := by omega
        have hqc : q ≤ 512 := by omega
        have g0 := HR2.out.cell 0 rfl
        have g1 := HR2.out.cell 1 rfl
        have g2 := HR2.out.cell 2 rfl
        have g3 := HR2.out.cell 3 rfl
        have g4 := HR2.out.cell 4 rfl
        have d0 := HR1.out.cell 0 rfl
        have d1 := HR1.out.cell 1 rfl
        have d2 := HR1.out.cell 2 rfl
        have d3 := HR1.out.cell 3 rfl
        have d4 := HR1.out.cell 4 rfl
        have x0 := HR1.out.free 0
        have x1 := HR1.out.free 1
        have x2 := HR1.out.free 2
        have x3 := HR1.out.free 3
        have x4 := HR1.out.free 4
        obtain ⟨m0, m1, m2, m3, m4⟩ := lts (show w.heap.size + 1 < wr.heap.size by omega)
        obtain ⟨o0, o1, o2, o3, o4⟩ := lts (show w.heap.size + 1 + 1 < wr.heap.size by omega)
        have HEND : Hid ((workXs ns l left).1 = vs ∧ (workXs ns l left).2 = q) := Lib.hid (by
          have h := HW.out
          rw [List.drop_eq_getElem_cons hlt, workXs, if_pos hneg] at h
          simpa using h)
        go_wp2_with fail
        obtain ⟨W5, hW5, _, _, _, _, _, hk5, hbel5, hR5⟩ := res5 (HR1.out.setOther (q := ⟨p, 0, Option.none⟩) (by simp; omega) (.int .i64 (q - 1))) (.int .u8 3) (.int .i64 0) (.string ⟨#[]⟩) (.slice A0 j cap0) (.int .i64 0)
        rw [hW5]
        have HPF := (hk5 p (by omega)).trans (HPQ.out.set (.int .i64 (q - 1)))
        have HUF : Upd p w W5 := by
          rw [← hW5]
          exact (((((HU.out.set 0 _).setNew (by simp) _).setNew (by simp) _).setNew (by simp) _).setNew (by simp) _).setNew (by simp) _
        have hvf : VRow W5 (w.heap.size + 1 + 1 + 1) (.slice A0 j cap0) vs xs := (HV.out.upd ((Upd.refl p wr).set 0 (.int .i64 (q - 1))) (by omega)).upd (p := w.heap.size + 1) ⟨by rw [← hW5]; rfl, by rw [← hW5]; rfl, by rw [← hW5]; rfl, by rw [← hW5]; simp [World.setCell], fun k _ hk => hk5 k hk⟩ (by omega)
        have hvf := hvf.below ((Below.refl _ _).alloc (Nat.le_refl _) (.cells #[.int .u8 k', .int .i64 n', .string s', .slice A' len' cap'] 26))
        have HPF := Blk.alloc HPF (.cells #[.int .u8 k', .int .i64 n', .string s', .slice A' len' cap'] 26)
        have HUF := HUF.alloc (.cells #[.int .u8 k', .int .i64 n', .string s', .slice A' len' cap'] 26)
        have hR5 := hR5.alloc (.cells #[.int .u8 k', .int .i64 n', .string s', .slice A' len' cap'] 26)
        obtain ⟨WF, hWF⟩ : ∃ WF, WF = W5.alloc (.cells #[.int .u8 k', .int .i64 n', .string s', .slice A' len' cap'] 26) := ⟨_, rfl⟩
        rw [← hWF] at hvf HPF HUF hR5 ⊢
        clear hWF hW5 hk5 hbel5
        have z0 := hR5.cell 0 rfl
        have z1 := hR5.cell 1 rfl
        have z2 := hR5.cell 2 rfl
        have z3 := hR5.cell 3 rfl
        have z4 := hR5.cell 4 rfl
        refine bodyPost_ret (v := .agg #[.int .u8 3, .int .i64 0, .string ⟨#[]⟩, .slice A0 j cap0, .int .i64 0]) (by simp [results, Try.results63, go_sem, z0, z1, z2, z3, z4]) rfl ⟨_, rfl, ?_, ?_, HUF⟩
        · rw [E2.out, HEND.out.1]
          obtain ⟨A1, cap1, h1, h2, h3⟩ := hvf.list
          unfold IsVaR
          rw [HVL.out] at h1 h2
          have hll := workXs_len ns l left
          rw [HEND.out.1] at hll
          refine ⟨by omega, by omega, by show 0 ≤ _; omega, by omega, A1, cap1, by rw [HVL.out]; exact h2, by rw [HVL.out, h1], fun hne => ?_⟩
          obtain ⟨b', o', h4, h5, h6⟩ := h3 hne
          exact ⟨b', o', h4.low (by omega), h5, h6.mono (fun b o hr => hr.low (by omega))⟩
        · rw [E2.out, HEND.out.2]; exact HPF
      · have hbd1 : -1000000 ≤ q - 512 * (szE l[j] : Nat) := by omega
        have hbd2 : szE l[j] ≤ 512 := by omega
        have hbd3 : q ≤ 512 := by omega
        have HSD := Lib.hid hsd
        clear hsd
        go_wp2_with fail
        have q3 := HR2.out.cell 3 rfl
        obtain ⟨o0, o1, o2, o3, o4⟩ := lts (show w.heap.size + 1 + 1 < wr.heap.size by omega)
        refine RegT.region_seq (fun i => Nat.ble i 6) (fun W => W.cell? ⟨w.heap.size + 1 + 1, 3, Option.none⟩ = some (.slice A0 j cap0) ∧ W.cell? ⟨wr.heap.size, 0, Option.none⟩ = some (.int .u8 k') ∧ W.cell? ⟨wr.heap.size, 1, Option.none⟩ = some (.int .i64 n') ∧ W.cell? ⟨wr.heap.size, 2, Option.none⟩ = some (.string s') ∧ W.cell? ⟨wr.heap.size, 3, Option.none⟩ = some (.slice A' len' cap')) [0, 1, 2, 3, 4] [5, 6, 7, 8, 9] (by kernel_rfl) (by kernel_rfl) (by decide +kernel) (by decide) ?hS ?_
        case hS => exact ⟨by go_simp, by go_simp, by go_simp, by go_simp, by go_simp⟩
        refine RegT.quiet_step rfl (fun _ _ _ h => h) (by rfl) (v := .pointer (some ⟨w.heap.size + 1 + 1, 3, Option.none⟩)) (fun w' hS => ?_) ?_
        · go_simp
        refine RegT.quiet_step rfl (fun _ _ _ h => h) (by rfl) (v := .slice A0 j cap0) (fun w' hS => ?_) ?_
        · obtain ⟨t0, t1, t2, t3, t4⟩ := hS; go_simp
        refine RegT.quiet_step rfl (fun _ _ _ h => h) (by rfl) (v := .slice An ns.length ncap) (fun w' hS => ?_) ?_
        · go_simp
        refine RegT.quiet_step rfl (fun _ _ _ h => h) (by rfl) (v := .agg #[.int .u8 k', .int .i64 n', .string s', .slice A' len' cap']) (fun w' hS => ?_) ?_
        · obtain ⟨t0, t1, t2, t3, t4⟩ := hS; go_simp
        refine RegT.quiet_step rfl (fun _ _ _ h => h) (by rfl) (v := .pointer (some ⟨p, 0, Option.none⟩)) (fun w' hS => ?_) ?_
        · go_simp
        have HWE : Hid (Upd p w ((wr.alloc (.cells #[.int .u8 k', .int .i64 n', .string s', .slice A' len' cap'] 26)).drew)) := Lib.hid (HU.out.alloc _).drew
        have HWR : Hid (Upd p wr ((wr.alloc (.cells #[.int .u8 k', .int .i64 n', .string s', .slice A' len' cap'] 26)).drew)) := Lib.hid ((Upd.refl p wr).alloc _).drew
        refine RegT.seqT_held rfl ?_
        go_wp2_with (go_at_call 63; go_must (refine (HI.out _ (List.getElem_mem hlt) ((wr.alloc (.cells #[.int .u8 k', .int .i64 n', .string s', .slice A' len' cap'] 26)).drew) B _ _ p q (IsEx.keep (HWE.out.keep hB (by omega)) HX1.out) (HN.out.keep (HWE.out.keep hB (by omega))) hB (Blk.alloc HPQ.out _) hbd3 hbd1 hbd2).mono ?_); rintro e w1 ⟨v', rfl, hv', hb1, hu1⟩; obtain ⟨k2, n2, s2, A2, len2, cap2, r2, rfl⟩ := hv'.shape)
        have hWD : Below wr.heap.size wr ((wr.alloc (.cells #[.int .u8 k', .int .i64 n', .string s', .slice A' len' cap'] 26)).drew) := ((Below.refl _ _).alloc (Nat.le_refl _) _).drew
        have hr1' := Lib.hid ((HR1.out.below hWD).upd hu1 (by omega))
        have hr2' := (HR2.out.below hWD).upd hu1 (by omega)
        have hEl : BlkN w1 wr.heap.size 26 #[.int .u8 k', .int .i64 n', .string s', .slice A' len' cap'] := (BlkN.drewN (BlkN.at_ (w := wr) rfl 26 #[.int .u8 k', .int .i64 n', .string s', .slice A' len' cap']) 1).upd hu1 (by omega)
        have hVR := Lib.hid ((HV.out.below hWD).upd hu1 (by omega))
        have hU1 := Lib.hid (HWE.out.trans hu1)
        have hPB := Lib.hid hb1
        have hVX := Lib.hid hv'
        have hs1 : wr.heap.size + 1 ≤ w1.heap.size := by have := hu1.size; simp at this; omega
        have hc23 := hr2'.cell 3 rfl
        have hf23 := hr2'.free 3
        have hR2' := Lib.hid hr2'
        have t0 := hEl.cell 0 rfl
        have t1 := hEl.cell 1 rfl
        have t2 := hEl.cell 2 rfl
        have t3 := hEl.cell 3 rfl
        clear hb1 hu1 hv' hr2' hEl hWD q3 e0 e1 e2 e3 hpc hpf
        refine ⟨⟨hc23, t0, t1, t2, t3⟩, RegT.seqT_held rfl ?_⟩
        obtain ⟨c0, c1, c2', c3, c4⟩ := lts (show w.heap.size + 1 + 1 < w1.heap.size by omega)
        obtain ⟨b0, b1, b2, b3, b4⟩ := lts (show wr.heap.size < w1.heap.size by omega)
        go_wp2_with fail
        refine ⟨⟨by go_simp, by go_simp, by go_simp, by go_simp, by go_simp⟩, RegT.seqT_tail [7, 8, 9] [_, _, _] rfl rfl _ _ ?_⟩
        refine wpList_append_row _ rfl (.tmp 54) (.tmp 59) 31 rfl (w.heap.size + 1 + 1 + 1) 34 i0 (.agg zeroV) 5 64 Try.underlying31 HIN.out hz0 hz1 hz2 rfl (by decide) (.slice A0 j cap0) j xs rfl ?hy1 ⟨w1.heap.size, 0, Option.none⟩ 1 1 [.int .u8 k2, .int .i64 n2, .string s2, .slice A2 len2 cap2, .int .i64 r2] rfl rfl ?hy2 ?hy3 ?hy4 ?hy5 ?hy6 ?_
        case hy1 => have := (hVR.out.below ((Below.refl _ _).alloc (Nat.le_refl _) (.cells #[.int .u8 k2, .int .i64 n2, .string s2, .slice A2 len2 cap2, .int .i64 r2] 34))).1; rw [HVL.out] at this; exact this
        case hy2 => exact row_new _ _ _
        case hy3 => intro u hu; simp only [List.mem_cons, List.not_mem_nil, or_false] at hu; rcases hu with rfl | rfl | rfl | rfl | rfl <;> rfl
        case hy4 => unfold maxLen; omega
        case hy5 => omega
        case hy6 => simp; omega
        intro sl' w3 hown' hgrow hor
        have hAl : Below w1.heap.size w1 (w1.alloc (.cells #[.int .u8 k2, .int .i64 n2, .string s2, .slice A2 len2 cap2, .int .i64 r2] 34)) := (Below.refl _ _).alloc (Nat.le_refl _) _
        have hob : ∀ g, (Value.slice A0 j cap0).ownBlock = some g → w.heap.size + 1 + 1 + 1 ≤ g ∧ g < wr.heap.size := fun g hg => HV.out.blk hg
        have hV3 : VRow w3 (w.heap.size + 1 + 1 + 1) sl' (vs ++ [(workX ns l[j] q).1]) (xs ++ [.int .u8 k2, .int .i64 n2, .string s2, .slice A2 len2 cap2, .int .i64 r2]) :=
          VRow.push (hVR.out.below hAl) (hVX.out.below hAl) (by simp; omega) (fun g hg => by have := (hob g hg).2; simp; omega) (by rw [HVL.out]; exact hown') hgrow hor
        have hk3 : ∀ b, b < w1.heap.size → b < w.heap.size + 1 + 1 + 1 → w3.heap[b]? = w1.heap[b]? := fun b hb hb2 =>
          (hgrow.block b (by simp; omega) (fun e => by have := (hob b e.symm).1; omega)).trans (hAl.block b hb)
        have hU3 : Upd p w w3 := (hU1.out.alloc _).grown hgrow (fun g hg => by have := (hob g hg).1; omega)
        have hP3 : Blk w3 p 3 (.int .i64 (workX ns l[j] q).2) := (hk3 p (by omega) (by omega)).trans hPB.out
        have h13 : BlkN w3 (w.heap.size + 1) 34 zeroV := (hk3 _ (by omega) (by omega)).trans hr1'.out
        have h23 : BlkN w3 (w.heap.size + 1 + 1) 34 #[.int .u8 3, .int .i64 0, .string ⟨#[]⟩, .slice A0 j cap0, .int .i64 0] := (hk3 _ (by omega) (by omega)).trans hR2'.out
        obtain ⟨A1, cap1, hsl, hcap1, _⟩ := hV3.list
        subst hsl
        have hc33 := h23.cell 3 rfl
        have hf33 := h23.free 3
        have hS3 : Hid (w1.heap.size ≤ w3.heap.size) := Lib.hid (by have := hgrow.size; simp at this; omega)
        have HV3 := Lib.hid (hV3.upd ((Upd.refl (w.heap.size + 1 + 1) w3).set 3 (.slice A1 (vs ++ [(workX ns l[j] q).1]).length cap1)) (by omega))
        have HU3 := Lib.hid (hU3.setNew (q := ⟨w.heap.size + 1 + 1, 3, Option.none⟩) (by simp; omega) (.slice A1 (vs ++ [(workX ns l[j] q).1]).length cap1))
        have HP3' := Lib.hid (hP3.setOther (q := ⟨w.heap.size + 1 + 1, 3, Option.none⟩) (by simp; omega) (.slice A1 (vs ++ [(workX ns l[j] q).1]).length cap1))
        have H13 := Lib.hid (h13.setOther (q := ⟨w.heap.size + 1 + 1, 3, Option.none⟩) (by simp) (.slice A1 (vs ++ [(workX ns l[j] q).1]).length cap1))
        have H23 := Lib.hid (h23.set 3 (.slice A1 (vs ++ [(workX ns l[j] q).1]).length cap1))
        clear hown' hgrow hor hV3 hk3 hU3 hP3 h13 h23 hAl hob c0 c1 c2' c3 c4 b0 b1 b2 b3 b4 t0 t1 t2 t3 hc23 hf23
        obtain ⟨L, hL⟩ : ∃ L, L = (vs ++ [(workX ns l[j] q).1]).length := ⟨_, rfl⟩
        rw [← hL] at HV3 HU3 HP3' H13 H23 ⊢
        have HL := Lib.hid hL
        clear hL
        go_wp2_with fail
        simp only [RegT.NP, Exit.inBlock]
        go_wp2_with fail
        go_roundw
        case rel =>
          have hlw := workX_left ns l[j] q
          refine ⟨j + 1, by omega, by go_num, (workX ns l[j] q).2, vs ++ [(workX ns l[j] q).1], _, _, by simp [HVL.out], by have := HSD.out; omega, by omega, ?_, HP3'.out, H13.out, H23.out, HV3.out, HU3.out⟩
          have h := HW.out
          rw [List.drop_eq_getElem_cons hlt, workXs, if_neg (by omega)] at h
          simp only at h
          exact ⟨by rw [h.1, List.append_assoc]; rfl, h.2⟩
        case measure => simp [intOf]; omega
    · obtain rfl : j = l.length := by omega
      have hqb : -1000000 ≤ q := by omega
      have hqc : q ≤ 512 := by omega
      have g0 := HR2.out.cell 0 rfl
      have g1 := HR2.out.cell 1 rfl
      have g2 := HR2.out.cell 2 rfl
      have g3 := HR2.out.cell 3 rfl
      have g4 := HR2.out.cell 4 rfl
      have d0 := HR1.out.cell 0 rfl
      have d1 := HR1.out.cell 1 rfl
      have d2 := HR1.out.cell 2 rfl
      have d3 := HR1.out.cell 3 rfl
      have d4 := HR1.out.cell 4 rfl
      have x0 := HR1.out.free 0
      have x1 := HR1.out.free 1
      have x2 := HR1.out.free 2
      have x3 := HR1.out.free 3
      have x4 := HR1.out.free 4
      obtain ⟨m0, m1, m2, m3, m4⟩ := lts (show w.heap.size + 1 < wr.heap.size by omega)
      obtain ⟨o0, o1, o2, o3, o4⟩ := lts (show w.heap.size + 1 + 1 < wr.heap.size by omega)
      have HEND : Hid ((workXs ns l left).1 = vs ∧ (workXs ns l left).2 = q) := Lib.hid (by
        have h := HW.out
        rw [List.drop_length, workXs] at h
        simpa using h)
      go_wp2_with fail
      obtain ⟨W5, hW5, _, _, _, _, _, hk5, hbel5, hR5⟩ := res5 (HR1.out.setOther (q := ⟨p, 0, Option.none⟩) (by simp; omega) (.int .i64 (q - 1))) (.int .u8 3) (.int .i64 0) (.string ⟨#[]⟩) (.slice A0 l.length cap0) (.int .i64 0)
      rw [hW5]
      have HPF := (hk5 p (by omega)).trans (HPQ.out.set (.int .i64 (q - 1)))
      have HUF : Upd p w W5 := by
        rw [← hW5]
        exact (((((HU.out.set 0 _).setNew (by simp) _).setNew (by simp) _).setNew (by simp) _).setNew (by simp) _).setNew (by simp) _
      have hvf : VRow W5 (w.heap.size + 1 + 1 + 1) (.slice A0 l.length cap0) vs xs := (HV.out.upd ((Upd.refl p wr).set 0 (.int .i64 (q - 1))) (by omega)).upd (p := w.heap.size + 1) ⟨by rw [← hW5]; rfl, by rw [← hW5]; rfl, by rw [← hW5]; rfl, by rw [← hW5]; simp [World.setCell], fun k _ hk => hk5 k hk⟩ (by omega)
      obtain ⟨WF, hWF⟩ : ∃ WF, WF = W5 := ⟨_, rfl⟩
      rw [← hWF] at hvf HPF HUF hR5 ⊢
      clear hWF hW5 hk5 hbel5
      have z0 := hR5.cell 0 rfl
      have z1 := hR5.cell 1 rfl
      have z2 := hR5.cell 2 rfl
      have z3 := hR5.cell 3 rfl
      have z4 := hR5.cell 4 rfl
      refine bodyPost_ret (v := .agg #[.int .u8 3, .int .i64 0, .string ⟨#[]⟩, .slice A0 l.length cap0, .int .i64 0]) (by simp [results, Try.results63, go_sem, z0, z1, z2, z3, z4]) rfl ⟨_, rfl, ?_, ?_, HUF⟩
      · rw [E2.out, HEND.out.1]
        obtain ⟨A1, cap1, h1, h2, h3⟩ := hvf.list
        unfold IsVaR
        rw [HVL.out] at h1 h2
        have hll := workXs_len ns l left
        rw [HEND.out.1] at hll
        refine ⟨by omega, by omega, by show 0 ≤ _; omega, by omega, A1, cap1, by rw [HVL.out]; exact h2, by rw [HVL.out, h1], fun hne => ?_⟩
        obtain ⟨b', o', h4, h5, h6⟩ := h3 hne
        exact ⟨b', o', h4.low (by omega), h5, h6.mono (fun b o hr => hr.low (by omega))⟩
      · rw [E2.out, HEND.out.2]; exact HPF
theorem work_any (ns : List Na) (x : Ex) : WorkC ns x := by
  induction x using Ex.ind with
  | h k n s l IH =>
    intro w B v vn p left h hns hB hp h512 hlow hsz
    obtain ⟨h1, h2, h3, h4, A, cap, h5, rfl, h7⟩ := h.form
    have hns' := hns
    obtain ⟨_, An, ncap, _, rfl, _⟩ := hns'
    unfold szE at hlow hsz
    by_cases hk1 : k = 1
    · exact work_one ns k n s l A An cap ncap w p left h4 hp h512 (by omega) hk1
    by_cases hk2 : k = 2
    · exact work_two ns k n s l A An cap ncap w p left h4 hp h512 (by omega) hk2 h3
    by_cases hk4 : k = 4
    · exact work_four ns k n s l A An cap ncap w p left B hB hns h4 hp h512 (by omega) hk4
    by_cases hk3 : k = 3
    · exact work_three ns k n s l A An cap ncap w p left h4 hp h512 hlow hsz B hB hns IH h7 hk3
    · exact work_other ns k n s l A An cap ncap w p left h4 hp h512 (by omega) hk1 hk2 hk3 hk4
mutual
theorem mayX_sz : ∀ (x : Ex) (nest : Nat) (left : Int), (mayX x nest left).1 = true → (mayX x nest left).2 = left - szE x
  | .mk k n s l, nest, left => by
    unfold mayX szE
    split
    · simp
    · rename_i hc
      simp only [Bool.or_eq_true, Bool.and_eq_true, decide_eq_true_eq, not_or, not_and, bne_iff_ne, ne_eq, Bool.not_eq_true] at hc
      split
      · rename_i hk
        simp only [beq_iff_eq] at hk
        have hl : l = [] := by
          have := hc.1.2 (by omega)
          simpa using this
        subst hl; simp [szEs]
      · split
        · rename_i hk
          simp only [beq_iff_eq] at hk
          have hl : l = [] := by
            have := hc.1.2 (by omega)
            simpa using this
          subst hl; simp [szEs]
        · split
          · rename_i hk
            simp only [beq_iff_eq] at hk
            have hl : l = [] := by
              have := hc.1.2 (by omega)
              simpa using this
            subst hl; simp [szEs]
          · split
            · cases nest with
              | zero => simp
              | succ nest =>
                intro h
                have := mayXs_sz l nest (left - 1) h
                simp only at this ⊢
                omega
            · simp
theorem mayXs_sz : ∀ (l : List Ex) (nest : Nat) (left : Int), (mayXs l nest left).1 = true → (mayXs l nest left).2 = left - szEs l
  | [], nest, left => by simp [mayXs, szEs]
  | x :: l, nest, left => by
    unfold mayXs szEs
    split
    · rename_i hx
      intro h
      have h1 := mayX_sz x nest left hx
      have h2 := mayXs_sz l nest _ h
      omega
    · rename_i hx
      intro h; simp at h
end
theorem mayE_sz (x : Ex) (h : mayE x = true) : szE x ≤ 512 := by
  unfold mayE at h
  have h1 := mayX_sz x 16 512 h
  have h2 := (mayX_left x 16 512 (by omega)).2 h
  omega
theorem noneX_sz (x : Ex) (h : noneX x = true) : szE x = 1 := by
  obtain ⟨k, n, s, l⟩ := x
  unfold noneX at h
  simp only [Bool.and_eq_true, beq_iff_eq, List.length_eq_zero_iff] at h
  rw [h.2]; rfl
end Go.Proofs.Ytnknefdpglnbnaa
