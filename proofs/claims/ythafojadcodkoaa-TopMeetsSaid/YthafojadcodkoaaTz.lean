/- value.Refs. -/
import Derived.Test.YthafojadcodkoaaTy
import Derived.ArgAppend
namespace Go.RegT
open Go Go.RowKit
variable {P : Program} {ops : Array Oper} {md : Region.Mode} {Q : Exit → Act → World → Prop} {T : Nat → Bool} {S : World → Prop}
/-- Quiet operations first; then two that may come in either order; then the rest. -/
def seqM2 (P : Program) (ops : Array Oper) (Q : Exit → Act → World → Prop) (T : Nat → Bool) (S : World → Prop) (i j : Nat) (post : List (Bool × Nat)) : List Nat → Act → World → Prop
  | [], a, w => seqM P ops Q T S ((false, i) :: (false, j) :: post) a w ∧ seqM P ops Q T S ((false, j) :: (false, i) :: post) a w
  | k :: rest, a, w => S w ∧ ∃ oi v, ops[k]? = some oi ∧ YieldsIf P ops S oi v a ∧ (∀ c a w, Q (.panic c) (a.put oi.dst v) w → Q (.panic c) a w) ∧ seqM2 P ops Q T S i j post rest (a.put oi.dst v) w
def okM2 (md : Region.Mode) (ops : Array Oper) (T : Nat → Bool) (i j : Nat) (post : List (Bool × Nat)) : List Nat → Array Bool → Bool
  | [], listed => (Region.ready md ops listed == [i, j]) && (i != j) && okM md ops T ((false, j) :: post) (listed.setIfInBounds i true) && okM md ops T ((false, i) :: post) (listed.setIfInBounds j true)
  | k :: rest, listed => takeB md ops T listed k && okM2 md ops T i j post rest (listed.setIfInBounds k true)
theorem of_seqM2 (hs : Region.noSelect ops = true) (i j : Nat) (post : List (Bool × Nat)) : ∀ (l : List Nat) (fuel : Nat) (listed : Array Bool) (a : Act) (w : World), okM2 md ops T i j post l listed = true → l.length + 2 + post.length ≤ fuel →
    seqM2 P ops Q T S i j post l a w → wpAnyT P md ops Q T S fuel listed a w
  | [], 0, _, _, _, _, hf, _ => by simp at hf
  | [], fuel + 1, listed, a, w, hl, hf, h => by
    simp only [okM2, Bool.and_eq_true, beq_iff_eq] at hl
    obtain ⟨⟨⟨h1, h2⟩, h3⟩, h4⟩ := hl
    refine ⟨fun h0 => (by rw [h1] at h0; cases h0), fun x hx => ?_⟩
    rw [h1] at hx
    rcases List.mem_cons.1 hx with rfl | hx
    · exact wpOp_mono (fun a' w' h' => ⟨h'.1, of_seqM hs ((false, j) :: post) fuel _ a' w' h3 (by simp at hf ⊢; omega) h'.2⟩) h.1
    · rw [List.mem_singleton] at hx
      subst hx
      exact wpOp_mono (fun a' w' h' => ⟨h'.1, of_seqM hs ((false, i) :: post) fuel _ a' w' h4 (by simp at hf ⊢; omega) h'.2⟩) h.2
  | _ :: _, 0, _, _, _, _, hf, _ => by simp at hf
  | k :: rest, fuel + 1, listed, a, w, hl, hf, h => by
    simp only [okM2, Bool.and_eq_true] at hl
    obtain ⟨hS, oi, v, h1, h2, h3, h4⟩ := h
    exact take h1 hs hl.1 h3 h2 hS (of_seqM2 hs i j post rest fuel _ _ w hl.2 (by simp only [List.length_cons] at hf; omega) h4)
theorem seqM2_quiet {i j : Nat} {post : List (Bool × Nat)} {rest : List Nat} {k : Nat} {oi : Oper} {v : Value} {a : Act} {w : World} (hS : S w) (hi : ops[k]? = some oi) (hQ : ∀ c a w, Q (.panic c) (a.put oi.dst v) w → Q (.panic c) a w) (hw : Region.wanted oi (yielded ops a.tmps) = true) (hy : ∀ w, S w → (execOp a.eval oi).run P w = .ok (.value v) w)
    (h : seqM2 P ops Q T S i j post rest (a.put oi.dst v) w) : seqM2 P ops Q T S i j post (k :: rest) a w := ⟨hS, oi, v, hi, .inl ⟨hw, hy⟩, hQ, h⟩
theorem region_mix2 {id : Nat} {a : Act} {w : World} (T : Nat → Bool) (S : World → Prop) (i j : Nat) (post : List (Bool × Nat)) (l : List Nat) (hm : P.follows .mixedOrders = true) (hs : Region.noSelect ops = true)
    (hk : okM2 .any ops T i j post l (Array.replicate ops.size false) = true) (hl : l.length + 2 + post.length ≤ ops.size)
    (h : seqM2 P ops (NP Q) T S i j post l a w.drew) : (Code.region id ops true).wp P Q a w :=
  region_np T S hm (of_seqM2 hs i j post l _ _ _ _ hk hl h)
end Go.RegT
namespace Go.Proofs.Ythafojadcodkoaa
open Go.RowKit

mutual
/-- How many values a value holds, itself among them. -/
def cntV : Va → Nat
  | .mk _ _ _ l _ => cntVs l + 1
def cntVs : List Va → Nat
  | [] => 0
  | x :: l => cntV x + cntVs l
end
theorem cntVs_take : ∀ (l : List Va) (k : Nat) (h : k < l.length), cntVs (l.take (k + 1)) = cntVs (l.take k) + cntV l[k]
  | [], k, h => by simp at h
  | x :: l, 0, h => by simp [cntVs]
  | x :: l, k + 1, h => by
    rw [List.take_succ_cons, List.take_succ_cons, cntVs, cntVs, cntVs_take l k (by simpa using h)]
    simp; omega
theorem cntVs_le : ∀ (l : List Va) (k : Nat), cntVs (l.take k) ≤ cntVs l
  | [], k => by simp [cntVs]
  | x :: l, 0 => by simp [cntVs]
  | x :: l, k + 1 => by rw [List.take_succ_cons, cntVs, cntVs]; have := cntVs_le l k; omega
theorem takeV_nil (k n : Int) (s : ByteArray) (l : List Va) (r : Int) (q m q' : Nat) (hk : ¬ k = 3) (h : takeV (.mk k n s l r) (q + 1) m = some q') : l = [] := by
  unfold takeV at h
  have hk3 : (k == 3) = false := by simpa using hk
  cases l with
  | nil => rfl
  | cons x l => simp [hk3] at h
mutual
theorem takeV_cnt : ∀ (x : Va) (q m q' : Nat), takeV x q m = some q' → q' + cntV x ≤ q
  | .mk k n s l r, q, m, q', h => by
    cases q with
    | zero => unfold takeV at h; cases h
    | succ q =>
      by_cases hk : k = 3
      · subst hk
        unfold takeV at h
        cases m with
        | zero => simp at h
        | succ m =>
          simp only [show ((3 : Int) == 0) = false from rfl, show ((3 : Int) == 1) = false from rfl, show ((3 : Int) == 2) = false from rfl, show ((3 : Int) == 4) = false from rfl, show ((3 : Int) == 3) = true from rfl, if_true, Bool.false_eq_true, if_false] at h
          split at h
          · cases h
          · split at h
            · cases h
            · rename_i q2 h2
              split at h
              · simp at h; subst h; have := takeVs_cnt l q m q2 h2; rw [cntV]; omega
              · cases h
      · have h1 := takeV_plain k n s l r q m q' hk h
        have h2 := takeV_nil k n s l r q m q' hk h
        subst h2
        simp only [cntV, cntVs]; omega
theorem takeVs_cnt : ∀ (l : List Va) (q m q' : Nat), takeVs l q m = some q' → q' + cntVs l ≤ q
  | [], q, m, q', h => by simp [takeVs] at h; simp [cntVs]; omega
  | x :: l, q, m, q', h => by
    unfold takeVs at h
    split at h
    · cases h
    · rename_i q1 h1
      have a := takeV_cnt x q m q1 h1
      have b := takeVs_cnt l q1 m q' h
      rw [cntVs]; omega
end
theorem mayV_cnt {x : Va} (h : mayV x = true) : cntV x ≤ 512 := by
  cases hx : takeV x 512 16 with
  | none => unfold mayV at h; rw [hx] at h; cases h
  | some q => have := takeV_cnt x 512 16 q hx; omega

def one4 (k : Int) : Nat := if k = 4 then 1 else 0
mutual
/-- How many references a value holds. -/
def refN : Va → Nat
  | .mk k _ _ l _ => refNs l + one4 k
def refNs : List Va → Nat
  | [] => 0
  | x :: l => refN x + refNs l
end
theorem refNs_take : ∀ (l : List Va) (k : Nat) (h : k < l.length), refNs (l.take (k + 1)) = refNs (l.take k) + refN l[k]
  | [], k, h => by simp at h
  | x :: l, 0, h => by simp [refNs]
  | x :: l, k + 1, h => by
    rw [List.take_succ_cons, List.take_succ_cons, refNs, refNs, refNs_take l k (by simpa using h)]
    simp; omega
/-- A world in which a row that is told references has grown: the row is named in q. -/
structure GK (q : Nat) (rv : Value) (w : World) (rv' : Value) (w' : World) : Prop where
  os : w'.os = w.os
  tape : w'.tape = w.tape
  output : w'.output = w.output
  size : w.heap.size ≤ w'.heap.size
  block : ∀ k, k < w.heap.size → k ≠ q → rv.ownBlock ≠ some k → w'.heap[k]? = w.heap[k]?
  own : ∀ g, rv'.ownBlock = some g → rv.ownBlock = some g ∨ w.heap.size ≤ g
theorem GK.refl (q : Nat) (rv : Value) (w : World) : GK q rv w rv w := ⟨rfl, rfl, rfl, Nat.le_refl _, fun _ _ _ _ => rfl, fun _ h => .inl h⟩
theorem GK.trans {q : Nat} {ra rb rc : Value} {a b c : World} (h : GK q ra a rb b) (k : GK q rb b rc c) : GK q ra a rc c :=
  ⟨k.os.trans h.os, k.tape.trans h.tape, k.output.trans h.output, Nat.le_trans h.size k.size, fun i hi hq hr => (k.block i (Nat.lt_of_lt_of_le hi h.size) hq (fun e => by rcases h.own i e with e | e; exact hr e; omega)).trans (h.block i hi hq hr),
    fun g hg => by rcases k.own g hg with e | e; exact h.own g e; exact .inr (Nat.le_trans h.size e)⟩
theorem GK.of_below {q : Nat} {rv : Value} {w w' : World} (h : Below w.heap.size w w') : GK q rv w rv w' := ⟨h.os, h.tape, h.output, h.size, fun k hk _ _ => h.block k hk, fun _ h => .inl h⟩
theorem GK.of_upd {q : Nat} {rv rv' : Value} {w w' : World} (h : Upd q w w') (ho : ∀ g, rv'.ownBlock = some g → rv.ownBlock = some g ∨ w.heap.size ≤ g) : GK q rv w rv' w' := ⟨h.os, h.tape, h.output, h.size, fun k hk hq _ => h.block k hk hq, ho⟩
theorem GK.of_grown {q : Nat} {rv rv' : Value} {w w' : World} (h : w.grownBy w' rv.ownBlock) (ho : rv'.ownBlock = rv.ownBlock ∨ ∃ g, rv'.ownBlock = some g ∧ w.heap.size ≤ g) : GK q rv w rv' w' :=
  ⟨h.os, h.tape, h.output, h.size, fun k hk _ hr => h.block k hk (Ne.symm hr), fun g hg => by
    rcases ho with e | ⟨g', e, hg'⟩
    · exact .inl (e ▸ hg)
    · rw [e] at hg; cases hg; exact .inr hg'⟩
theorem IRow.low {w : World} {lo lo' : Nat} {v : Value} {xs : List Int} (h : IRow w lo v xs) (hl : lo' ≤ lo) : IRow w lo' v xs := by
  refine ⟨h.1, ?_⟩
  rcases h.2 with h2 | ⟨g, cap, cur, h1, hb, hg, r⟩
  · exact .inl h2
  · exact .inr ⟨g, cap, cur, h1, Nat.le_trans hl hb, hg, r⟩
/-- The row that q names. -/
def StR (q : Nat) (w : World) (rv : Value) (xs : List Int) : Prop := BlkN w q 69 #[rv] ∧ IRow w (q + 1) rv xs
theorem StR.below {q : Nat} {w w' : World} {rv : Value} {xs : List Int} (h : StR q w rv xs) (hb : Below w.heap.size w w') : StR q w' rv xs := ⟨h.1.below hb, h.2.below hb⟩
theorem StR.off {q : Nat} {w : World} {rv : Value} {xs : List Int} (h : StR q w rv xs) {b : Nat} (hb : b ≤ q ∨ w.heap.size ≤ b) : rv.ownBlock ≠ some b := fun e => by have := h.2.blk e; omega
theorem wpList_append_ref2 (w : World) {ops : Array Oper} {rest : List Oper} {o : Oper} {a : Act} {Q : Exit → Act → World → Prop} (hgd : o.guard = Option.none) (s x : Operand)
    (ho : o.op = .call { callee := .builtin .append, args := #[s, x], argTypes := #[69, 69] })
    (lo : Nat) (v : Value) (xs : List Int) (hs : a.eval s = v) (hown : IRow w lo v xs) (g : Nat) (r : Int) (hx : a.eval x = .slice (some ⟨g, 0, Option.none⟩) 1 1)
    (hg : BlkN w g 25 #[.int .i64 r]) (hlen : xs.length ≤ 2000000) (hbase : lo ≤ w.heap.size)
    (h : ∀ v' w', IRow w' lo v' (xs ++ [r]) → w.grownBy w' v.ownBlock → (v'.ownBlock = v.ownBlock ∨ ∃ g, v'.ownBlock = some g ∧ w.heap.size ≤ g) → wpList Try.prog ops Q rest (a.put o.dst v') w') : wpList Try.prog ops Q (o :: rest) a w := by
  obtain ⟨i0, hi, hz0, hz1, hz2⟩ := info_parts info25
  refine wpList_append_row w hgd s x 69 ho lo 25 i0 (.int .i64 0) 1 8 Try.underlying69 hi hz0 hz1 hz2 rfl (by decide) v xs.length (xs.map (Value.int .i64)) hs hown ⟨g, 0, Option.none⟩ 1 1 [.int .i64 r] hx rfl (fun j u hu => ?_) (fun u hu => ?_) (by unfold maxLen; omega) (by omega) hbase ?_
  · obtain ⟨rfl, rfl⟩ : j = 0 ∧ u = .int .i64 r := by
      cases j with
      | zero => exact ⟨rfl, by simpa using hu.symm⟩
      | succ j => simp at hu
    exact hg.cell 0 rfl
  · rw [List.mem_singleton.1 hu]; rfl
  · intro v' w' h1 h2 h3
    refine h v' w' ?_ h2 h3
    unfold IRow
    rw [List.map_append, List.length_append]
    exact h1
/-- A path: a slice of n numbers that can be read. -/
def PathR (w : World) (v : Value) (n : Nat) : Prop := ∃ (ao : Option Addr) (cap : Nat) (olds : List Value), v = .slice ao n cap ∧ (ao = Option.none → n = 0 ∧ cap = 0) ∧ olds.length = n ∧ n ≤ cap ∧ ∀ b, ao = some b → ∃ pb, b = ⟨pb, 0, Option.none⟩ ∧ pb < w.heap.size ∧ ∀ j u, olds[j]? = some u → w.cell? ⟨pb, j, Option.none⟩ = some u
theorem PathR.nil (w : World) : PathR w (.slice Option.none 0 0) 0 := ⟨_, _, [], rfl, fun _ => ⟨rfl, rfl⟩, rfl, Nat.le_refl _, fun b hb => by cases hb⟩
theorem PathR.row {w : World} {lo : Nat} {v : Value} {n : Nat} {xs : List Value} (h : w.ownsRow lo 3 1 v n xs) (hn : 0 < n) : PathR w v n ∧ ∀ b, v.ownBlock = some b → lo ≤ b ∧ b < w.heap.size := by
  refine ⟨?_, fun b hb => World.ownsRow.lt h b hb⟩
  rcases h.2 with ⟨rfl, h0⟩ | ⟨g, cap, cur, rfl, hb, hg, hc, h7, h8, h9⟩
  · omega
  · have hB : BlkN w g 3 cur := hg
    refine ⟨_, cap, xs, rfl, (fun h => by cases h), by have := h.1; omega, hc, fun b hb => ?_⟩
    cases hb
    refine ⟨g, rfl, hB.lt, fun j u hj => hB.cell j ?_⟩
    rw [← h9] at hj
    have : j < n * 1 := by
      rcases Nat.lt_or_ge j (n * 1) with h | h
      · exact h
      · rw [List.getElem?_take_eq_none h] at hj; cases hj
    rw [List.getElem?_take_of_lt this] at hj
    simpa using hj
theorem info3 : (Try.prog.info? 3).map (fun i => (i.zero, i.size, i.bytes)) = some (some (.int .i64 0), 1, 8) := by kernel_rfl
section
attribute [local irreducible] RegT.seqT RegT.seqM RegT.seqM2 wpList
set_option maxRecDepth 100000 in
theorem clip_any (w : World) (ao : Option Addr) (n cap : Nat) (h : ao = Option.none → n = 0 ∧ cap = 0) (hc : n ≤ cap) (hn : n ≤ 2000000) : Calls Try.prog 79 #[.slice ao n cap] w fun e w' => e = .returned (.slice ao n n) ∧ w = w' := by
  cases ao with
  | none =>
    obtain ⟨rfl, rfl⟩ := h rfl
    go_enter Try.func79, Try.ntmps79
    go_wp2_with fail
    go_ret
    exact ⟨rfl, rfl⟩
  | some b =>
    obtain ⟨b, o, s⟩ := b
    clear h
    go_enter Try.func79, Try.ntmps79
    go_wp2_with fail
    go_ret
    exact ⟨by simp, rfl⟩
set_option maxRecDepth 100000 in
set_option maxHeartbeats 2000000 in
theorem tell76 (w : World) (q : Nat) (rv : Value) (xs : List Int) (path : Value) (k n : Int) (s : ByteArray) (A : Option Addr) (len cap : Nat) (r : Int) (h : StR q w rv xs) (hx : xs.length ≤ 1000000) :
    Calls Try.prog 76 #[path, .agg #[.int .u8 k, .int .i64 n, .string s, .slice A len cap, .int .i64 r], .pointer (some ⟨q, 0, Option.none⟩)] w fun e w' => e = .returned (.bool true) ∧ ∃ rv' xs', StR q w' rv' xs' ∧ xs'.length ≤ xs.length + one4 k ∧ GK q rv w rv' w' := by
  have hql := h.1.lt
  obtain ⟨W, hW⟩ : ∃ W, W = w.alloc (.cells #[.int .u8 k, .int .i64 n, .string s, .slice A len cap, .int .i64 r] 49) := ⟨_, rfl⟩
  have hb : Below w.heap.size w W := by rw [hW]; exact (Below.refl _ _).alloc (Nat.le_refl _) _
  have hbx : BlkN W w.heap.size 49 #[.int .u8 k, .int .i64 n, .string s, .slice A len cap, .int .i64 r] := by rw [hW]; exact BlkN.at_ rfl _ _
  have HB := Lib.hid hb
  have HH := Lib.hid (h.below hb)
  have d0 := hbx.cell 0 rfl
  have d4 := hbx.cell 4 rfl
  have dq := HH.out.1.cell 0 rfl
  have hWl : w.heap.size < W.heap.size := hbx.lt
  clear h hb hbx
  go_enter Try.func76, Try.ntmps76
  go_upto_region 1 with fail
  rw [← hW]
  clear hW
  cases hk : (k == 4) with
  | false =>
    go_wp2_with fail
    go_ret
    exact ⟨rfl, rv, xs, HH.out, by omega, GK.of_below HB.out⟩
  | true =>
    have HK := Lib.hid hk
    go_wp2_with (refine wpList_append_ref2 _ rfl (.tmp 9) (.tmp 12) rfl (q + 1) rv xs rfl (HH.out.2.below ((Below.refl _ _).alloc (Nat.le_refl _) _)) _ r rfl (BlkN.at_ rfl 25 _) (by omega) (by simp; omega) ?_
                 intro v2 w2 hv2 hg2 ho2
                 obtain ⟨A2, cap2, he⟩ := hv2.slice
                 rw [show (xs ++ [r]).length = xs.length + 1 by simp] at he
                 subst he
                 have hgk : GK q rv W _ w2 := (GK.of_below ((Below.refl _ _).alloc (Nat.le_refl _) _)).trans (GK.of_grown hg2 ho2)
                 have hq2 : BlkN w2 q 69 #[rv] := (hg2.block q (by simp; omega) (Ne.symm (HH.out.off (.inl (Nat.le_refl _))))).trans (HH.out.1.alloc _)
                 have HGK := Lib.hid hgk
                 have HQ2 := Lib.hid hq2
                 have HV2 := Lib.hid hv2
                 have dq2 := hq2.cell 0 rfl
                 have fq2 := hq2.free 0
                 clear hv2 hg2 ho2 hgk hq2)
    go_ret
    have hu : Upd q w2 (w2.setCell ⟨q, 0, Option.none⟩ (.slice A2 (xs.length + 1) cap2)) := (Upd.refl _ _).set 0 _
    exact ⟨rfl, _, xs ++ [r], ⟨HQ2.out.set 0 _, own_upd HV2.out hu (by omega)⟩, by simp [one4, eq_of_beq HK.out], (GK.of_below HB.out).trans (HGK.out.trans (GK.of_upd hu fun g hg => .inl hg))⟩
def WalkC (x : Va) : Prop := ∀ (w : World) (B q : Nat) (v path rv : Value) (xs : List Int) (n : Nat), IsVa w B v x → B ≤ q → StR q w rv xs → PathR w path n → (∀ b, path.ownBlock = some b → rv.ownBlock ≠ some b ∧ b ≠ q) → xs.length + cntV x ≤ 1000000 → n + cntV x ≤ 1000000 →
  Calls Try.prog 75 #[v, path, .func (.func 76) #[] #[.pointer (some ⟨q, 0, Option.none⟩)]] w fun e w' => e = .returned (.bool true) ∧ ∃ rv' xs', StR q w' rv' xs' ∧ xs'.length ≤ xs.length + cntV x ∧ xs'.length ≤ xs.length + refN x ∧ GK q rv w rv' w'
set_option maxRecDepth 100000 in
set_option maxHeartbeats 16000000 in
theorem walk_step (k n0 : Int) (s : ByteArray) (l : List Va) (r : Int) (IH : ∀ x ∈ l, WalkC x) : WalkC (.mk k n0 s l r) := by
  intro w B q v path rv xs n hv hBq hst hpa hpo hcx hcn
  obtain ⟨h1, h2, h3, h4, A, cap, h5, rfl, h7⟩ := hv.form
  rw [cntV] at hcx hcn
  have hql := hst.1.lt
  obtain ⟨i3, hi3, hz30, hz3, hz32⟩ := info_parts info3
  have HI3 := Lib.hid hi3
  obtain ⟨W, hW⟩ : ∃ W, W = w.alloc (.cells #[.int .u8 k, .int .i64 n0, .string s, .slice A l.length cap, .int .i64 r] 49) := ⟨_, rfl⟩
  have hb : Below w.heap.size w W := by rw [hW]; exact (Below.refl _ _).alloc (Nat.le_refl _) _
  have hbx : BlkN W w.heap.size 49 #[.int .u8 k, .int .i64 n0, .string s, .slice A l.length cap, .int .i64 r] := by rw [hW]; exact BlkN.at_ rfl _ _
  have HB := Lib.hid hb
  have HBX := Lib.hid hbx
  have C76 := Lib.hid (tell76 W q rv xs path k n0 s A l.length cap r (hst.below hb) (by omega))
  have d0 := hbx.cell (v := .int .u8 k) 0 rfl
  have d1 := hbx.cell (v := .int .i64 n0) 1 rfl
  have d2 := hbx.cell (v := .string s) 2 rfl
  have d3 := hbx.cell (v := .slice A l.length cap) 3 rfl
  have d4 := hbx.cell (v := .int .i64 r) 4 rfl
  have hWl : w.heap.size < W.heap.size := hbx.lt
  have HST := Lib.hid hst
  have HPA := Lib.hid hpa
  have HPO := Lib.hid hpo
  have H7 := Lib.hid h7
  have HIH := Lib.hid IH
  have hlen : l.length ≤ 140737488351232 := by omega
  clear hv hst hpa hpo h7 IH hb hbx hi3 h1 h2 h3
  go_enter Try.func75, Try.ntmps75
  go_upto_region 1 with fail
  rw [← hW]
  clear hW
  go_upto_region 3 with (go_at_call 76; with_reducible refine C76.out.mono ?_; rintro e w1 ⟨rfl, rv1, xs1, hst1, hx1, hgk1⟩; have HST1 := Lib.hid hst1; have HGK1 := Lib.hid hgk1; clear hst1 hgk1)
  have hbx1 : BlkN w1 w.heap.size 49 #[.int .u8 k, .int .i64 n0, .string s, .slice A l.length cap, .int .i64 r] := (HGK1.out.block _ (by omega) (by omega) (HST.out.off (.inr (Nat.le_refl _)))).trans HBX.out
  have d3 := hbx1.cell (v := .slice A l.length cap) 3 rfl
  have HG1 : Hid (GK q rv w rv1 w1) := Lib.hid ((GK.of_below HB.out).trans HGK1.out)
  clear hbx1 C76 HBX
  go_upto_region 4 with fail
  clear d3
  go_loopw [17] (fun i wr => ∃ (j : Nat) (rvj : Value) (xsj : List Int), j ≤ l.length ∧ i = .int .i64 j ∧ StR q wr rvj xsj ∧ xsj.length ≤ xs.length + 1 + cntVs (l.take j) ∧ xsj.length ≤ xs.length + one4 k + refNs (l.take j) ∧ GK q rv w rvj wr) (fun i _ => l.length - (intOf i).toNat)
  case atStart => exact ⟨0, rv1, xs1, Nat.zero_le _, rfl, HST1.out, by simp only [List.take_zero, cntVs]; have : one4 k ≤ 1 := (by unfold one4; split <;> omega); omega, by simp only [List.take_zero, refNs]; omega, HG1.out⟩
  case round =>
    obtain ⟨j, rvj, xsj, hj, rfl, hsj, hxj, hyj, hgj⟩ := hrel
    have HSJ := Lib.hid hsj
    have HGJ := Lib.hid hgj
    have hwr := hgj.size
    have hqr := hsj.1.lt
    clear hsj hgj HST1 HG1 HGK1
    by_cases hlt : j < l.length
    · obtain ⟨b, o, hbB, hA, hx⟩ := H7.out (by rintro rfl; simp at hlt)
      subst hA
      have hkw : ∀ b', b' < B → wr.heap[b']? = w.heap[b']? := fun b' hb' => HGJ.out.block b' (by omega) (by omega) (HST.out.off (.inl (by omega)))
      obtain ⟨k', n', s', A', len', cap', r', hat, hxv⟩ := hx.at2 j hlt
      have hat : At wr b (o + j * 5) [.int .u8 k', .int .i64 n', .string s', .slice A' len' cap', .int .i64 r'] := fun i v hi => (World.cell?_of_block (w := w) (hkw b hbB)).trans (hat i v hi)
      have HKW := Lib.hid hkw
      have HXV := Lib.hid hxv
      have HC := Lib.hid (HIH.out l[j] (List.getElem_mem hlt))
      have hcj := cntVs_take l j hlt
      have hrj := refNs_take l j hlt
      have hcl := cntVs_le l (j + 1)
      obtain ⟨X, hX⟩ : ∃ X, X = l[j] := ⟨_, rfl⟩
      rw [← hX] at hcj hrj
      have HC : Hid (WalkC X) := Lib.hid (by rw [hX]; exact HC.out)
      have HXV : Hid (IsVa w B (.agg #[.int .u8 k', .int .i64 n', .string s', .slice A' len' cap', .int .i64 r']) X) := Lib.hid (by rw [hX]; exact HXV.out)
      have e0 := hat 0 _ rfl
      have e1 := hat 1 _ rfl
      have e2 := hat 2 _ rfl
      have e3 := hat 3 _ rfl
      have e4 := hat 4 _ rfl
      rw [Nat.add_zero] at e0
      have HX := Lib.hid hX
      have hcj1 : cntVs (l.take j) + cntV X ≤ cntVs l := by omega
      have hcj2 : cntVs (l.take (j + 1)) ≤ cntVs (l.take j) + cntV X ∧ cntVs (l.take j) + cntV X ≤ cntVs (l.take (j + 1)) := by omega
      have HRJ := Lib.hid hrj
      have HYJ := Lib.hid hyj
      clear hx hat hxv hX hcj hkw hrj hyj
      go_upto_region 6 with fail
      obtain ⟨w1, hw1⟩ : ∃ w1, w1 = wr.alloc (.cells #[.int .u8 k', .int .i64 n', .string s', .slice A' len' cap', .int .i64 r'] 49) := ⟨_, rfl⟩
      rw [← hw1]
      have hb1 : Below wr.heap.size wr w1 := by rw [hw1]; exact (Below.refl _ _).alloc (Nat.le_refl _) _
      have hbp : BlkN w1 wr.heap.size 49 #[.int .u8 k', .int .i64 n', .string s', .slice A' len' cap', .int .i64 r'] := by rw [hw1]; exact BlkN.at_ rfl _ _
      have HB1 := Lib.hid hb1
      have HBP := Lib.hid hbp
      have hs1 := hbp.lt
      clear hw1 hb1 hbp e0 e1 e2 e3 e4
      obtain ⟨pa, pcap, olds, hpe, hpn, hpl, hpc, hpb⟩ := HPA.out
      have HPE := Lib.hid hpe
      have HPN := Lib.hid hpn
      have HPB := Lib.hid hpb
      have hn2 : n ≤ 2000000 := by omega
      have C79 := Lib.hid (fun w' => clip_any w' pa n pcap hpn hpc hn2)
      subst hpe
      clear hpn hpb
      refine RegT.region_mix2 (fun i => Nat.ble i 6) (fun U => BlkN U wr.heap.size 49 #[.int .u8 k', .int .i64 n', .string s', .slice A' len' cap', .int .i64 r']) 2 4 [(false, 5), (false, 7), (false, 8)] [0, 1, 3, 6] rfl (by kernel_rfl) (by kernel_rfl) (by decide) ?_
      have hS0 : BlkN w1.drew wr.heap.size 49 #[.int .u8 k', .int .i64 n', .string s', .slice A' len' cap', .int .i64 r'] := HBP.out
      refine RegT.seqM2_quiet hS0 rfl (fun _ _ _ h => h) (by kernel_rfl) (v := .agg #[.int .u8 k', .int .i64 n', .string s', .slice A' len' cap', .int .i64 r']) (fun w' hS => ?_) ?_
      · have t0 := hS.cell (v := .int .u8 k') 0 rfl; have t1 := hS.cell (v := .int .i64 n') 1 rfl; have t2 := hS.cell (v := .string s') 2 rfl; have t3 := hS.cell (v := .slice A' len' cap') 3 rfl; have t4 := hS.cell (v := .int .i64 r') 4 rfl; go_simp
      refine RegT.seqM2_quiet hS0 rfl (fun _ _ _ h => h) (by kernel_rfl) (v := .slice pa n pcap) (fun w' hS => ?_) ?_
      · go_simp
      refine RegT.seqM2_quiet hS0 rfl (fun _ _ _ h => h) (by kernel_rfl) (v := .int .i64 j) (fun w' hS => ?_) ?_
      · go_simp
      refine RegT.seqM2_quiet hS0 rfl (fun _ _ _ h => h) (by kernel_rfl) (v := .func (.func 76) #[] #[.pointer (some ⟨q, 0, Option.none⟩)]) (fun w' hS => ?_) ?_
      · go_simp
      have HD : Hid (Below wr.heap.size wr w1.drew) := Lib.hid HB1.out.drew
      have HSD := Lib.hid hS0
      obtain ⟨V, hV⟩ : ∃ V, V = w1.drew := ⟨_, rfl⟩
      rw [← hV] at HD HSD ⊢
      have hVs : V.heap.size ≤ w1.heap.size ∧ w1.heap.size ≤ V.heap.size := by rw [hV]; simp
      clear hS0 hV HB1 HBP
      unfold RegT.seqM2
      constructor
      · refine RegT.seqM_held rfl ?_
        go_wp2_with (go_at_call 79; with_reducible refine (C79.out _).mono ?_; rintro e2 w2 ⟨rfl, rfl⟩)
        refine ⟨HSD.out, ?_⟩
        refine RegT.seqM_held rfl ?_
        go_wp2_with fail
        refine ⟨HSD.out.alloc _, ?_⟩
        obtain ⟨W2, hW2⟩ : ∃ W2, W2 = V.alloc (.cells #[.int .i64 j] 3) := ⟨_, rfl⟩
        have HB2 : Hid (Below wr.heap.size wr W2) := Lib.hid (by rw [hW2]; exact HD.out.alloc (by have := HD.out.size; omega) _)
        have HN2 : Hid (BlkN W2 V.heap.size 3 #[.int .i64 j]) := Lib.hid (by rw [hW2]; exact BlkN.at_ rfl _ _)
        have HS2 : Hid (BlkN W2 wr.heap.size 49 #[.int .u8 k', .int .i64 n', .string s', .slice A' len' cap', .int .i64 r']) := Lib.hid (by rw [hW2]; exact HSD.out.alloc _)
        rw [← hW2]
        clear hW2
        refine RegT.seqM_held rfl ?_
        refine wpList_append_grows W2 rfl (.tmp 24) (.tmp 26) 23 rfl 3 i3 (.int .i64 0) 1 8 Try.underlying23 HI3.out hz30 hz3 hz32 rfl (by decide) pa n n olds rfl (fun h => ⟨(HPN.out h).1, (HPN.out h).1⟩) (by omega) (fun b hb => ?hc) ⟨V.heap.size, 0, Option.none⟩ 1 1 [.int .i64 j] rfl rfl (fun i u hu => ?hn) (fun u hu => by rw [List.mem_singleton.1 hu]; rfl) (by omega) (by unfold maxLen; omega) (by omega) ?hk
        case hc =>
          obtain ⟨pb, rfl, hpw, hcl⟩ := HPB.out b hb
          intro i u hi
          have ho := HPO.out pb (by rw [hb]; rfl)
          have hbl : W2.heap[pb]? = w.heap[pb]? := (HB2.out.block pb (by omega)).trans (HGJ.out.block pb hpw ho.2 ho.1)
          rw [Addr.add_lit, Nat.zero_add]
          exact (World.cell?_of_block (w := w) hbl).trans (hcl i u hi)
        case hn =>
          cases i with
          | zero => simp at hu; subst hu; exact HN2.out.cell 0 rfl
          | succ i => simp at hu
        case hk =>
        intro pv W3 hrow hgr
        have hb23 : Below W2.heap.size W2 W3 := ⟨hgr.os, hgr.tape, hgr.output, hgr.size, fun k hk => hgr.block k hk (by intro e; cases e)⟩
        have hpr := PathR.row hrow (by omega)
        have HB3 := Lib.hid (bnext HB2.out hb23)
        have hw2 := HB2.out.size
        have hw3 := hb23.size
        have HC3 := Lib.hid (HC.out W3 B q (.agg #[.int .u8 k', .int .i64 n', .string s', .slice A' len' cap', .int .i64 r']) pv rvj xsj (n + 1) (IsVaR.keep (fun b o hb' => (HB3.out.block b (by omega)).trans (HKW.out b hb')) HXV.out) hBq (HSJ.out.below HB3.out) hpr.1 (fun b hb' => ⟨HSJ.out.off (.inr (by have := (hpr.2 b hb').1; omega)), by have := (hpr.2 b hb').1; omega⟩) (by omega) (by omega))
        refine RegT.wpList_end ⟨HS2.out.below hb23, ?_⟩
        clear hrow hgr hb23 hpr
        refine RegT.seqM_free rfl rfl ?_
        go_wp2_with (go_at_call 75; with_reducible refine HC3.out.mono ?_; rintro e4 w4 ⟨rfl, rv4, xs4, hst4, hx4, hy4, hg4⟩)
        have HST4 := Lib.hid hst4
        have HG4 := Lib.hid (HGJ.out.trans ((GK.of_below HB3.out).trans hg4))
        clear hst4 hg4
        refine RegT.seqM_free rfl rfl ?_
        go_wp2_with fail
        refine RegT.seqM_end ?_
        simp only [RegT.NP, Exit.then]
        go_wp2_with fail
        go_roundw
        case rel => exact ⟨j + 1, rv4, xs4, by omega, by go_num, HST4.out, by omega, by have := HRJ.out; have := HYJ.out; omega, HG4.out⟩
        case measure => simp [intOf]; omega
      · refine RegT.seqM_held rfl ?_
        go_wp2_with fail
        refine ⟨HSD.out.alloc _, ?_⟩
        refine RegT.seqM_held rfl ?_
        go_wp2_with (go_at_call 79; with_reducible refine (C79.out _).mono ?_; rintro e2 w2 ⟨rfl, rfl⟩)
        refine ⟨HSD.out.alloc _, ?_⟩
        obtain ⟨W2, hW2⟩ : ∃ W2, W2 = V.alloc (.cells #[.int .i64 j] 3) := ⟨_, rfl⟩
        have HB2 : Hid (Below wr.heap.size wr W2) := Lib.hid (by rw [hW2]; exact HD.out.alloc (by have := HD.out.size; omega) _)
        have HN2 : Hid (BlkN W2 V.heap.size 3 #[.int .i64 j]) := Lib.hid (by rw [hW2]; exact BlkN.at_ rfl _ _)
        have HS2 : Hid (BlkN W2 wr.heap.size 49 #[.int .u8 k', .int .i64 n', .string s', .slice A' len' cap', .int .i64 r']) := Lib.hid (by rw [hW2]; exact HSD.out.alloc _)
        rw [← hW2]
        clear hW2
        refine RegT.seqM_held rfl ?_
        refine wpList_append_grows W2 rfl (.tmp 24) (.tmp 26) 23 rfl 3 i3 (.int .i64 0) 1 8 Try.underlying23 HI3.out hz30 hz3 hz32 rfl (by decide) pa n n olds rfl (fun h => ⟨(HPN.out h).1, (HPN.out h).1⟩) (by omega) (fun b hb => ?hc) ⟨V.heap.size, 0, Option.none⟩ 1 1 [.int .i64 j] rfl rfl (fun i u hu => ?hn) (fun u hu => by rw [List.mem_singleton.1 hu]; rfl) (by omega) (by unfold maxLen; omega) (by omega) ?hk
        case hc =>
          obtain ⟨pb, rfl, hpw, hcl⟩ := HPB.out b hb
          intro i u hi
          have ho := HPO.out pb (by rw [hb]; rfl)
          have hbl : W2.heap[pb]? = w.heap[pb]? := (HB2.out.block pb (by omega)).trans (HGJ.out.block pb hpw ho.2 ho.1)
          rw [Addr.add_lit, Nat.zero_add]
          exact (World.cell?_of_block (w := w) hbl).trans (hcl i u hi)
        case hn =>
          cases i with
          | zero => simp at hu; subst hu; exact HN2.out.cell 0 rfl
          | succ i => simp at hu
        case hk =>
        intro pv W3 hrow hgr
        have hb23 : Below W2.heap.size W2 W3 := ⟨hgr.os, hgr.tape, hgr.output, hgr.size, fun k hk => hgr.block k hk (by intro e; cases e)⟩
        have hpr := PathR.row hrow (by omega)
        have HB3 := Lib.hid (bnext HB2.out hb23)
        have hw2 := HB2.out.size
        have hw3 := hb23.size
        have HC3 := Lib.hid (HC.out W3 B q (.agg #[.int .u8 k', .int .i64 n', .string s', .slice A' len' cap', .int .i64 r']) pv rvj xsj (n + 1) (IsVaR.keep (fun b o hb' => (HB3.out.block b (by omega)).trans (HKW.out b hb')) HXV.out) hBq (HSJ.out.below HB3.out) hpr.1 (fun b hb' => ⟨HSJ.out.off (.inr (by have := (hpr.2 b hb').1; omega)), by have := (hpr.2 b hb').1; omega⟩) (by omega) (by omega))
        refine RegT.wpList_end ⟨HS2.out.below hb23, ?_⟩
        clear hrow hgr hb23 hpr
        refine RegT.seqM_free rfl rfl ?_
        go_wp2_with (go_at_call 75; with_reducible refine HC3.out.mono ?_; rintro e4 w4 ⟨rfl, rv4, xs4, hst4, hx4, hy4, hg4⟩)
        have HST4 := Lib.hid hst4
        have HG4 := Lib.hid (HGJ.out.trans ((GK.of_below HB3.out).trans hg4))
        clear hst4 hg4
        refine RegT.seqM_free rfl rfl ?_
        go_wp2_with fail
        refine RegT.seqM_end ?_
        simp only [RegT.NP, Exit.then]
        go_wp2_with fail
        go_roundw
        case rel => exact ⟨j + 1, rv4, xs4, by omega, by go_num, HST4.out, by omega, by have := HRJ.out; have := HYJ.out; omega, HG4.out⟩
        case measure => simp [intOf]; omega
    · obtain rfl : j = l.length := by omega
      rw [List.take_length] at hxj
      go_wp2_with fail
      go_ret
      exact ⟨rfl, rvj, xsj, HSJ.out, by rw [cntV]; omega, by rw [refN]; rw [List.take_length] at hyj; omega, HGJ.out⟩
theorem walk_any (x : Va) : WalkC x := by
  induction x using Va.ind with
  | h k n s l r IH => exact walk_step k n s l r IH
set_option maxRecDepth 100000 in
set_option maxHeartbeats 2000000 in
/-- value.Refs: a row of at most 512 references. -/
theorem refs68_any {B : Nat} {v : Value} {x : Va} (w : World) (h : IsVa w B v x) (hB : B ≤ w.heap.size) :
    Calls Try.prog 68 #[v] w fun e w' => Below w.heap.size w w' ∧ ∃ rv xs, e = .returned rv ∧ IRow w' w.heap.size rv xs ∧ xs.length ≤ 512 ∧ xs.length ≤ refN x := by
  obtain ⟨k, n, s, A, len, cap, r, rfl⟩ := h.shape
  obtain ⟨W, hW⟩ : ∃ W, W = (w.alloc (.cells #[.int .u8 k, .int .i64 n, .string s, .slice A len cap, .int .i64 r] 49)).alloc (.cells #[.slice Option.none 0 0] 69) := ⟨_, rfl⟩
  have hb : Below w.heap.size w W := by rw [hW]; exact ((Below.refl _ _).alloc (Nat.le_refl _) _).alloc (by simp) _
  have hbx : BlkN W w.heap.size 49 #[.int .u8 k, .int .i64 n, .string s, .slice A len cap, .int .i64 r] := by rw [hW]; exact (BlkN.at_ rfl _ _).alloc _
  have hbq : BlkN W (w.heap.size + 1) 69 #[.slice Option.none 0 0] := by rw [hW]; exact BlkN.at_ (by simp) _ _
  have HB := Lib.hid hb
  have HBX := Lib.hid hbx
  have HBQ := Lib.hid hbq
  have hvW : IsVa W B (.agg #[.int .u8 k, .int .i64 n, .string s, .slice A len cap, .int .i64 r]) x := IsVaR.keep (fun b o hb' => hb.block b (Nat.lt_of_lt_of_le hb' hB)) h
  have HV := Lib.hid hvW
  have C36 := Lib.hid (vmay_any W hvW (Nat.le_trans hB hb.size))
  have hs := hbq.lt
  clear h hb hbx hbq hvW
  go_enter Try.func68, Try.ntmps68
  go_upto_region 2 with fail
  rw [← hW]
  clear hW
  have d0 := HBX.out.cell (v := .int .u8 k) 0 rfl
  have d1 := HBX.out.cell (v := .int .i64 n) 1 rfl
  have d2 := HBX.out.cell (v := .string s) 2 rfl
  have d3 := HBX.out.cell (v := .slice A len cap) 3 rfl
  have d4 := HBX.out.cell (v := .int .i64 r) 4 rfl
  cases hm : mayV x with
  | false =>
    rw [hm] at C36
    have C36 := C36
    go_upto_region 4 with (go_at_call 36; with_reducible refine C36.out.mono ?_; rintro e w1 ⟨rfl, hb1⟩; have dq := (HBQ.out.below hb1).cell (v := .slice Option.none 0 0) 0 rfl; have HB1 := Lib.hid (bnext HB.out hb1); clear hb1)
    go_wp2_with fail
    go_ret
    exact ⟨HB1.out, _, [], rfl, IRow.nil _ _, by simp, by simp⟩
  | true =>
    rw [hm] at C36
    have hc := mayV_cnt hm
    clear hm
    go_upto_region 3 with (go_at_call 36; with_reducible refine C36.out.mono ?_; rintro e w1 ⟨rfl, hb1⟩; have HB1 := Lib.hid hb1; clear hb1)
    have hs1 := HB1.out.size
    have hbx1 := HBX.out.below HB1.out
    have d0 := hbx1.cell (v := .int .u8 k) 0 rfl
    have d1 := hbx1.cell (v := .int .i64 n) 1 rfl
    have d2 := hbx1.cell (v := .string s) 2 rfl
    have d3 := hbx1.cell (v := .slice A len cap) 3 rfl
    have d4 := hbx1.cell (v := .int .i64 r) 4 rfl
    have C75 := Lib.hid (walk_any x w1 B (w.heap.size + 1) _ (.slice Option.none 0 0) (.slice Option.none 0 0) [] 0 (IsVaR.keep (fun b o hb' => HB1.out.block b (by omega)) HV.out) (by omega) ⟨HBQ.out.below HB1.out, IRow.nil _ _⟩ (PathR.nil _) (fun b hb => by cases hb) (by simp; omega) (by omega))
    clear hbx1
    go_upto_region 4 with (go_at_call 75; with_reducible refine C75.out.mono ?_; rintro e w2 ⟨rfl, rv, xs, hst, hx, hy, hg⟩; have HST := Lib.hid hst; have HG := Lib.hid hg; clear hst hg)
    have dq := HST.out.1.cell (v := rv) 0 rfl
    have hrow : IRow w2 w.heap.size rv xs := HST.out.2.low (by omega)
    obtain ⟨A2, cap2, rfl⟩ := HST.out.2.slice
    have HROW := Lib.hid hrow
    clear hrow
    go_wp2_with fail
    go_ret
    have hg := HG.out
    refine ⟨⟨hg.os.trans (HB1.out.os.trans HB.out.os), hg.tape.trans (HB1.out.tape.trans HB.out.tape), hg.output.trans (HB1.out.output.trans HB.out.output), Nat.le_trans HB.out.size (Nat.le_trans hs1 hg.size), fun i hi => ?_⟩, _, xs, rfl, HROW.out, by simp at hx; omega, by simpa using hy⟩
    exact (hg.block i (by omega) (by omega) (by intro e; cases e)).trans ((HB1.out.block i (by omega)).trans (HB.out.block i hi))
end
end Go.Proofs.Ythafojadcodkoaa
