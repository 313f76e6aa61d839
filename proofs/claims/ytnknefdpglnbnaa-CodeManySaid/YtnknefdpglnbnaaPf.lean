/- CodeJoins: the law's walk, where one of the codes may not be. A code appended to a row of the call's own. CodeJoins: the law's walk, where the two codes are too long together. -/
import Derived.Test.YtnknefdpglnbnaaPc
import Derived.Test.YtnknefdpglnbnaaZj
import Derived.Laws.AppendOwnNone
namespace Go.Proofs.Ytnknefdpglnbnaa
open Go.RowKit

mutual
theorem flat_pos : ∀ (x : St) (d : Int), 1 ≤ (flat x d).length
  | .mk .., d => by simp [flat]
end
theorem flats_len (l : List St) (d : Int) : l.length ≤ (flats l d).length := by
  induction l with
  | nil => simp
  | cons x l ih =>
    have := flat_pos x d
    simp only [flats, List.length_append, List.length_cons]
    omega
theorem LR.keep {w w' : World} {B : Nat} {A : Option Addr} {len cap : Nat} {l : List St} (h : LR (fun b _ => b < B) 256 A len cap l (fun b o => IsSts w B b o l)) (hk : ∀ b, b < B → w'.heap[b]? = w.heap[b]?) : LR (fun b _ => b < B) 256 A len cap l (fun b o => IsSts w' B b o l) := h.imp fun _b _o hr hp => ⟨hr, IsSts.keep hk hr hp⟩
set_option maxRecDepth 100000 in
set_option maxHeartbeats 2000000 in
theorem joins_not (c d : List St) (Ac Ad : Option Addr) (lc cc ld cd : Nat) (w : World) (hc : LR (fun b _ => b < w.heap.size) 256 Ac lc cc c (fun b o => IsSts w w.heap.size b o c)) (hd : LR (fun b _ => b < w.heap.size) 256 Ad ld cd d (fun b o => IsSts w w.heap.size b o d)) (hz : ¬ (chkL c).2 = 0 ∨ ¬ (chkL d).2 = 0) :
    Calls Try.prog 6 #[.slice Ac lc cc, .slice Ad ld cd] w fun e w' => e = .returned (.bool true) ∧ Below w.heap.size w w' := by
  have HC := Lib.hid hc
  have HD := Lib.hid hd
  have HZ := Lib.hid hz
  obtain ⟨vc, hvc⟩ : ∃ vc, vc = (chkL c).2 := ⟨_, rfl⟩
  obtain ⟨vd, hvd⟩ : ∃ vd, vd = (chkL d).2 := ⟨_, rfl⟩
  have U1 := Lib.hid (fun w' (hb : Below w.heap.size w w') => Uses_any c Ac lc cc w' w.heap.size hb.size (hc.keep hb.block))
  have U2 := Lib.hid (fun w' (hb : Below w.heap.size w w') => Uses_any d Ad ld cd w' w.heap.size hb.size (hd.keep hb.block))
  rw [← hvc] at U1 HZ
  rw [← hvd] at U2 HZ
  obtain ⟨uc, huc⟩ : ∃ uc, uc = usesL c := ⟨_, rfl⟩
  obtain ⟨ud, hud⟩ : ∃ ud, ud = usesL d := ⟨_, rfl⟩
  rw [← huc] at U1
  rw [← hud] at U2
  obtain ⟨ca, cm, cr⟩ := uc
  obtain ⟨da, dm, dr⟩ := ud
  have V1 : Hid (∀ w', Below w.heap.size w w' → Calls Try.prog 35 #[.slice Ac lc cc] w' fun e w'' => e = .returned (.tuple #[.agg #[.int .u8 ca, .bool cm, .bool cr], .int .i64 (vc : Nat)]) ∧ Below w'.heap.size w' w'') := Lib.hid U1.out
  have V2 : Hid (∀ w', Below w.heap.size w w' → Calls Try.prog 35 #[.slice Ad ld cd] w' fun e w'' => e = .returned (.tuple #[.agg #[.int .u8 da, .bool dm, .bool dr], .int .i64 (vd : Nat)]) ∧ Below w'.heap.size w' w'') := Lib.hid U2.out
  clear U1 U2
  clear hc hd hvc hvd huc hud hz
  by_cases h1 : vc = 0
  · subst h1
    have hv : ((vd : Int) == 0) = false := by rw [beq_eq_false_iff_ne]; have := HZ.out; omega
    have hv2 : ((vd : Int) != 0) = true := by rw [bne, hv]; rfl
    go_enter Try.func6, Try.ntmps6
    go_wp2_with (first | (go_at_call 35; (with_reducible refine (V1.out _ (Below.refl _ _)).mono ?_); rintro e w1 ⟨rfl, hb1⟩; have hb1' : Below w.heap.size w (w1.alloc (.cells #[.int .u8 ca, .bool cm, .bool cr] 51)) := hb1.alloc hb1.size _) | (go_at_call 35; refine (V2.out _ hb1').mono ?_; rintro e w2 ⟨rfl, hb2⟩; have hb2' : Below w.heap.size w (w2.alloc (.cells #[.int .u8 da, .bool dm, .bool dr] 51)) := (hb1'.trans (hb2.mono hb1'.size)).alloc (Nat.le_trans hb1'.size hb2.size) _) | (go_at_call 17; refine (lives_any _).mono ?_; rintro e w3 ⟨rfl, hb3⟩))
    go_ret
    exact ⟨rfl, hb2'.trans (hb3.mono hb2'.size)⟩
  · have hv : ((vc : Int) == 0) = false := by rw [beq_eq_false_iff_ne]; omega
    have hv2 : ((vc : Int) != 0) = true := by rw [bne, hv]; rfl
    clear h1
    go_enter Try.func6, Try.ntmps6
    go_wp2_with (first | (go_at_call 35; (with_reducible refine (V1.out _ (Below.refl _ _)).mono ?_); rintro e w1 ⟨rfl, hb1⟩; have hb1' : Below w.heap.size w (w1.alloc (.cells #[.int .u8 ca, .bool cm, .bool cr] 51)) := hb1.alloc hb1.size _) | (go_at_call 35; refine (V2.out _ hb1').mono ?_; rintro e w2 ⟨rfl, hb2⟩; have hb2' : Below w.heap.size w (w2.alloc (.cells #[.int .u8 da, .bool dm, .bool dr] 51)) := (hb1'.trans (hb2.mono hb1'.size)).alloc (Nat.le_trans hb1'.size hb2.size) _) | (go_at_call 17; refine (lives_any _).mono ?_; rintro e w3 ⟨rfl, hb3⟩))
    go_ret
    exact ⟨rfl, hb2'.trans (hb3.mono hb2'.size)⟩
end Go.Proofs.Ytnknefdpglnbnaa
namespace Go.Proofs.Ytnknefdpglnbnaa
open Go.RowKit

theorem wpList_append_lr {w : World} {ops : Array Oper} {rest : List Oper} {o : Oper} {a : Act} {Q : Exit → Act → World → Prop} (hgd : o.guard = Option.none) (s x : Operand)
    (ho : o.op = .call { callee := .builtin .append, args := #[s, x], argTypes := #[42, 42] }) (base B : Nat) (v : Value) (n : Nat) (xs : List Value) (hs : a.eval s = v) (hown : w.ownsRow base 58 17 v n xs)
    (A : Option Addr) (len cap : Nat) (l : List St) (hx : a.eval x = .slice A len cap) (hn : A = Option.none → cap = 0) (hl : LR (fun b _ => b < B) 256 A len cap l (fun b o => IsSts w B b o l)) (h63 : n + len ≤ maxLen) (hby : (n + len) * 256 ≤ 140737488355328) (hbase : base ≤ w.heap.size)
    (h : ∀ v' w' (ss : List SV), ss.length = l.length → (∀ (i : Nat) (hi : i < l.length) (hs : i < ss.length), IsSt w B ss[i] l[i]) → w'.ownsRow base 58 17 v' (n + l.length) (xs ++ cellsOf ss) → w.grownBy w' v.ownBlock →
      (v'.ownBlock = v.ownBlock ∨ ∃ g, v'.ownBlock = some g ∧ w.heap.size ≤ g) → wpList Try.prog ops Q rest (a.put o.dst v') w') : wpList Try.prog ops Q (o :: rest) a w := by
  obtain ⟨i0, hi, hz0, hz1, hz2⟩ := info_parts info58
  obtain ⟨rfl, hcap, hbytes, hA⟩ := hl
  cases A with
  | none =>
    have hc0 := hn rfl
    have hl0 : l = [] := List.eq_nil_of_length_eq_zero (by omega)
    subst hl0 hc0
    refine wpList_append_own_none hgd s x 42 ho base 58 i0 17 Try.underlying42 hi v n xs hs hown (by simpa using hx) ?_
    refine h v w [] rfl (fun i hi => absurd hi (by simp)) (by simpa [cellsOf] using hown) ⟨rfl, rfl, rfl, Nat.le_refl _, fun _ _ _ => rfl⟩ (.inl rfl)
  | some ad =>
    by_cases hl0 : l = []
    · subst hl0
      refine wpList_append_row w hgd s x 42 ho base 58 i0 (.agg SV.zero.arr) 17 256 Try.underlying42 hi hz0 hz1 hz2 rfl (by decide) v n xs hs hown ad 0 cap [] (by simpa using hx) rfl (fun j u hj => by simp at hj) (by simp) (by simpa using h63) (by simpa using hby) hbase ?_
      intro v' w' h1 h2 h3
      exact h v' w' [] rfl (fun i hi => absurd hi (by simp)) (by simpa [cellsOf] using h1) h2 h3
    · obtain ⟨b, o', hb, hAe, hp⟩ := hA hl0
      cases hAe
      obtain ⟨ss, hsl, hcell, hst⟩ := svs_of l o' hp
      refine wpList_append_row w hgd s x 42 ho base 58 i0 (.agg SV.zero.arr) 17 256 Try.underlying42 hi hz0 hz1 hz2 rfl (by decide) v n xs hs hown ⟨b, o', Option.none⟩ l.length cap (cellsOf ss) hx (by rw [cellsOf_len, hsl]) (fun j u hj => by rw [addP]; exact hcell j u hj) (cellsOf_one ss) h63 hby hbase ?_
      intro v' w' h1 h2 h3
      exact h v' w' ss hsl hst h1 h2 h3
end Go.Proofs.Ytnknefdpglnbnaa
namespace Go.Proofs.Ytnknefdpglnbnaa
open Go.RowKit

theorem sizeL_of {l : List St} (h : (chkL l).2 = 0) : sizeL l = (flats l 0).length := by unfold sizeL; rw [if_pos h]
theorem flats512 {l : List St} (h : (chkL l).2 = 0) : (flats l 0).length ≤ 512 := by have := chk_zero _ 0 (by omega) h; simpa using this
/-- Behind the two appends: the new slice reads as both codes. -/
theorem both_of {W2 w3 w4 : World} {B : Nat} {v1 v2 : Value} {c d : List St} {ss tt : List SV} (hB : B ≤ W2.heap.size) (h1 : ss.length = c.length) (h2 : ∀ (i : Nat) (hi : i < c.length) (hs : i < ss.length), IsSt W2 B ss[i] c[i]) (h3 : tt.length = d.length) (h4 : ∀ (i : Nat) (hi : i < d.length) (hs : i < tt.length), IsSt w3 B tt[i] d[i])
    (g1 : W2.grownBy w3 Option.none) (g2 : w3.grownBy w4 v1.ownBlock) (hl : v1.ownBlock = Option.none ∨ ∃ g, v1.ownBlock = some g ∧ W2.heap.size ≤ g) (base : Nat) (hown : w4.ownsRow base 58 17 v2 (c.length + d.length) (cellsOf ss ++ cellsOf tt)) (hby : (c.length + d.length) * 256 ≤ 140737488351232) :
    Below W2.heap.size W2 w4 ∧ ∃ (A : Option Addr) (cap : Nat), v2 = .slice A (c.length + d.length) cap ∧ LR (fun b _ => b < w4.heap.size) 256 A (c.length + d.length) cap (c ++ d) (fun b o => IsSts w4 w4.heap.size b o (c ++ d)) := by
  have hb1 : Below W2.heap.size W2 w3 := ⟨g1.os, g1.tape, g1.output, g1.size, fun k hk => g1.block k hk (by simp)⟩
  have hb2 : Below W2.heap.size W2 w4 := ⟨g2.os.trans g1.os, g2.tape.trans g1.tape, g2.output.trans g1.output, Nat.le_trans g1.size g2.size, fun k hk => (g2.block k (Nat.lt_of_lt_of_le hk g1.size) (by
    rcases hl with h | ⟨g, h, hg⟩ <;> rw [h] <;> simp
    omega)).trans (hb1.block k hk)⟩
  refine ⟨hb2, ?_⟩
  rw [← cellsOf_append, ← List.length_append] at hown
  have := LR_of_row (B := B) (ss := ss ++ tt) (l := c ++ d) hown (by simp [h1, h3]) (Nat.le_trans hB hb2.size) (fun i hi hs => by
    by_cases hlt : i < c.length
    · rw [List.getElem_append_left hlt, List.getElem_append_left (by omega)]
      exact (h2 i hlt (by omega)).keep fun b hb => hb2.block b (by omega)
    · rw [List.getElem_append_right (by omega), List.getElem_append_right (by omega)]
      have hi' : i - c.length < d.length := by simp at hi; omega
      have h := h4 (i - c.length) hi' (by omega)
      have e : i - ss.length = i - c.length := by omega
      simp only [e]
      exact h.keep fun b hb => (hb2.block b (by omega)).trans (hb1.block b (by omega)).symm) (by simpa using hby)
  simpa using this
end Go.Proofs.Ytnknefdpglnbnaa
