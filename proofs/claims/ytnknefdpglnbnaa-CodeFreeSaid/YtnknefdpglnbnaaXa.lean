/- The document's side of CodeUses: the names in an expression, as a row of the call's own. -/
import Derived.Test.YtnknefdpglnbnaaZf
import Derived.Test.YtnknefdpglnbnaaH
import Derived.Test.YtnknefdpglnbnaaCp
namespace Go.Proofs.Ytnknefdpglnbnaa
open Go Go.RowKit

theorem row_low {w : World} {lo lo' : Nat} {e : TypeId} {size : Nat} {v : Value} {n : Nat} {xs : List Value} (h : w.ownsRow lo e size v n xs) (hl : lo' ≤ lo) : w.ownsRow lo' e size v n xs := by
  refine ⟨h.1, ?_⟩
  rcases h.2 with h2 | ⟨g, cap, cur, h1, h2, h3⟩
  · exact .inl h2
  · exact .inr ⟨g, cap, cur, h1, Nat.le_trans hl h2, h3⟩
theorem wpList_append_row2 {w : World} {ops : Array Oper} {rest : List Oper} {o : Oper} {a : Act} {Q : Exit → Act → World → Prop} (hgd : o.guard = Option.none) (s x : Operand)
    (ho : o.op = .call { callee := .builtin .append, args := #[s, x], argTypes := #[56, 56] }) (base base2 : Nat) (v : Value) (n : Nat) (xs : List Value) (hs : a.eval s = v) (hown : w.ownsRow base 9 1 v n xs)
    (sl : Value) (m : Nat) (ys : List Value) (hx : a.eval x = sl) (h2 : w.ownsRow base2 9 1 sl m ys) (h1 : ∀ u ∈ ys, u.oneCell' = true) (h63 : n + m ≤ maxLen) (hby : (n + m) * 16 ≤ 140737488355328) (hbase : base ≤ w.heap.size)
    (h : ∀ v' w', w'.ownsRow base 9 1 v' (n + m) (xs ++ ys) → w.grownBy w' v.ownBlock →
      (v'.ownBlock = v.ownBlock ∨ ∃ g, v'.ownBlock = some g ∧ w.heap.size ≤ g) → wpList Try.prog ops Q rest (a.put o.dst v') w') : wpList Try.prog ops Q (o :: rest) a w := by
  obtain ⟨i0, hi, hz0, hz1, hz2⟩ := info_parts info9
  rcases h2.2 with ⟨rfl, rfl⟩ | ⟨g, cap, cur, rfl, _⟩
  · have hy : ys = [] := List.eq_nil_of_length_eq_zero (by simpa using h2.1)
    subst hy
    refine wpList_append_zero hgd s x 56 ho base 9 i0 1 Try.underlying56 hi v n xs hs hown _ _ hx ?_
    exact h v w (by simpa using hown) ⟨rfl, rfl, rfl, Nat.le_refl _, fun _ _ _ => rfl⟩ (.inl rfl)
  · exact wpList_append_row w hgd s x 56 ho base 9 i0 (.string ⟨#[]⟩) 1 16 Try.underlying56 hi hz0 hz1 hz2 rfl (by decide) v n xs hs hown ⟨g, 0, Option.none⟩ m cap ys hx (by simpa using h2.1) (fun j u hu => h2.cells rfl j u hu) h1 h63 hby hbase h
/-- A row of the call's own that holds these names. -/
def NmRow (w : World) (lo : Nat) (sl : Value) (l : List ByteArray) : Prop := w.ownsRow lo 9 1 sl l.length (l.map Value.string)
theorem nm_one (l : List ByteArray) : ∀ u ∈ l.map Value.string, u.oneCell' = true := fun u hu => by
  obtain ⟨t, _, rfl⟩ := List.mem_map.1 hu
  rfl
def NamedC (x : Ex) : Prop := ∀ (w : World) (B : Nat) (v : Value), IsEx w B v x → B ≤ w.heap.size → (namesX x).length ≤ 1000000 →
  Calls Try.prog 97 #[v] w fun e w' => ∃ sl, e = .returned sl ∧ NmRow w' w.heap.size sl (namesX x) ∧ Below w.heap.size w w'
theorem namesXs_len_take (l : List Ex) (k : Nat) (h : k < l.length) : (namesXs (l.take (k + 1))).length ≤ (namesXs l).length := by
  induction l generalizing k with
  | nil => simp at h
  | cons x l ih =>
    cases k with
    | zero => simp [namesXs]
    | succ k =>
      have := ih k (by simpa using h)
      simp only [List.take_succ_cons, namesXs, List.length_append] at *
      omega
attribute [local irreducible] wpList
set_option maxRecDepth 100000 in
set_option maxHeartbeats 1000000 in
theorem named97_any (x : Ex) : NamedC x := by
  induction x using Ex.ind with
  | h k n s l IH =>
    intro w B v h hB hN
    obtain ⟨h1, h2, h3, h4, A, cap, h5, rfl, h7⟩ := h.form
    have HI := Lib.hid IH
    have H7 := Lib.hid h7
    have HN := Lib.hid hN
    obtain ⟨i0, hi, hz0, hz1, hz2⟩ := info_parts info9
    obtain ⟨w1, hw1⟩ : ∃ w1, w1 = w.alloc (.cells #[.int .u8 k, .int .i64 n, .string s, .slice A l.length cap] 26) := ⟨_, rfl⟩
    have hb0 : Below w.heap.size w w1 := by rw [hw1]; exact (Below.refl _ _).alloc (Nat.le_refl _) _
    have hBB : BlkN w1 w.heap.size 26 #[.int .u8 k, .int .i64 n, .string s, .slice A l.length cap] := by rw [hw1]; exact BlkN.at_ rfl _ _
    have hsz : w1.heap.size = w.heap.size + 1 := by rw [hw1]; simp
    have q0 : w1.cell? ⟨w.heap.size, 0, Option.none⟩ = some (.int .u8 k) := hBB.cell 0 rfl
    have q2 : w1.cell? ⟨w.heap.size, 2, Option.none⟩ = some (.string s) := hBB.cell 2 rfl
    have hbx : ∀ w', Below w1.heap.size w1 w' → BlkN w' w.heap.size 26 #[.int .u8 k, .int .i64 n, .string s, .slice A l.length cap] := fun w' hb => (hb.block _ (by omega)).trans hBB
    have HBX := Lib.hid hbx
    have HB0 := Lib.hid hb0
    clear h h7 IH hN hbx hb0
    have HW1 := Lib.hid hw1
    have HSZ := Lib.hid hsz
    have hgt : w.heap.size < w1.heap.size := by omega
    clear hw1 hsz
    go_enter Try.func97, Try.ntmps97
    go_upto_region 2 with (fail)
    rw [← HW1.out]
    obtain ⟨T0, hT0⟩ : ∃ T0, T0 = if k = 4 then [s] else [] := ⟨_, rfl⟩
    have HNX : Hid (namesX (.mk k n s l) = T0 ++ namesXs l) := Lib.hid (by rw [hT0]; rfl)
    have HT0 := Lib.hid hT0
    clear hT0
    by_cases hk4 : k = 4
    focus
      subst hk4
      go_wp2_with (at_builtin; refine wpList_append_row _ rfl (.tmp 8) (.tmp 11) 56 rfl (w.heap.size + 1) 9 i0 (.string ⟨#[]⟩) 1 16 Try.underlying56 hi hz0 hz1 hz2 rfl (by decide) (.slice Option.none 0 0) 0 [] rfl (World.ownsRow_nil _ _ _ _) ⟨w1.heap.size, 0, Option.none⟩ 1 1 [.string s] rfl rfl (cell_one_new _ _ _) (by simp [Value.oneCell']) (by unfold maxLen; omega) (by decide) (by simp; omega) ?_; intro sl0 w2 hr0' hg0 hor0)
      have hr0 : NmRow w2 (w.heap.size + 1) sl0 T0 := by simp only [HT0.out, if_true]; unfold NmRow; simpa using hr0'
      have hb12 : Below w1.heap.size w1 w2 := ((Below.refl _ _).alloc (Nat.le_refl _) _).grown hg0 (by simp) (fun j hj => by cases hj)
      clear hr0' hg0 hor0 q0 q2
    rotate_left
    focus
      have hk4' : (k == 4) = false := by simpa using hk4
      go_wp2_with fail
      obtain ⟨sl0, hsl0⟩ : ∃ sl0, sl0 = Value.slice Option.none 0 0 := ⟨_, rfl⟩
      obtain ⟨w2, hw2⟩ : ∃ w2, w2 = w1 := ⟨_, rfl⟩
      have hr0 : NmRow w2 (w.heap.size + 1) sl0 T0 := by rw [HT0.out, if_neg hk4, hsl0]; exact World.ownsRow_nil _ _ _ _
      have hb12 : Below w1.heap.size w1 w2 := by rw [hw2]; exact Below.refl _ _
      rw [← hsl0, ← hw2]
      clear hsl0 hw2 q0 q2 hk4'
    all_goals
      have HR0 := Lib.hid hr0
      have HB12 := Lib.hid hb12
      clear hr0 hb12 hBB hgt
      go_loopw [3, 4] (fun sl i wr => ∃ j : Nat, j ≤ l.length ∧ i = .int .i64 j ∧ NmRow wr (w.heap.size + 1) sl (T0 ++ namesXs (l.take j)) ∧ Below w1.heap.size w1 wr) (fun _ i _ => l.length - (intOf i).toNat)
      case atStart => exact ⟨0, Nat.zero_le _, rfl, by simpa [namesXs] using HR0.out, HB12.out⟩
      case round =>
        obtain ⟨j, hj, rfl, hr, hb⟩ := hrel
        have HR := Lib.hid hr
        have HB := Lib.hid hb
        have q3 : wr.cell? ⟨w.heap.size, 3, Option.none⟩ = some (.slice A l.length cap) := (HBX.out wr hb).cell 3 rfl
        have hsr : w.heap.size < wr.heap.size := by have := hb.size; have := HSZ.out; omega
        clear hr hb
        by_cases hlt : j < l.length
        · obtain ⟨b, o, hbB, hA, hx⟩ := H7.out (by rintro rfl; simp at hlt)
          have hkw : ∀ b, b < B → wr.heap[b]? = w.heap[b]? := fun b hb => (HB.out.block b (by have := HSZ.out; omega)).trans (HB0.out.block b (by omega))
          obtain ⟨k', n', s', A', len', cap', hat, hxj⟩ := hx.at2 j hlt
          have hat' := At.keep hat hbB hkw
          have HX2 := Lib.hid (IsEx.keep hkw hxj)
          obtain ⟨e0, e1, e2, e3⟩ := hat'.four
          have hNl := congrArg List.length HNX.out
          have hNx := HN.out
          have hNt := namesXs_len_take l j hlt
          have hNe := congrArg List.length (namesXs_take l j hlt)
          simp only [List.length_append] at hNl hNe
          have hbnd : (namesX l[j]).length ≤ 1000000 := by omega
          have hbnd2 : (T0 ++ namesXs (l.take j)).length + (namesX l[j]).length ≤ 1000000 := by simp only [List.length_append]; omega
          have HNT := Lib.hid (namesXs_take l j hlt)
          subst hA
          clear hx hat hat' hxj hkw hNl hNx hNt hNe
          go_wp2_with (first
            | (go_at_call 97; refine (HI.out l[j] (List.getElem_mem hlt) wr B _ HX2.out (by omega) hbnd).mono ?_; rintro e w5 ⟨sl2, rfl, hr2, hb5⟩; have HB5 := Lib.hid hb5; have HR2 := Lib.hid hr2; have HR5 := Lib.hid (own_below HR.out hb5); clear hb5 hr2)
            | (at_builtin; refine wpList_append_row2 rfl (.tmp 20) (.tmp 26) rfl (w.heap.size + 1) wr.heap.size u3 _ _ rfl HR5.out sl2 _ _ rfl HR2.out (nm_one _) (by unfold maxLen; omega) (by omega) (by have := HB5.out.size; omega) ?_; intro v' w6 hr6 hg6 hor6))
          go_roundw
          case rel =>
            refine ⟨j + 1, by omega, by go_num, ?_, ((HB.out.trans (HB5.out.mono HB.out.size))).grown hg6 ?_ (fun g hg => ?_)⟩
            · rw [HNT.out, ← List.append_assoc]
              unfold NmRow
              rw [List.length_append, List.map_append]
              exact hr6
            · have := HB.out.size; have := HB5.out.size; omega
            · have := (HR5.out.lt g hg).1; have := HSZ.out; omega
          case measure => simp [intOf]; omega
        · obtain rfl : j = l.length := by omega
          go_wp2_with fail
          go_ret
          have hz := HR.out
          rw [List.take_length] at hz
          refine ⟨_, rfl, ?_, ?_⟩
          · rw [HNX.out]
            exact row_low hz (by omega)
          · exact HB0.out.trans (HB.out.mono (by have := HSZ.out; omega))
end Go.Proofs.Ytnknefdpglnbnaa
