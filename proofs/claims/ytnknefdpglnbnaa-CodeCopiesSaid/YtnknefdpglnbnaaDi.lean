/- Codes written over: what is left of the rest; the walks that write over. -/
import Derived.Test.YtnknefdpglnbnaaCp
namespace Go.Proofs.Ytnknefdpglnbnaa
open Go.RowKit

def NoSl : Value → Prop
  | .slice _ _ _ => False
  | _ => True
/-- A cell that may have been written over: a slice is as it was, or nil; what is no slice stays none. -/
def VR (v v' : Value) : Prop := (NoSl v → NoSl v') ∧ ∀ A l c, v = .slice A l c → v' = .slice A l c ∨ v' = .slice Option.none 0 0
theorem VR.refl (v : Value) : VR v v := ⟨id, fun _ _ _ h => .inl h⟩
theorem VR.trans {a b c : Value} (h : VR a b) (k : VR b c) : VR a c := ⟨fun x => k.1 (h.1 x), fun A l cc e => by
  rcases h.2 A l cc e with e1 | e1
  · exact k.2 _ _ _ e1
  · rcases k.2 _ _ _ e1 with e2 | e2 <;> exact .inr e2⟩
theorem VR.no {a b : Value} (h : NoSl a) (k : NoSl b) : VR a b := ⟨fun _ => k, fun A l c e => by rw [e] at h; exact h.elim⟩
def CellsR (cs cs' : Array Value) : Prop := cs'.size = cs.size ∧ ∀ (i : Nat) (v : Value), cs[i]? = some v → ∃ v', cs'[i]? = some v' ∧ VR v v'
theorem CellsR.refl (cs : Array Value) : CellsR cs cs := ⟨rfl, fun _ v h => ⟨v, h, VR.refl v⟩⟩
theorem CellsR.trans {a b c : Array Value} (h : CellsR a b) (k : CellsR b c) : CellsR a c := ⟨k.1.trans h.1, fun i v e => by
  obtain ⟨v1, e1, r1⟩ := h.2 i v e
  obtain ⟨v2, e2, r2⟩ := k.2 i v1 e1
  exact ⟨v2, e2, r1.trans r2⟩⟩
/-- The blocks from lo on, up to hi, may have been written over; all other blocks are as they were. -/
structure Spo (lo hi : Nat) (w w' : World) : Prop where
  os : w'.os = w.os
  tape : w'.tape = w.tape
  output : w'.output = w.output
  size : w.heap.size ≤ w'.heap.size
  block : ∀ b, b < w.heap.size → (b < lo ∨ hi ≤ b) → w'.heap[b]? = w.heap[b]?
  cells : ∀ (b : Nat) (T : TypeId) (cs : Array Value), lo ≤ b → b < hi → BlkN w b T cs → ∃ cs', BlkN w' b T cs' ∧ CellsR cs cs'
theorem Spo.refl (lo hi : Nat) (w : World) : Spo lo hi w w := ⟨rfl, rfl, rfl, Nat.le_refl _, fun _ _ _ => rfl, fun _ _ cs _ _ h => ⟨cs, h, CellsR.refl cs⟩⟩
theorem Spo.trans {lo hi : Nat} {a b c : World} (h : Spo lo hi a b) (k : Spo lo hi b c) : Spo lo hi a c :=
  ⟨k.os.trans h.os, k.tape.trans h.tape, k.output.trans h.output, Nat.le_trans h.size k.size, fun q hq hr => (k.block q (Nat.lt_of_lt_of_le hq h.size) hr).trans (h.block q hq hr), fun q T cs h1 h2 hB => by
    obtain ⟨c1, e1, r1⟩ := h.cells q T cs h1 h2 hB
    obtain ⟨c2, e2, r2⟩ := k.cells q T c1 h1 h2 e1
    exact ⟨c2, e2, r1.trans r2⟩⟩
theorem Spo.of_below {lo hi : Nat} {w w' : World} (h : Below w.heap.size w w') : Spo lo hi w w' := ⟨h.os, h.tape, h.output, h.size, fun b hb _ => h.block b hb, fun _b _T cs _ _ hB => ⟨cs, hB.below h, CellsR.refl cs⟩⟩
theorem Spo.below {lo hi n : Nat} {a w w' : World} (h : Spo lo hi w w') (ha : Below n a w) (hn : n ≤ lo) (hz : n ≤ w.heap.size) : Below n a w' :=
  ⟨h.os.trans ha.os, h.tape.trans ha.tape, h.output.trans ha.output, Nat.le_trans ha.size h.size, fun k hk => (h.block k (by omega) (.inl (by omega))).trans (ha.block k hk)⟩
theorem Spo.store {lo hi b : Nat} {w w' : World} {T : TypeId} {cs nw : Array Value} {off : Nat} {new : List Value} (hB : BlkN w b T cs) (hB' : BlkN w' b T nw) (hbut : But b w w') (_hlo : lo ≤ b) (_hhi : b < hi) (hn : off + new.length ≤ cs.size)
    (hnw : cs.toList.take off ++ new ++ cs.toList.drop (off + new.length) = nw.toList) (hv : ∀ (k : Nat) (u : Value), new[k]? = some u → ∃ v, cs[off + k]? = some v ∧ VR v u) : Spo lo hi w w' := by
  refine ⟨hbut.os, hbut.tape, hbut.output, by rw [hbut.size]; exact Nat.le_refl _, fun q _ hr => hbut.other q (by omega), fun q U ds h1 h2 hq => ?_⟩
  by_cases hqb : q = b
  · subst hqb
    have e := hB.symm.trans hq
    simp only [Option.some.injEq, Obj.cells.injEq, and_true] at e
    obtain ⟨rfl, rfl⟩ := e
    refine ⟨nw, hB', ?_, fun i v hi' => ?_⟩
    · rw [← Array.length_toList, ← hnw]; simp; omega
    · have hil : i < cs.size := (Array.getElem?_eq_some_iff.1 hi').1
      have hnl : new.length = new.length := rfl
      by_cases h1 : i < off
      · refine ⟨v, ?_, VR.refl v⟩
        rw [← Array.getElem?_toList, ← hnw, List.append_assoc, List.getElem?_append_left (by simp; omega), List.getElem?_take, if_pos h1, Array.getElem?_toList]
        exact hi'
      · by_cases h2 : i < off + new.length
        · obtain ⟨u, hu⟩ : ∃ u, new[i - off]? = some u := ⟨new[i - off]'(by omega), List.getElem?_eq_getElem (by omega)⟩
          obtain ⟨v0, hv0, hr⟩ := hv _ u hu
          rw [show off + (i - off) = i from by omega, hi'] at hv0
          simp only [Option.some.injEq] at hv0
          subst hv0
          refine ⟨u, ?_, hr⟩
          rw [← Array.getElem?_toList, ← hnw, List.append_assoc, List.getElem?_append_right (by simp; omega), List.getElem?_append_left (by simp; omega)]
          rw [← hu]
          congr 1
          simp
          omega
        · refine ⟨v, ?_, VR.refl v⟩
          rw [← Array.getElem?_toList, ← hnw, List.getElem?_append_right (by simp; omega), List.getElem?_drop, ← hi', ← Array.getElem?_toList]
          congr 1
          simp
          omega
  · exact ⟨ds, (hbut.other q hqb).trans hq, CellsR.refl ds⟩
/-- A slice of parts, or what is left of it. -/
def ShR {α : Type} (w : World) (lo hi sz : Nat) (l : List α) (p : Array Value → Nat → Prop) (v : Value) : Prop :=
  v = .slice Option.none 0 0 ∨ ∃ A cap, l.length ≤ cap ∧ l.length * sz ≤ 140737488351232 ∧ v = .slice A l.length cap ∧ (l ≠ [] → ∃ b o, lo ≤ b ∧ b < hi ∧ A = some ⟨b, o, Option.none⟩ ∧ ∃ T cs, BlkN w b T cs ∧ p cs o)
theorem ShR.sl {α : Type} {w : World} {lo hi sz : Nat} {l : List α} {p : Array Value → Nat → Prop} {v : Value} (h : ShR w lo hi sz l p v) : ∃ A len cap, v = .slice A len cap := by
  rcases h with h | ⟨A, cap, _, _, h, _⟩ <;> exact ⟨_, _, _, h⟩
theorem ShR.vr {α : Type} {w : World} {lo hi sz : Nat} {l : List α} {p : Array Value → Nat → Prop} {v : Value} (h : ShR w lo hi sz l p v) : VR v (.slice Option.none 0 0) := by
  obtain ⟨A, len, cap, rfl⟩ := h.sl
  exact ⟨fun h => h, fun _ _ _ _ => .inr rfl⟩
theorem ShR.keep {α : Type} {w w' : World} {lo hi sz : Nat} {l : List α} {p q : Array Value → Nat → Prop} {v v' : Value} (h : ShR w lo hi sz l p v) (hs : Spo lo hi w w') (hv : VR v v') (hp : ∀ cs cs' o, CellsR cs cs' → p cs o → q cs' o) : ShR w' lo hi sz l q v' := by
  rcases h with rfl | ⟨A, cap, h1, h2, rfl, h3⟩
  · rcases hv.2 _ _ _ rfl with e | e <;> exact .inl e
  · rcases hv.2 _ _ _ rfl with e | e
    · refine .inr ⟨A, cap, h1, h2, e, fun hne => ?_⟩
      obtain ⟨b, o, g1, g2, g3, T, cs, g4, g5⟩ := h3 hne
      obtain ⟨cs', e4, e5⟩ := hs.cells b T cs g1 g2 g4
      exact ⟨b, o, g1, g2, g3, T, cs', e4, hp cs cs' o e5 g5⟩
    · exact .inl e
mutual
def ShE (w : World) (lo hi : Nat) : Ex → Value → Prop
  | .mk _ _ _ l, v => ShR w lo hi 56 l (fun cs o => ShEs w lo hi cs o l) v
def ShEs (w : World) (lo hi : Nat) (cs : Array Value) (o : Nat) : List Ex → Prop
  | [] => True
  | x :: l => (∃ c0 c1 c2 c3, cs[o]? = some c0 ∧ cs[o + 1]? = some c1 ∧ cs[o + 2]? = some c2 ∧ cs[o + 3]? = some c3 ∧ NoSl c0 ∧ NoSl c1 ∧ NoSl c2 ∧ ShE w lo hi x c3) ∧ ShEs w lo hi cs (o + 4) l
end
mutual
theorem ShE.keep {w w' : World} {lo hi : Nat} (hs : Spo lo hi w w') : ∀ (x : Ex) (v v' : Value), ShE w lo hi x v → VR v v' → ShE w' lo hi x v'
  | .mk _ _ _ l, v, v', h, hv => by
    unfold ShE at h ⊢
    exact h.keep hs hv fun cs cs' o hc hp => ShEs.keep hs l cs cs' o hp hc
theorem ShEs.keep {w w' : World} {lo hi : Nat} (hs : Spo lo hi w w') : ∀ (l : List Ex) (cs cs' : Array Value) (o : Nat), ShEs w lo hi cs o l → CellsR cs cs' → ShEs w' lo hi cs' o l
  | [], _, _, _, _, _ => by unfold ShEs; trivial
  | x :: l, cs, cs', o, h, hc => by
    unfold ShEs at h ⊢
    obtain ⟨⟨c0, c1, c2, c3, e0, e1, e2, e3, n0, n1, n2, hx⟩, hl⟩ := h
    obtain ⟨d0, f0, r0⟩ := hc.2 _ _ e0
    obtain ⟨d1, f1, r1⟩ := hc.2 _ _ e1
    obtain ⟨d2, f2, r2⟩ := hc.2 _ _ e2
    obtain ⟨d3, f3, r3⟩ := hc.2 _ _ e3
    exact ⟨⟨d0, d1, d2, d3, f0, f1, f2, f3, r0.1 n0, r1.1 n1, r2.1 n2, ShE.keep hs x c3 d3 hx r3⟩, ShEs.keep hs l cs cs' (o + 4) hl hc⟩
end
theorem ShEs.at {w : World} {lo hi : Nat} {cs : Array Value} : ∀ {l : List Ex} {o : Nat}, ShEs w lo hi cs o l → ∀ (j : Nat) (hj : j < l.length), ∃ c0 c1 c2 c3, cs[o + j * 4]? = some c0 ∧ cs[o + j * 4 + 1]? = some c1 ∧ cs[o + j * 4 + 2]? = some c2 ∧ cs[o + j * 4 + 3]? = some c3 ∧ NoSl c0 ∧ NoSl c1 ∧ NoSl c2 ∧ ShE w lo hi l[j] c3
  | x :: l, o, h, 0, _ => by unfold ShEs at h; simpa using h.1
  | x :: l, o, h, j + 1, hj => by
    unfold ShEs at h
    have := ShEs.at h.2 j (by simpa using hj)
    rw [show o + 4 + j * 4 = o + (j + 1) * 4 from by omega] at this
    exact this
def slK (k : Nat) : Bool := k == 8 || Nat.ble 12 k
def ShW (ws : List ByteArray) (cs : Array Value) (o : Nat) : Prop := ∀ j, j < ws.length → ∃ u, cs[o + j]? = some u ∧ NoSl u
theorem ShW.keep {ws : List ByteArray} {cs cs' : Array Value} {o : Nat} (hc : CellsR cs cs') (h : ShW ws cs o) : ShW ws cs' o := fun j hj => by
  obtain ⟨u, h1, h2⟩ := h j hj
  obtain ⟨d, f, r⟩ := hc.2 _ _ h1
  exact ⟨d, f, r.1 h2⟩
mutual
def ShS (w : World) (lo hi : Nat) (cs : Array Value) (o : Nat) : St → Prop
  | .mk _ _ _ _ _ a b t e c ws => ∃ u : Nat → Value, (∀ k, k < 17 → cs[o + k]? = some (u k)) ∧ (∀ k, k < 17 → slK k = false → NoSl (u k)) ∧ ShE w lo hi a (u 8) ∧ ShE w lo hi b (u 12) ∧
    ShR w lo hi 256 t (fun cs o => ShSs w lo hi cs o t) (u 13) ∧ ShR w lo hi 256 e (fun cs o => ShSs w lo hi cs o e) (u 14) ∧ ShR w lo hi 256 c (fun cs o => ShSs w lo hi cs o c) (u 15) ∧ ShR w lo hi 16 ws (fun cs o => ShW ws cs o) (u 16)
def ShSs (w : World) (lo hi : Nat) (cs : Array Value) (o : Nat) : List St → Prop
  | [] => True
  | x :: l => ShS w lo hi cs o x ∧ ShSs w lo hi cs (o + 17) l
end
theorem cells_fun {cs cs' : Array Value} {o : Nat} {u : Nat → Value} (hc : CellsR cs cs') (h : ∀ k, k < 17 → cs[o + k]? = some (u k)) : ∃ u' : Nat → Value, (∀ k, k < 17 → cs'[o + k]? = some (u' k)) ∧ ∀ k, k < 17 → VR (u k) (u' k) :=
  ⟨fun k => (cs'[o + k]?).getD undef, fun k hk => by obtain ⟨d, f, _⟩ := hc.2 _ _ (h k hk); show _ = some ((cs'[o + k]?).getD undef); rw [f]; rfl, fun k hk => by obtain ⟨d, f, r⟩ := hc.2 _ _ (h k hk); show VR _ ((cs'[o + k]?).getD undef); rw [f]; exact r⟩
mutual
theorem ShS.keep {w w' : World} {lo hi : Nat} (hs : Spo lo hi w w') : ∀ (x : St) (cs cs' : Array Value) (o : Nat), ShS w lo hi cs o x → CellsR cs cs' → ShS w' lo hi cs' o x
  | .mk _ _ _ _ _ a b t e c ws, cs, cs', o, h, hc => by
    unfold ShS at h ⊢
    obtain ⟨u, h1, h2, ha, hb, ht, he, hcc, hw⟩ := h
    obtain ⟨u', g1, g2⟩ := cells_fun hc h1
    exact ⟨u', g1, fun k hk hn => (g2 k hk).1 (h2 k hk hn), ShE.keep hs a _ _ ha (g2 8 (by decide)), ShE.keep hs b _ _ hb (g2 12 (by decide)),
      ht.keep hs (g2 13 (by decide)) (fun cs cs' o hc hp => ShSs.keep hs t cs cs' o hp hc), he.keep hs (g2 14 (by decide)) (fun cs cs' o hc hp => ShSs.keep hs e cs cs' o hp hc),
      hcc.keep hs (g2 15 (by decide)) (fun cs cs' o hc hp => ShSs.keep hs c cs cs' o hp hc), hw.keep hs (g2 16 (by decide)) (fun cs cs' o hc hp => ShW.keep hc hp)⟩
theorem ShSs.keep {w w' : World} {lo hi : Nat} (hs : Spo lo hi w w') : ∀ (l : List St) (cs cs' : Array Value) (o : Nat), ShSs w lo hi cs o l → CellsR cs cs' → ShSs w' lo hi cs' o l
  | [], _, _, _, _, _ => by unfold ShSs; trivial
  | x :: l, cs, cs', o, h, hc => by
    unfold ShSs at h ⊢
    exact ⟨ShS.keep hs x cs cs' o h.1 hc, ShSs.keep hs l cs cs' (o + 17) h.2 hc⟩
end
theorem ShSs.at {w : World} {lo hi : Nat} {cs : Array Value} : ∀ {l : List St} {o : Nat}, ShSs w lo hi cs o l → ∀ (j : Nat) (hj : j < l.length), ShS w lo hi cs (o + j * 17) l[j]
  | x :: l, o, h, 0, _ => by unfold ShSs at h; simpa using h.1
  | x :: l, o, h, j + 1, hj => by
    unfold ShSs at h
    have := ShSs.at h.2 j (by simpa using hj)
    rw [show o + 17 + j * 17 = o + (j + 1) * 17 from by omega] at this
    exact this
abbrev ShL (w : World) (lo hi : Nat) (l : List St) (v : Value) : Prop := ShR w lo hi 256 l (fun cs o => ShSs w lo hi cs o l) v
/-! A code of the call's own has this form. -/
def Win2 (lo hi : Nat) (w : World) (b _o : Nat) : Prop := lo ≤ b ∧ b < hi ∧ ∃ (T : TypeId) (cs : Array Value), BlkN w b T cs
theorem cell_in {w : World} {b o : Nat} {T : TypeId} {cs : Array Value} {v : Value} (hB : BlkN w b T cs) (h : w.cell? ⟨b, o, Option.none⟩ = some v) : cs[o]? = some v := by rw [← hB.cell_eq]; exact h
mutual
theorem shE_of {w : World} {lo hi : Nat} : ∀ (x : Ex) (c0 c1 c2 c3 : Value), IsExR w (Win2 lo hi w) (.agg #[c0, c1, c2, c3]) x → NoSl c0 ∧ NoSl c1 ∧ NoSl c2 ∧ ShE w lo hi x c3
  | .mk _ _ _ l, c0, c1, c2, c3, h => by
    unfold IsExR at h
    obtain ⟨_, _, _, h4, A, cap, h5, h6, h7⟩ := h
    simp only [Value.agg.injEq, Array.mk.injEq, List.cons.injEq, and_true] at h6
    obtain ⟨rfl, rfl, rfl, rfl⟩ := h6
    refine ⟨trivial, trivial, trivial, ?_⟩
    unfold ShE
    refine .inr ⟨A, cap, h5, h4, rfl, fun hne => ?_⟩
    obtain ⟨b, o, ⟨g1, g2, T, cs, g3⟩, rfl, g4⟩ := h7 hne
    exact ⟨b, o, g1, g2, rfl, T, cs, g3, shEs_of l b o T cs g3 g4⟩
theorem shEs_of {w : World} {lo hi : Nat} : ∀ (l : List Ex) (b o : Nat) (T : TypeId) (cs : Array Value), BlkN w b T cs → IsExsR w (Win2 lo hi w) b o l → ShEs w lo hi cs o l
  | [], _, _, _, _, _, _ => by unfold ShEs; trivial
  | x :: l, b, o, T, cs, hB, h => by
    unfold IsExsR at h
    unfold ShEs
    obtain ⟨⟨c0, c1, c2, c3, hat, hx⟩, hl⟩ := h
    obtain ⟨n0, n1, n2, h3⟩ := shE_of x c0 c1 c2 c3 hx
    exact ⟨⟨c0, c1, c2, c3, cell_in hB (hat 0 c0 rfl), cell_in hB (hat 1 c1 rfl), cell_in hB (hat 2 c2 rfl), cell_in hB (hat 3 c3 rfl), n0, n1, n2, h3⟩, shEs_of l b (o + 4) T cs hB hl⟩
end
theorem shR_of {w : World} {lo hi len cap : Nat} {A : Option Addr} {l : List St} (h : LR (Win2 lo hi w) 256 A len cap l (fun b o => IsStsR w (Win2 lo hi w) b o l)) (hp : ∀ (b o : Nat) (T : TypeId) (cs : Array Value), BlkN w b T cs → IsStsR w (Win2 lo hi w) b o l → ShSs w lo hi cs o l) : ShL w lo hi l (.slice A len cap) := by
  obtain ⟨rfl, hc, hb, h⟩ := h
  refine .inr ⟨A, cap, hc, hb, rfl, fun hne => ?_⟩
  obtain ⟨b, o, ⟨g1, g2, T, cs, g3⟩, rfl, g4⟩ := h hne
  exact ⟨b, o, g1, g2, rfl, T, cs, g3, hp b o T cs g3 g4⟩
mutual
theorem shS_of {w : World} {lo hi : Nat} : ∀ (x : St) (s : SV) (b o : Nat) (T : TypeId) (cs : Array Value), BlkN w b T cs → At w b o s.arr.toList → IsStR w (Win2 lo hi w) s x → ShS w lo hi cs o x
  | .mk op nm sec ab wh xa xb t e c ws, s, b, o, T, cs, hB, hat, h => by
    unfold IsStR at h
    obtain ⟨_, _, ha, hb, ht, he, hc, hw⟩ := h
    unfold ShS
    refine ⟨fun k => (s.arr.toList[k]?).getD undef, fun k hk => ?_, fun k hk hn => ?_, (shE_of xa _ _ _ _ ha).2.2.2, (shE_of xb _ _ _ _ hb).2.2.2, shR_of ht (fun b o T cs hB h => shSs_of t b o T cs hB h), shR_of he (fun b o T cs hB h => shSs_of e b o T cs hB h), shR_of hc (fun b o T cs hB h => shSs_of c b o T cs hB h), ?_⟩
    · have hkl : k < s.arr.toList.length := by simp [SV.size]; omega
      have := cell_in hB (hat k _ (List.getElem?_eq_getElem hkl))
      show _ = some ((s.arr.toList[k]?).getD undef)
      rw [this, List.getElem?_eq_getElem hkl]
      rfl
    · have : k = 0 ∨ k = 1 ∨ k = 2 ∨ k = 3 ∨ k = 4 ∨ k = 5 ∨ k = 6 ∨ k = 7 ∨ k = 9 ∨ k = 10 ∨ k = 11 := by
        have h1 : ¬ 12 ≤ k := fun h => by rw [slK, Nat.ble_eq_true_of_le h] at hn; simp at hn
        have h2 : k ≠ 8 := fun h => by subst h; cases hn
        omega
      rcases this with rfl | rfl | rfl | rfl | rfl | rfl | rfl | rfl | rfl | rfl | rfl <;> trivial
    · obtain ⟨h1, h2, A, cap, h3, h4, h5⟩ := hw
      refine .inr ⟨A, cap, h3, h1, h4, fun hne => ?_⟩
      obtain ⟨b, o, ⟨g1, g2, T, cs, g3⟩, rfl, g4⟩ := h5 hne
      exact ⟨b, o, g1, g2, rfl, T, cs, g3, fun j hj => ⟨_, cell_in g3 (g4 j hj), trivial⟩⟩
theorem shSs_of {w : World} {lo hi : Nat} : ∀ (l : List St) (b o : Nat) (T : TypeId) (cs : Array Value), BlkN w b T cs → IsStsR w (Win2 lo hi w) b o l → ShSs w lo hi cs o l
  | [], _, _, _, _, _, _ => by unfold ShSs; trivial
  | x :: l, b, o, T, cs, hB, h => by
    unfold IsStsR at h
    unfold ShSs
    obtain ⟨⟨s, h1, h2⟩, h3⟩ := h
    exact ⟨shS_of x s b o T cs hB h1 h2, shSs_of l b (o + 17) T cs hB h3⟩
end
theorem shL_of {w : World} {lo len cap : Nat} {A : Option Addr} {l : List St} (h : LR (OwnU lo w) 256 A len cap l (fun b o => IsStsR w (OwnU lo w) b o l)) : ShL w lo w.heap.size l (.slice A len cap) := by
  have hk : ∀ b o, OwnU lo w b o → Win2 lo w.heap.size w b o := fun b o hr => ⟨hr.1, hr.lt, by obtain ⟨_, cur, T, h⟩ := hr; exact ⟨T, cur, h⟩⟩
  exact shR_of (h.imp fun b o hr hp => ⟨hk b o hr, IsStsR.mono hk hp⟩) fun b o T cs hB h => shSs_of l b o T cs hB h
end Go.Proofs.Ytnknefdpglnbnaa
