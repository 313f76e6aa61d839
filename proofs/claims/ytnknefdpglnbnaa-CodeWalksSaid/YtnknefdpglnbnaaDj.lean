/- Codes written over: what is left of the rest; the walks that write over. The law's own functions that write codes over, walked. -/
import Derived.Test.YtnknefdpglnbnaaCp
namespace Go.Proofs.Ytnknefdpglnbnaa
open Go.RowKit

def NoSl : Value → Prop
  | .slice _ _ _ => False
  | _ => True
/-- A cell that may have been written over: a slice is as it was, or nil; what is no slice stays none. -/
def VR (v v' : Value) : Prop := (NoSl v → NoSl v') ∧ ∀ A l c, v = .slice A l c → v' = .slice A l c ∨ v' = .slice Option.none 0 0
theorem VR.refl (v : Value) : VR v v := ⟨id, fun _ _ _ h => .inl h⟩
theorem VR.trans {a b c : Value} (h : VR a b) (k : VR b c) : VR a c := ⟨fun x => k.1 (h.1 x), fun A l cc e => by
  rcases h.2 A l cc e with e1 | e1
  · exact k.2 _ _ _ e1
  · rcases k.2 _ _ _ e1 with e2 | e2 <;> exact .inr e2⟩
theorem VR.no {a b : Value} (h : NoSl a) (k : NoSl b) : VR a b := ⟨fun _ => k, fun A l c e => by rw [e] at h; exact h.elim⟩
def CellsR (cs cs' : Array Value) : Prop := cs'.size = cs.size ∧ ∀ (i : Nat) (v : Value), cs[i]? = some v → ∃ v', cs'[i]? = some v' ∧ VR v v'
theorem CellsR.refl (cs : Array Value) : CellsR cs cs := ⟨rfl, fun _ v h => ⟨v, h, VR.refl v⟩⟩
theorem CellsR.trans {a b c : Array Value} (h : CellsR a b) (k : CellsR b c) : CellsR a c := ⟨k.1.trans h.1, fun i v e => by
  obtain ⟨v1, e1, r1⟩ := h.2 i v e
  obtain ⟨v2, e2, r2⟩ := k.2 i v1 e1
  exact ⟨v2, e2, r1.trans r2⟩⟩
/-- The blocks from lo on, up to hi, may have been written over; all other blocks are as they were. -/
structure Spo (lo hi : Nat) (w w' : World) : Prop where
  os : w'.os = w.os
  tape : w'.tape = w.tape
  output : w'.output = w.output
  size : w.heap.size ≤ w'.heap.size
  block : ∀ b, b < w.heap.size → (b < lo ∨ hi ≤ b) → w'.heap[b]? = w.heap[b]?
  cells : ∀ (b : Nat) (T : TypeId) (cs : Array Value), lo ≤ b → b < hi → BlkN w b T cs → ∃ cs', BlkN w' b T cs' ∧ CellsR cs cs'
theorem Spo.refl (lo hi : Nat) (w : World) : Spo lo hi w w := ⟨rfl, rfl, rfl, Nat.le_refl _, fun _ _ _ => rfl, fun _ _ cs _ _ h => ⟨cs, h, CellsR.refl cs⟩⟩
theorem Spo.trans {lo hi : Nat} {a b c : World} (h : Spo lo hi a b) (k : Spo lo hi b c) : Spo lo hi a c :=
  ⟨k.os.trans h.os, k.tape.trans h.tape, k.output.trans h.output, Nat.le_trans h.size k.size, fun q hq hr => (k.block q (Nat.lt_of_lt_of_le hq h.size) hr).trans (h.block q hq hr), fun q T cs h1 h2 hB => by
    obtain ⟨c1, e1, r1⟩ := h.cells q T cs h1 h2 hB
    obtain ⟨c2, e2, r2⟩ := k.cells q T c1 h1 h2 e1
    exact ⟨c2, e2, r1.trans r2⟩⟩
theorem Spo.of_below {lo hi : Nat} {w w' : World} (h : Below w.heap.size w w') : Spo lo hi w w' := ⟨h.os, h.tape, h.output, h.size, fun b hb _ => h.block b hb, fun _b _T cs _ _ hB => ⟨cs, hB.below h, CellsR.refl cs⟩⟩
theorem Spo.below {lo hi n : Nat} {a w w' : World} (h : Spo lo hi w w') (ha : Below n a w) (hn : n ≤ lo) (hz : n ≤ w.heap.size) : Below n a w' :=
  ⟨h.os.trans ha.os, h.tape.trans ha.tape, h.output.trans ha.output, Nat.le_trans ha.size h.size, fun k hk => (h.block k (by omega) (.inl (by omega))).trans (ha.block k hk)⟩
theorem Spo.store {lo hi b : Nat} {w w' : World} {T : TypeId} {cs nw : Array Value} {off : Nat} {new : List Value} (hB : BlkN w b T cs) (hB' : BlkN w' b T nw) (hbut : But b w w') (_hlo : lo ≤ b) (_hhi : b < hi) (hn : off + new.length ≤ cs.size)
    (hnw : cs.toList.take off ++ new ++ cs.toList.drop (off + new.length) = nw.toList) (hv : ∀ (k : Nat) (u : Value), new[k]? = some u → ∃ v, cs[off + k]? = some v ∧ VR v u) : Spo lo hi w w' := by
  refine ⟨hbut.os, hbut.tape, hbut.output, by rw [hbut.size]; exact Nat.le_refl _, fun q _ hr => hbut.other q (by omega), fun q U ds h1 h2 hq => ?_⟩
  by_cases hqb : q = b
  · subst hqb
    have e := hB.symm.trans hq
    simp only [Option.some.injEq, Obj.cells.injEq, and_true] at e
    obtain ⟨rfl, rfl⟩ := e
    refine ⟨nw, hB', ?_, fun i v hi' => ?_⟩
    · rw [← Array.length_toList, ← hnw]; simp; omega
    · have hil : i < cs.size := (Array.getElem?_eq_some_iff.1 hi').1
      have hnl : new.length = new.length := rfl
      by_cases h1 : i < off
      · refine ⟨v, ?_, VR.refl v⟩
        rw [← Array.getElem?_toList, ← hnw, List.append_assoc, List.getElem?_append_left (by simp; omega), List.getElem?_take, if_pos h1, Array.getElem?_toList]
        exact hi'
      · by_cases h2 : i < off + new.length
        · obtain ⟨u, hu⟩ : ∃ u, new[i - off]? = some u := ⟨new[i - off]'(by omega), List.getElem?_eq_getElem (by omega)⟩
          obtain ⟨v0, hv0, hr⟩ := hv _ u hu
          rw [show off + (i - off) = i from by omega, hi'] at hv0
          simp only [Option.some.injEq] at hv0
          subst hv0
          refine ⟨u, ?_, hr⟩
          rw [← Array.getElem?_toList, ← hnw, List.append_assoc, List.getElem?_append_right (by simp; omega), List.getElem?_append_left (by simp; omega)]
          rw [← hu]
          congr 1
          simp
          omega
        · refine ⟨v, ?_, VR.refl v⟩
          rw [← Array.getElem?_toList, ← hnw, List.getElem?_append_right (by simp; omega), List.getElem?_drop, ← hi', ← Array.getElem?_toList]
          congr 1
          simp
          omega
  · exact ⟨ds, (hbut.other q hqb).trans hq, CellsR.refl ds⟩
/-- A slice of parts, or what is left of it. -/
def ShR {α : Type} (w : World) (lo hi sz : Nat) (l : List α) (p : Array Value → Nat → Prop) (v : Value) : Prop :=
  v = .slice Option.none 0 0 ∨ ∃ A cap, l.length ≤ cap ∧ l.length * sz ≤ 140737488351232 ∧ v = .slice A l.length cap ∧ (l ≠ [] → ∃ b o, lo ≤ b ∧ b < hi ∧ A = some ⟨b, o, Option.none⟩ ∧ ∃ T cs, BlkN w b T cs ∧ p cs o)
theorem ShR.sl {α : Type} {w : World} {lo hi sz : Nat} {l : List α} {p : Array Value → Nat → Prop} {v : Value} (h : ShR w lo hi sz l p v) : ∃ A len cap, v = .slice A len cap := by
  rcases h with h | ⟨A, cap, _, _, h, _⟩ <;> exact ⟨_, _, _, h⟩
theorem ShR.vr {α : Type} {w : World} {lo hi sz : Nat} {l : List α} {p : Array Value → Nat → Prop} {v : Value} (h : ShR w lo hi sz l p v) : VR v (.slice Option.none 0 0) := by
  obtain ⟨A, len, cap, rfl⟩ := h.sl
  exact ⟨fun h => h, fun _ _ _ _ => .inr rfl⟩
theorem ShR.keep {α : Type} {w w' : World} {lo hi sz : Nat} {l : List α} {p q : Array Value → Nat → Prop} {v v' : Value} (h : ShR w lo hi sz l p v) (hs : Spo lo hi w w') (hv : VR v v') (hp : ∀ cs cs' o, CellsR cs cs' → p cs o → q cs' o) : ShR w' lo hi sz l q v' := by
  rcases h with rfl | ⟨A, cap, h1, h2, rfl, h3⟩
  · rcases hv.2 _ _ _ rfl with e | e <;> exact .inl e
  · rcases hv.2 _ _ _ rfl with e | e
    · refine .inr ⟨A, cap, h1, h2, e, fun hne => ?_⟩
      obtain ⟨b, o, g1, g2, g3, T, cs, g4, g5⟩ := h3 hne
      obtain ⟨cs', e4, e5⟩ := hs.cells b T cs g1 g2 g4
      exact ⟨b, o, g1, g2, g3, T, cs', e4, hp cs cs' o e5 g5⟩
    · exact .inl e
mutual
def ShE (w : World) (lo hi : Nat) : Ex → Value → Prop
  | .mk _ _ _ l, v => ShR w lo hi 56 l (fun cs o => ShEs w lo hi cs o l) v
def ShEs (w : World) (lo hi : Nat) (cs : Array Value) (o : Nat) : List Ex → Prop
  | [] => True
  | x :: l => (∃ c0 c1 c2 c3, cs[o]? = some c0 ∧ cs[o + 1]? = some c1 ∧ cs[o + 2]? = some c2 ∧ cs[o + 3]? = some c3 ∧ NoSl c0 ∧ NoSl c1 ∧ NoSl c2 ∧ ShE w lo hi x c3) ∧ ShEs w lo hi cs (o + 4) l
end
mutual
theorem ShE.keep {w w' : World} {lo hi : Nat} (hs : Spo lo hi w w') : ∀ (x : Ex) (v v' : Value), ShE w lo hi x v → VR v v' → ShE w' lo hi x v'
  | .mk _ _ _ l, v, v', h, hv => by
    unfold ShE at h ⊢
    exact h.keep hs hv fun cs cs' o hc hp => ShEs.keep hs l cs cs' o hp hc
theorem ShEs.keep {w w' : World} {lo hi : Nat} (hs : Spo lo hi w w') : ∀ (l : List Ex) (cs cs' : Array Value) (o : Nat), ShEs w lo hi cs o l → CellsR cs cs' → ShEs w' lo hi cs' o l
  | [], _, _, _, _, _ => by unfold ShEs; trivial
  | x :: l, cs, cs', o, h, hc => by
    unfold ShEs at h ⊢
    obtain ⟨⟨c0, c1, c2, c3, e0, e1, e2, e3, n0, n1, n2, hx⟩, hl⟩ := h
    obtain ⟨d0, f0, r0⟩ := hc.2 _ _ e0
    obtain ⟨d1, f1, r1⟩ := hc.2 _ _ e1
    obtain ⟨d2, f2, r2⟩ := hc.2 _ _ e2
    obtain ⟨d3, f3, r3⟩ := hc.2 _ _ e3
    exact ⟨⟨d0, d1, d2, d3, f0, f1, f2, f3, r0.1 n0, r1.1 n1, r2.1 n2, ShE.keep hs x c3 d3 hx r3⟩, ShEs.keep hs l cs cs' (o + 4) hl hc⟩
end
theorem ShEs.at {w : World} {lo hi : Nat} {cs : Array Value} : ∀ {l : List Ex} {o : Nat}, ShEs w lo hi cs o l → ∀ (j : Nat) (hj : j < l.length), ∃ c0 c1 c2 c3, cs[o + j * 4]? = some c0 ∧ cs[o + j * 4 + 1]? = some c1 ∧ cs[o + j * 4 + 2]? = some c2 ∧ cs[o + j * 4 + 3]? = some c3 ∧ NoSl c0 ∧ NoSl c1 ∧ NoSl c2 ∧ ShE w lo hi l[j] c3
  | x :: l, o, h, 0, _ => by unfold ShEs at h; simpa using h.1
  | x :: l, o, h, j + 1, hj => by
    unfold ShEs at h
    have := ShEs.at h.2 j (by simpa using hj)
    rw [show o + 4 + j * 4 = o + (j + 1) * 4 from by omega] at this
    exact this
def slK (k : Nat) : Bool := k == 8 || Nat.ble 12 k
def ShW (ws : List ByteArray) (cs : Array Value) (o : Nat) : Prop := ∀ j, j < ws.length → ∃ u, cs[o + j]? = some u ∧ NoSl u
theorem ShW.keep {ws : List ByteArray} {cs cs' : Array Value} {o : Nat} (hc : CellsR cs cs') (h : ShW ws cs o) : ShW ws cs' o := fun j hj => by
  obtain ⟨u, h1, h2⟩ := h j hj
  obtain ⟨d, f, r⟩ := hc.2 _ _ h1
  exact ⟨d, f, r.1 h2⟩
mutual
def ShS (w : World) (lo hi : Nat) (cs : Array Value) (o : Nat) : St → Prop
  | .mk _ _ _ _ _ a b t e c ws => ∃ u : Nat → Value, (∀ k, k < 17 → cs[o + k]? = some (u k)) ∧ (∀ k, k < 17 → slK k = false → NoSl (u k)) ∧ ShE w lo hi a (u 8) ∧ ShE w lo hi b (u 12) ∧
    ShR w lo hi 256 t (fun cs o => ShSs w lo hi cs o t) (u 13) ∧ ShR w lo hi 256 e (fun cs o => ShSs w lo hi cs o e) (u 14) ∧ ShR w lo hi 256 c (fun cs o => ShSs w lo hi cs o c) (u 15) ∧ ShR w lo hi 16 ws (fun cs o => ShW ws cs o) (u 16)
def ShSs (w : World) (lo hi : Nat) (cs : Array Value) (o : Nat) : List St → Prop
  | [] => True
  | x :: l => ShS w lo hi cs o x ∧ ShSs w lo hi cs (o + 17) l
end
theorem cells_fun {cs cs' : Array Value} {o : Nat} {u : Nat → Value} (hc : CellsR cs cs') (h : ∀ k, k < 17 → cs[o + k]? = some (u k)) : ∃ u' : Nat → Value, (∀ k, k < 17 → cs'[o + k]? = some (u' k)) ∧ ∀ k, k < 17 → VR (u k) (u' k) :=
  ⟨fun k => (cs'[o + k]?).getD undef, fun k hk => by obtain ⟨d, f, _⟩ := hc.2 _ _ (h k hk); show _ = some ((cs'[o + k]?).getD undef); rw [f]; rfl, fun k hk => by obtain ⟨d, f, r⟩ := hc.2 _ _ (h k hk); show VR _ ((cs'[o + k]?).getD undef); rw [f]; exact r⟩
mutual
theorem ShS.keep {w w' : World} {lo hi : Nat} (hs : Spo lo hi w w') : ∀ (x : St) (cs cs' : Array Value) (o : Nat), ShS w lo hi cs o x → CellsR cs cs' → ShS w' lo hi cs' o x
  | .mk _ _ _ _ _ a b t e c ws, cs, cs', o, h, hc => by
    unfold ShS at h ⊢
    obtain ⟨u, h1, h2, ha, hb, ht, he, hcc, hw⟩ := h
    obtain ⟨u', g1, g2⟩ := cells_fun hc h1
    exact ⟨u', g1, fun k hk hn => (g2 k hk).1 (h2 k hk hn), ShE.keep hs a _ _ ha (g2 8 (by decide)), ShE.keep hs b _ _ hb (g2 12 (by decide)),
      ht.keep hs (g2 13 (by decide)) (fun cs cs' o hc hp => ShSs.keep hs t cs cs' o hp hc), he.keep hs (g2 14 (by decide)) (fun cs cs' o hc hp => ShSs.keep hs e cs cs' o hp hc),
      hcc.keep hs (g2 15 (by decide)) (fun cs cs' o hc hp => ShSs.keep hs c cs cs' o hp hc), hw.keep hs (g2 16 (by decide)) (fun cs cs' o hc hp => ShW.keep hc hp)⟩
theorem ShSs.keep {w w' : World} {lo hi : Nat} (hs : Spo lo hi w w') : ∀ (l : List St) (cs cs' : Array Value) (o : Nat), ShSs w lo hi cs o l → CellsR cs cs' → ShSs w' lo hi cs' o l
  | [], _, _, _, _, _ => by unfold ShSs; trivial
  | x :: l, cs, cs', o, h, hc => by
    unfold ShSs at h ⊢
    exact ⟨ShS.keep hs x cs cs' o h.1 hc, ShSs.keep hs l cs cs' (o + 17) h.2 hc⟩
end
theorem ShSs.at {w : World} {lo hi : Nat} {cs : Array Value} : ∀ {l : List St} {o : Nat}, ShSs w lo hi cs o l → ∀ (j : Nat) (hj : j < l.length), ShS w lo hi cs (o + j * 17) l[j]
  | x :: l, o, h, 0, _ => by unfold ShSs at h; simpa using h.1
  | x :: l, o, h, j + 1, hj => by
    unfold ShSs at h
    have := ShSs.at h.2 j (by simpa using hj)
    rw [show o + 17 + j * 17 = o + (j + 1) * 17 from by omega] at this
    exact this
abbrev ShL (w : World) (lo hi : Nat) (l : List St) (v : Value) : Prop := ShR w lo hi 256 l (fun cs o => ShSs w lo hi cs o l) v
/-! A code of the call's own has this form. -/
def Win2 (lo hi : Nat) (w : World) (b _o : Nat) : Prop := lo ≤ b ∧ b < hi ∧ ∃ (T : TypeId) (cs : Array Value), BlkN w b T cs
theorem cell_in {w : World} {b o : Nat} {T : TypeId} {cs : Array Value} {v : Value} (hB : BlkN w b T cs) (h : w.cell? ⟨b, o, Option.none⟩ = some v) : cs[o]? = some v := by rw [← hB.cell_eq]; exact h
mutual
theorem shE_of {w : World} {lo hi : Nat} : ∀ (x : Ex) (c0 c1 c2 c3 : Value), IsExR w (Win2 lo hi w) (.agg #[c0, c1, c2, c3]) x → NoSl c0 ∧ NoSl c1 ∧ NoSl c2 ∧ ShE w lo hi x c3
  | .mk _ _ _ l, c0, c1, c2, c3, h => by
    unfold IsExR at h
    obtain ⟨_, _, _, h4, A, cap, h5, h6, h7⟩ := h
    simp only [Value.agg.injEq, Array.mk.injEq, List.cons.injEq, and_true] at h6
    obtain ⟨rfl, rfl, rfl, rfl⟩ := h6
    refine ⟨trivial, trivial, trivial, ?_⟩
    unfold ShE
    refine .inr ⟨A, cap, h5, h4, rfl, fun hne => ?_⟩
    obtain ⟨b, o, ⟨g1, g2, T, cs, g3⟩, rfl, g4⟩ := h7 hne
    exact ⟨b, o, g1, g2, rfl, T, cs, g3, shEs_of l b o T cs g3 g4⟩
theorem shEs_of {w : World} {lo hi : Nat} : ∀ (l : List Ex) (b o : Nat) (T : TypeId) (cs : Array Value), BlkN w b T cs → IsExsR w (Win2 lo hi w) b o l → ShEs w lo hi cs o l
  | [], _, _, _, _, _, _ => by unfold ShEs; trivial
  | x :: l, b, o, T, cs, hB, h => by
    unfold IsExsR at h
    unfold ShEs
    obtain ⟨⟨c0, c1, c2, c3, hat, hx⟩, hl⟩ := h
    obtain ⟨n0, n1, n2, h3⟩ := shE_of x c0 c1 c2 c3 hx
    exact ⟨⟨c0, c1, c2, c3, cell_in hB (hat 0 c0 rfl), cell_in hB (hat 1 c1 rfl), cell_in hB (hat 2 c2 rfl), cell_in hB (hat 3 c3 rfl), n0, n1, n2, h3⟩, shEs_of l b (o + 4) T cs hB hl⟩
end
theorem shR_of {w : World} {lo hi len cap : Nat} {A : Option Addr} {l : List St} (h : LR (Win2 lo hi w) 256 A len cap l (fun b o => IsStsR w (Win2 lo hi w) b o l)) (hp : ∀ (b o : Nat) (T : TypeId) (cs : Array Value), BlkN w b T cs → IsStsR w (Win2 lo hi w) b o l → ShSs w lo hi cs o l) : ShL w lo hi l (.slice A len cap) := by
  obtain ⟨rfl, hc, hb, h⟩ := h
  refine .inr ⟨A, cap, hc, hb, rfl, fun hne => ?_⟩
  obtain ⟨b, o, ⟨g1, g2, T, cs, g3⟩, rfl, g4⟩ := h hne
  exact ⟨b, o, g1, g2, rfl, T, cs, g3, hp b o T cs g3 g4⟩
mutual
theorem shS_of {w : World} {lo hi : Nat} : ∀ (x : St) (s : SV) (b o : Nat) (T : TypeId) (cs : Array Value), BlkN w b T cs → At w b o s.arr.toList → IsStR w (Win2 lo hi w) s x → ShS w lo hi cs o x
  | .mk op nm sec ab wh xa xb t e c ws, s, b, o, T, cs, hB, hat, h => by
    unfold IsStR at h
    obtain ⟨_, _, ha, hb, ht, he, hc, hw⟩ := h
    unfold ShS
    refine ⟨fun k => (s.arr.toList[k]?).getD undef, fun k hk => ?_, fun k hk hn => ?_, (shE_of xa _ _ _ _ ha).2.2.2, (shE_of xb _ _ _ _ hb).2.2.2, shR_of ht (fun b o T cs hB h => shSs_of t b o T cs hB h), shR_of he (fun b o T cs hB h => shSs_of e b o T cs hB h), shR_of hc (fun b o T cs hB h => shSs_of c b o T cs hB h), ?_⟩
    · have hkl : k < s.arr.toList.length := by simp [SV.size]; omega
      have := cell_in hB (hat k _ (List.getElem?_eq_getElem hkl))
      show _ = some ((s.arr.toList[k]?).getD undef)
      rw [this, List.getElem?_eq_getElem hkl]
      rfl
    · have : k = 0 ∨ k = 1 ∨ k = 2 ∨ k = 3 ∨ k = 4 ∨ k = 5 ∨ k = 6 ∨ k = 7 ∨ k = 9 ∨ k = 10 ∨ k = 11 := by
        have h1 : ¬ 12 ≤ k := fun h => by rw [slK, Nat.ble_eq_true_of_le h] at hn; simp at hn
        have h2 : k ≠ 8 := fun h => by subst h; cases hn
        omega
      rcases this with rfl | rfl | rfl | rfl | rfl | rfl | rfl | rfl | rfl | rfl | rfl <;> trivial
    · obtain ⟨h1, h2, A, cap, h3, h4, h5⟩ := hw
      refine .inr ⟨A, cap, h3, h1, h4, fun hne => ?_⟩
      obtain ⟨b, o, ⟨g1, g2, T, cs, g3⟩, rfl, g4⟩ := h5 hne
      exact ⟨b, o, g1, g2, rfl, T, cs, g3, fun j hj => ⟨_, cell_in g3 (g4 j hj), trivial⟩⟩
theorem shSs_of {w : World} {lo hi : Nat} : ∀ (l : List St) (b o : Nat) (T : TypeId) (cs : Array Value), BlkN w b T cs → IsStsR w (Win2 lo hi w) b o l → ShSs w lo hi cs o l
  | [], _, _, _, _, _, _ => by unfold ShSs; trivial
  | x :: l, b, o, T, cs, hB, h => by
    unfold IsStsR at h
    unfold ShSs
    obtain ⟨⟨s, h1, h2⟩, h3⟩ := h
    exact ⟨shS_of x s b o T cs hB h1 h2, shSs_of l b (o + 17) T cs hB h3⟩
end
theorem shL_of {w : World} {lo len cap : Nat} {A : Option Addr} {l : List St} (h : LR (OwnU lo w) 256 A len cap l (fun b o => IsStsR w (OwnU lo w) b o l)) : ShL w lo w.heap.size l (.slice A len cap) := by
  have hk : ∀ b o, OwnU lo w b o → Win2 lo w.heap.size w b o := fun b o hr => ⟨hr.1, hr.lt, by obtain ⟨_, cur, T, h⟩ := hr; exact ⟨T, cur, h⟩⟩
  exact shR_of (h.imp fun b o hr hp => ⟨hk b o hr, IsStsR.mono hk hp⟩) fun b o T cs hB h => shSs_of l b o T cs hB h
end Go.Proofs.Ytnknefdpglnbnaa
namespace Go.Proofs.Ytnknefdpglnbnaa
open Go.RowKit

def SpoilEC (x : Ex) : Prop := ∀ (lo hi : Nat) (w : World) (c0 c1 c2 c3 : Value), hi ≤ w.heap.size → ShE w lo hi x c3 → Calls Try.prog 94 #[.agg #[c0, c1, c2, c3]] w fun e w' => e = .returned (.tuple #[]) ∧ Spo lo hi w w'
def SpoilC (l : List St) : Prop := ∀ (lo hi : Nat) (w : World) (v : Value), hi ≤ w.heap.size → ShL w lo hi l v → Calls Try.prog 53 #[v] w fun e w' => e = .returned (.tuple #[]) ∧ Spo lo hi w w'
theorem BlkN.spo {lo hi p : Nat} {w w' : World} {T : TypeId} {cs : Array Value} (h : BlkN w p T cs) (hs : Spo lo hi w w') (hp : hi ≤ p) : BlkN w' p T cs := (hs.block p h.lt (.inr hp)).trans h
theorem shE_vr {w : World} {lo hi : Nat} {x : Ex} {v : Value} (h : ShE w lo hi x v) : VR v (.slice Option.none 0 0) := by
  obtain ⟨k, n, s, l⟩ := x
  unfold ShE at h
  exact h.vr
attribute [local irreducible] wpList
set_option maxRecDepth 100000 in
set_option maxHeartbeats 2000000 in
theorem spoilExpr94_any (x : Ex) : SpoilEC x := by
  induction x using Ex.ind with
  | h k n s l IH =>
  intro lo hi w c0 c1 c2 c3 hhi hsh
  unfold ShE at hsh
  have HI := Lib.hid IH
  obtain ⟨i0, hi', hz0, hz1, hz2⟩ := info_parts info26
  have HIN := Lib.hid hi'
  have HB0 : Hid (BlkN (w.alloc (.cells #[c0, c1, c2, c3] 26)) w.heap.size 26 #[c0, c1, c2, c3]) := Lib.hid (BlkN.at_ rfl _ _)
  have HS0 : Hid (Spo lo hi w (w.alloc (.cells #[c0, c1, c2, c3] 26))) := Lib.hid (Spo.of_below ((Below.refl _ _).alloc (Nat.le_refl _) _))
  clear IH hi'
  rcases hsh with rfl | ⟨A, cap, hcap, hby, rfl, h7⟩
  · go_enter Try.func94, Try.ntmps94
    go_wp2_with fail
    go_loopw [2] (fun i wr => i = .int .i64 0 ∧ Spo lo hi w wr ∧ BlkN wr w.heap.size 26 #[c0, c1, c2, .slice Option.none 0 0]) (fun i _ => 0)
    case atStart => exact ⟨rfl, HS0.out, HB0.out⟩
    case round =>
      obtain ⟨rfl, hs, hb⟩ := hrel
      have e3 := hb.cell 3 rfl
      go_wp2_with fail
      go_end0
      exact ⟨rfl, hs⟩
  have H7 := Lib.hid h7
  have hll : l.length ≤ 140737488351232 := by omega
  clear h7
  go_enter Try.func94, Try.ntmps94
  go_wp2_with fail
  go_loopw [2] (fun i wr => ∃ j : Nat, j ≤ l.length ∧ i = .int .i64 j ∧ Spo lo hi w wr ∧ BlkN wr w.heap.size 26 #[c0, c1, c2, .slice A l.length cap]) (fun i _ => l.length - (intOf i).toNat)
  case atStart => exact ⟨0, by omega, rfl, HS0.out, HB0.out⟩
  case round =>
    obtain ⟨j, hj, rfl, hs, hb⟩ := hrel
    have e3 := hb.cell 3 rfl
    have HS := Lib.hid hs
    have HB := Lib.hid hb
    have hbl := hb.lt
    clear hs hb
    by_cases hlt : j < l.length
    rotate_left
    · obtain rfl : j = l.length := by omega
      go_wp2_with fail
      go_end0
      exact ⟨rfl, HS.out⟩
    obtain ⟨b, o, hlo, hhb, hA, T, cs, hB, hE⟩ := H7.out (by rintro rfl; simp at hlt)
    subst hA
    have HEL : Hid (∀ wr, Spo lo hi w wr → ∃ cs', BlkN wr b T cs' ∧ ShEs wr lo hi cs' o l) := Lib.hid fun wr hs => by
      obtain ⟨cs', h1, h2⟩ := hs.cells b T cs hlo hhb hB
      exact ⟨cs', h1, ShEs.keep hs l cs cs' o hE h2⟩
    clear hE hB cs
    obtain ⟨cs, hB, hE⟩ := HEL.out wr HS.out
    obtain ⟨d0, d1, d2, d3, f0, f1, f2, f3, _, _, _, hx⟩ := hE.at j hlt
    have g0 : wr.cell? ⟨b, o + j * 4, Option.none⟩ = some d0 := by rw [hB.cell_eq]; exact f0
    have g1 : wr.cell? ⟨b, o + j * 4 + 1, Option.none⟩ = some d1 := by rw [hB.cell_eq]; exact f1
    have g2 : wr.cell? ⟨b, o + j * 4 + 2, Option.none⟩ = some d2 := by rw [hB.cell_eq]; exact f2
    have g3 : wr.cell? ⟨b, o + j * 4 + 3, Option.none⟩ = some d3 := by rw [hB.cell_eq]; exact f3
    have HC : Hid (Calls Try.prog 94 #[.agg #[d0, d1, d2, d3]] wr fun e w' => e = .returned (.tuple #[]) ∧ Spo lo hi wr w') := Lib.hid (HI.out l[j] (List.getElem_mem hlt) lo hi wr d0 d1 d2 d3 (Nat.le_trans hhi HS.out.size) hx)
    clear hE hB f0 f1 f2 f3 hx
    go_upto_region 5 with (go_at_call 94; refine HC.out.mono ?_; rintro e w1 ⟨rfl, hs1⟩)
    have hb1 : BlkN w1 w.heap.size 26 #[c0, c1, c2, .slice (some ⟨b, o, Option.none⟩) l.length cap] := HB.out.spo hs1 hhi
    have e31 := hb1.cell 3 rfl
    have HS1 := Lib.hid (HS.out.trans hs1)
    have HBB1 := Lib.hid hb1
    obtain ⟨cs1, hB1, hE1⟩ := HEL.out w1 HS1.out
    have HBB := Lib.hid hB1
    have HE1 := Lib.hid hE1
    have hsz : o + j * 4 + 4 ≤ cs1.size := by
      obtain ⟨d0, d1, d2, d3, f0, f1, f2, f3, _⟩ := hE1.at j hlt
      have := (Array.getElem?_eq_some_iff.1 f3).1
      omega
    have hbl1 := hB1.lt
    clear g0 g1 g2 g3 e3 hs1 hb1 hB1 hE1 HC HB
    go_wp2_with (refine wpList_store_part rfl 26 (.tmp 20) (.tmp 19) rfl i0 HIN.out b (o + j * 4) (.agg #[.int .u8 77, .int .i64 0, .string ⟨#[]⟩, .slice Option.none 0 0]) [.int .u8 77, .int .i64 0, .string ⟨#[]⟩, .slice Option.none 0 0] rfl rfl rfl T cs1 (cs1.toList.take (o + j * 4) ++ ([.int .u8 77, .int .i64 0, .string ⟨#[]⟩, .slice Option.none 0 0] : List Value) ++ cs1.toList.drop (o + j * 4 + 4)).toArray HBB.out (by rw [hz1]; rfl) hsz (by intro u hu; simp only [List.mem_cons, List.not_mem_nil, or_false] at hu; rcases hu with rfl | rfl | rfl | rfl <;> rfl) rfl ?_; intro w2 hB2 hbut)
    have hs2 : Spo lo hi w1 w2 := by
      refine Spo.store HBB.out hB2 hbut hlo hhb hsz rfl fun q u hu => ?_
      obtain ⟨d0, d1, d2, d3, f0, f1, f2, f3, n0, n1, n2, hx⟩ := HE1.out.at j hlt
      have hq : q = 0 ∨ q = 1 ∨ q = 2 ∨ q = 3 := by have := (List.getElem?_eq_some_iff.1 hu).1; simp at this; omega
      rcases hq with rfl | rfl | rfl | rfl
      · simp at hu; subst hu; exact ⟨d0, f0, VR.no n0 trivial⟩
      · simp at hu; subst hu; exact ⟨d1, f1, VR.no n1 trivial⟩
      · simp at hu; subst hu; exact ⟨d2, f2, VR.no n2 trivial⟩
      · simp at hu; subst hu
        refine ⟨d3, f3, ?_⟩
        exact shE_vr hx
    have HS2 := Lib.hid (HS1.out.trans hs2)
    have HB2 := Lib.hid (HBB1.out.spo hs2 hhi)
    clear hs2 hbut hB2
    go_wp2_with fail
    go_roundw
    case rel => exact ⟨j + 1, by omega, by go_num, HS2.out, HB2.out⟩
    case measure => simp [intOf]; omega
def DnP : St → Prop
  | .mk _ _ _ _ _ _ _ t e c _ => SpoilC t ∧ SpoilC e ∧ SpoilC c
def svN : SV := { SV.zero with op := 77 }
theorem info58z : True := trivial
attribute [local go_sem] SV.g0 SV.g1 SV.g2 SV.g3 SV.g4 SV.g5 SV.g6 SV.g7 SV.g8 SV.g9 SV.g10 SV.g11 SV.g12 SV.g13 SV.g14 SV.g15 SV.g16
set_option maxRecDepth 100000 in
set_option maxHeartbeats 4000000 in
theorem spoil53_step (l : List St) (IH : ∀ x ∈ l, DnP x) : SpoilC l := by
  intro lo hi w v hhi hsh
  have HI := Lib.hid IH
  obtain ⟨i0, hi', hz0, hz1, hz2⟩ := info_parts info58
  obtain ⟨i9, hi9', hz9, hi9, _⟩ := info_parts info9
  have HIN := Lib.hid hi'
  have HI9 := Lib.hid hi9'
  clear IH hi' hi9'
  rcases hsh with rfl | ⟨A, cap, hcap, hby, rfl, h7⟩
  · go_enter Try.func53, Try.ntmps53
    go_wp2_with fail
    go_loopw [2] (fun i wr => i = .int .i64 0 ∧ Spo lo hi w wr) (fun i _ => 0)
    case atStart => exact ⟨rfl, Spo.refl _ _ _⟩
    case round =>
      obtain ⟨rfl, hs⟩ := hrel
      go_wp2_with fail
      go_end0
      exact ⟨rfl, hs⟩
  have H7 := Lib.hid h7
  have hll : l.length ≤ 140737488351232 := by omega
  clear h7
  go_enter Try.func53, Try.ntmps53
  go_wp2_with fail
  go_loopw [2] (fun i wr => ∃ j : Nat, j ≤ l.length ∧ i = .int .i64 j ∧ Spo lo hi w wr) (fun i _ => l.length - (intOf i).toNat)
  case atStart => exact ⟨0, by omega, rfl, Spo.refl _ _ _⟩
  case round =>
    obtain ⟨j, hj, rfl, hs⟩ := hrel
    have HS := Lib.hid hs
    clear hs
    by_cases hlt : j < l.length
    rotate_left
    · obtain rfl : j = l.length := by omega
      go_wp2_with fail
      go_end0
      exact ⟨rfl, HS.out⟩
    obtain ⟨b, o, hlo, hhb, hA, T, cs, hB, hE⟩ := H7.out (by rintro rfl; simp at hlt)
    subst hA
    have hDn : DnP l[j] := HI.out _ (List.getElem_mem hlt)
    have hEj := hE.at j hlt
    obtain ⟨x, hxe⟩ : ∃ x, x = l[j] := ⟨_, rfl⟩
    rw [← hxe] at hDn hEj
    obtain ⟨op, nm, sec, ab, wh, xa, xb, xt, xe, xc, xw⟩ := x
    have HEL : Hid (∀ wr, Spo lo hi w wr → ∃ (cs' : Array Value) (u : Nat → Value), BlkN wr b T cs' ∧ (∀ k, k < 17 → cs'[o + j * 17 + k]? = some (u k)) ∧ (∀ k, k < 17 → slK k = false → NoSl (u k)) ∧ ShE wr lo hi xa (u 8) ∧ ShE wr lo hi xb (u 12) ∧
        ShL wr lo hi xt (u 13) ∧ ShL wr lo hi xe (u 14) ∧ ShL wr lo hi xc (u 15) ∧ ShR wr lo hi 16 xw (fun cs o => ShW xw cs o) (u 16)) := Lib.hid fun wr hs => by
      obtain ⟨cs', h1, h2⟩ := hs.cells b T cs hlo hhb hB
      have h3 := ShS.keep hs _ cs cs' (o + j * 17) hEj h2
      unfold ShS at h3
      obtain ⟨u, h4⟩ := h3
      exact ⟨cs', u, h1, h4⟩
    obtain ⟨it, ie, ic⟩ := hDn
    have HT := Lib.hid it
    have HE' := Lib.hid ie
    have HC := Lib.hid ic
    clear hE hEj hB cs hxe it ie ic H7
    obtain ⟨cs, u, hB, hu, _, _, _, ht, _⟩ := HEL.out wr HS.out
    have g13 : wr.cell? ⟨b, o + j * 17 + 13, Option.none⟩ = some (u 13) := by rw [hB.cell_eq]; exact hu 13 (by decide)
    have HCT : Hid (Calls Try.prog 53 #[u 13] wr fun e w' => e = .returned (.tuple #[]) ∧ Spo lo hi wr w') := Lib.hid (HT.out lo hi wr (u 13) (Nat.le_trans hhi HS.out.size) ht)
    clear hB hu ht HT
    go_upto_region 4 with (go_at_call 53; refine HCT.out.mono ?_; rintro e w1 ⟨rfl, hs1⟩)
    have HS1 := Lib.hid (HS.out.trans hs1)
    clear hs1 g13 HCT
    obtain ⟨cs, u, hB, hu, _, _, _, _, ht, _⟩ := HEL.out w1 HS1.out
    have g14 : w1.cell? ⟨b, o + j * 17 + 14, Option.none⟩ = some (u 14) := by rw [hB.cell_eq]; exact hu 14 (by decide)
    have HCT : Hid (Calls Try.prog 53 #[u 14] w1 fun e w' => e = .returned (.tuple #[]) ∧ Spo lo hi w1 w') := Lib.hid (HE'.out lo hi w1 (u 14) (Nat.le_trans hhi HS1.out.size) ht)
    clear hB hu ht HE'
    go_upto_region 5 with (go_at_call 53; refine HCT.out.mono ?_; rintro e w2 ⟨rfl, hs2⟩)
    have HS2 := Lib.hid (HS1.out.trans hs2)
    clear hs2 g14 HCT
    obtain ⟨cs, u, hB, hu, _, _, _, _, _, ht, _⟩ := HEL.out w2 HS2.out
    have g15 : w2.cell? ⟨b, o + j * 17 + 15, Option.none⟩ = some (u 15) := by rw [hB.cell_eq]; exact hu 15 (by decide)
    have HCT : Hid (Calls Try.prog 53 #[u 15] w2 fun e w' => e = .returned (.tuple #[]) ∧ Spo lo hi w2 w') := Lib.hid (HC.out lo hi w2 (u 15) (Nat.le_trans hhi HS2.out.size) ht)
    clear hB hu ht HC
    go_upto_region 6 with (go_at_call 53; refine HCT.out.mono ?_; rintro e w3 ⟨rfl, hs3⟩)
    have HS3 := Lib.hid (HS2.out.trans hs3)
    clear hs3 g15 HCT
    go_wp2_with fail
    obtain ⟨wo, rfl⟩ : ∃ wo : World, wo = wr := ⟨_, rfl⟩
    go_loopw [3] (fun i wr => ∃ k : Nat, k ≤ xw.length ∧ i = .int .i64 k ∧ Spo lo hi w wr) (fun i _ => xw.length - (intOf i).toNat)
    case atStart => exact ⟨0, by omega, rfl, HS3.out⟩
    case round =>
      obtain ⟨k, hk, rfl, hsk⟩ := hrel
      have HSK := Lib.hid hsk
      clear hsk
      obtain ⟨cs, u, hB, hu, _, hea, _, _, _, _, hw⟩ := HEL.out wr HSK.out
      have g16 : wr.cell? ⟨b, o + j * 17 + 16, Option.none⟩ = some (u 16) := by rw [hB.cell_eq]; exact hu 16 (by decide)
      by_cases hgo : ∃ Aw capw, u 16 = .slice Aw xw.length capw ∧ k < xw.length
      · obtain ⟨Aw, capw, hu16, hkl⟩ := hgo
        rcases hw with h0 | ⟨A', cap', hcw, hbw, hv, hne⟩
        · rw [h0] at hu16
          simp only [Value.slice.injEq] at hu16
          omega
        rw [hv] at hu16
        simp only [Value.slice.injEq, true_and] at hu16
        obtain ⟨rfl, rfl⟩ := hu16
        obtain ⟨bw, ow, h1, h2, rfl, Tw, cw, hBw, hW⟩ := hne (by rintro rfl; simp at hkl)
        rw [hv] at g16
        obtain ⟨u0, hu0, hn0⟩ := hW k hkl
        have hsz : ow + k + 1 ≤ cw.size := by have := (Array.getElem?_eq_some_iff.1 hu0).1; omega
        have HBW := Lib.hid hBw
        have hbwl := hBw.lt
        have hwl : xw.length ≤ 140737488351232 := by omega
        have HU0 := Lib.hid hu0
        have HN0 := Lib.hid hn0
        clear hB hu hea hW hne hBw hu0 hn0 hv
        go_wp2_with (refine wpList_store_part rfl 9 (.tmp 44) (.const (.string ⟨#[115, 112, 111, 105, 108, 116]⟩)) rfl i9 HI9.out bw (ow + k) (.string ⟨#[115, 112, 111, 105, 108, 116]⟩) [.string ⟨#[115, 112, 111, 105, 108, 116]⟩] rfl rfl rfl Tw cw (cw.toList.take (ow + k) ++ ([.string ⟨#[115, 112, 111, 105, 108, 116]⟩] : List Value) ++ cw.toList.drop (ow + k + 1)).toArray HBW.out (by rw [hi9]; rfl) hsz (by intro u hu; simp only [List.mem_cons, List.not_mem_nil, or_false] at hu; rcases hu with rfl; rfl) rfl ?_; intro w4 hB4 hbut)
        have hs4 : Spo lo hi wr w4 := by
          refine Spo.store HBW.out hB4 hbut h1 h2 hsz rfl fun q v hq => ?_
          have hq0 : q = 0 := by have := (List.getElem?_eq_some_iff.1 hq).1; simp at this; omega
          subst hq0
          simp at hq
          subst hq
          exact ⟨u0, HU0.out, VR.no HN0.out trivial⟩
        have HS4 := Lib.hid (HSK.out.trans hs4)
        clear hs4 hbut hB4
        go_wp2_with fail
        go_roundw
        case rel => exact ⟨k + 1, by omega, by go_num, HS4.out⟩
        case measure => simp [intOf]; omega
      · have hu16 : ∃ A' n' cap', u 16 = .slice A' n' cap' ∧ n' ≤ k := by
          rcases hw with h0 | ⟨A', cap', hcw, hbw, hv, hne⟩
          · exact ⟨_, _, _, h0, by omega⟩
          · refine ⟨_, _, _, hv, ?_⟩
            by_cases hkl : k < xw.length
            · exact absurd ⟨A', cap', hv, hkl⟩ hgo
            · omega
        obtain ⟨A', n', cap', hu16, hnk⟩ := hu16
        rw [hu16] at g16
        have g5 : wr.cell? ⟨b, o + j * 17 + 5, Option.none⟩ = some (u 5) := by rw [hB.cell_eq]; exact hu 5 (by decide)
        have g6 : wr.cell? ⟨b, o + j * 17 + 5 + 1, Option.none⟩ = some (u 6) := by rw [hB.cell_eq]; exact hu 6 (by decide)
        have g7 : wr.cell? ⟨b, o + j * 17 + 5 + 2, Option.none⟩ = some (u 7) := by rw [hB.cell_eq]; exact hu 7 (by decide)
        have g8 : wr.cell? ⟨b, o + j * 17 + 5 + 3, Option.none⟩ = some (u 8) := by rw [hB.cell_eq]; exact hu 8 (by decide)
        have HCA : Hid (Calls Try.prog 94 #[.agg #[u 5, u 6, u 7, u 8]] wr fun e w' => e = .returned (.tuple #[]) ∧ Spo lo hi wr w') := Lib.hid (spoilExpr94_any xa lo hi wr (u 5) (u 6) (u 7) (u 8) (Nat.le_trans hhi HSK.out.size) hea)
        clear hB hu hea hw hgo
        go_upto_region 11 with (go_at_call 94; refine HCA.out.mono ?_; rintro e w5 ⟨rfl, hs5⟩)
        have HS5 := Lib.hid (HSK.out.trans hs5)
        clear hs5 g5 g6 g7 g8 g16 HCA
        obtain ⟨cs5, u5, hB, hu, _, _, heb, _⟩ := HEL.out w5 HS5.out
        have g9 : w5.cell? ⟨b, o + j * 17 + 9, Option.none⟩ = some (u5 9) := by rw [hB.cell_eq]; exact hu 9 (by decide)
        have g10 : w5.cell? ⟨b, o + j * 17 + 9 + 1, Option.none⟩ = some (u5 10) := by rw [hB.cell_eq]; exact hu 10 (by decide)
        have g11 : w5.cell? ⟨b, o + j * 17 + 9 + 2, Option.none⟩ = some (u5 11) := by rw [hB.cell_eq]; exact hu 11 (by decide)
        have g12 : w5.cell? ⟨b, o + j * 17 + 9 + 3, Option.none⟩ = some (u5 12) := by rw [hB.cell_eq]; exact hu 12 (by decide)
        have HCB : Hid (Calls Try.prog 94 #[.agg #[u5 9, u5 10, u5 11, u5 12]] w5 fun e w' => e = .returned (.tuple #[]) ∧ Spo lo hi w5 w') := Lib.hid (spoilExpr94_any xb lo hi w5 (u5 9) (u5 10) (u5 11) (u5 12) (Nat.le_trans hhi HS5.out.size) heb)
        clear hB hu heb
        go_upto_region 12 with (go_at_call 94; refine HCB.out.mono ?_; rintro e w6 ⟨rfl, hs6⟩)
        have HS6 := Lib.hid (HS5.out.trans hs6)
        clear hs6 g9 g10 g11 g12 HCB
        obtain ⟨cs6, u6, hB, hu, hno, hea, heb, ht, he, hc, hw⟩ := HEL.out w6 HS6.out
        have HBB := Lib.hid hB
        have hbl6 := hB.lt
        have hsz : o + j * 17 + 17 ≤ cs6.size := by have := (Array.getElem?_eq_some_iff.1 (hu 16 (by decide))).1; omega
        have HV : Hid (∀ (q : Nat) (v : Value), svN.arr.toList[q]? = some v → ∃ v0, cs6[o + j * 17 + q]? = some v0 ∧ VR v0 v) := Lib.hid fun q v hq => by
          have hq17 : q < 17 := by have := (List.getElem?_eq_some_iff.1 hq).1; simpa [SV.size] using this
          refine ⟨u6 q, hu q hq17, ?_⟩
          have hcs : q = 0 ∨ q = 1 ∨ q = 2 ∨ q = 3 ∨ q = 4 ∨ q = 5 ∨ q = 6 ∨ q = 7 ∨ q = 8 ∨ q = 9 ∨ q = 10 ∨ q = 11 ∨ q = 12 ∨ q = 13 ∨ q = 14 ∨ q = 15 ∨ q = 16 := by omega
          rcases hcs with rfl | rfl | rfl | rfl | rfl | rfl | rfl | rfl | rfl | rfl | rfl | rfl | rfl | rfl | rfl | rfl | rfl
          · cases hq; exact VR.no (hno 0 (by decide) rfl) trivial
          · cases hq; exact VR.no (hno 1 (by decide) rfl) trivial
          · cases hq; exact VR.no (hno 2 (by decide) rfl) trivial
          · cases hq; exact VR.no (hno 3 (by decide) rfl) trivial
          · cases hq; exact VR.no (hno 4 (by decide) rfl) trivial
          · cases hq; exact VR.no (hno 5 (by decide) rfl) trivial
          · cases hq; exact VR.no (hno 6 (by decide) rfl) trivial
          · cases hq; exact VR.no (hno 7 (by decide) rfl) trivial
          · cases hq; exact shE_vr hea
          · cases hq; exact VR.no (hno 9 (by decide) rfl) trivial
          · cases hq; exact VR.no (hno 10 (by decide) rfl) trivial
          · cases hq; exact VR.no (hno 11 (by decide) rfl) trivial
          · cases hq; exact shE_vr heb
          · cases hq; exact ht.vr
          · cases hq; exact he.vr
          · cases hq; exact hc.vr
          · cases hq; exact hw.vr
        clear hB hu hno hea heb ht he hc hw
        go_wp2_with (refine wpList_store_part rfl 58 (.tmp 60) (.tmp 59) rfl i0 HIN.out b (o + j * 17) (.agg svN.arr) svN.arr.toList rfl rfl rfl T cs6 (cs6.toList.take (o + j * 17) ++ svN.arr.toList ++ cs6.toList.drop (o + j * 17 + svN.arr.toList.length)).toArray HBB.out (by rw [hz1]; rfl) hsz (SV.one _) rfl ?_; intro w7 hB7 hbut)
        have hs7 : Spo lo hi w6 w7 := Spo.store HBB.out hB7 hbut hlo hhb hsz rfl HV.out
        have HS7 := Lib.hid (HS6.out.trans hs7)
        clear hs7 hbut hB7
        go_wp2_with fail
        go_roundw
        case rel => exact ⟨j + 1, by omega, by go_num, HS7.out⟩
        case measure => simp [intOf]; omega
theorem spoil53_any : ∀ l : List St, SpoilC l := by
  have h : ∀ x : St, DnP x := fun x => by
    induction x using St.ind with
    | h op nm sec ab wh a b t e c ws IHt IHe IHc => exact ⟨spoil53_step _ fun x hx => IHt x hx, spoil53_step _ fun x hx => IHe x hx, spoil53_step _ fun x hx => IHc x hx⟩
  exact fun l => spoil53_step l fun x _ => h x
end Go.Proofs.Ytnknefdpglnbnaa
