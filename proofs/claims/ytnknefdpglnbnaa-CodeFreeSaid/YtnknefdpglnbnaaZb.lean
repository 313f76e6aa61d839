/- Statements as trees: what it is for a struct to read as one; what 'may' says of one. -/
import Derived.Test.YtnknefdpglnbnaaY
namespace Go.Proofs.Ytnknefdpglnbnaa
open Go.RowKit

/-- A slice of n elements whose cells, at one of the places R, are so. -/
def LR {α : Type} (R : Nat → Nat → Prop) (sz : Nat) (A : Option Addr) (len cap : Nat) (l : List α) (p : Nat → Nat → Prop) : Prop :=
  len = l.length ∧ l.length ≤ cap ∧ l.length * sz ≤ 140737488351232 ∧ (l ≠ [] → ∃ b o, R b o ∧ A = some ⟨b, o, Option.none⟩ ∧ p b o)
mutual
def IsStR (w : World) (R : Nat → Nat → Prop) : SV → St → Prop
  | s, .mk op nm sec ab wh a b t e c ws =>
    (s.op = op ∧ s.nm = nm ∧ s.sec = sec ∧ s.ab = ab ∧ s.wh = wh) ∧ (0 ≤ op ∧ op < 256 ∧ 0 ≤ ab ∧ ab < 256 ∧ 0 ≤ wh ∧ wh < 256 ∧ nm.size ≤ 140737488351232 ∧ sec.size ≤ 140737488351232) ∧ IsExR w R s.a a ∧ IsExR w R s.b b ∧
    LR R 256 s.tA s.tl s.tc t (fun b o => IsStsR w R b o t) ∧ LR R 256 s.eA s.el s.ec e (fun b o => IsStsR w R b o e) ∧ LR R 256 s.cA s.cl s.cc c (fun b o => IsStsR w R b o c) ∧ IsSsR w R (.slice s.wA s.wl s.wc) ws
def IsStsR (w : World) (R : Nat → Nat → Prop) (b o : Nat) : List St → Prop
  | [] => True
  | x :: l => (∃ s : SV, At w b o s.arr.toList ∧ IsStR w R s x) ∧ IsStsR w R b (o + 17) l
end
abbrev IsSt (w : World) (B : Nat) : SV → St → Prop := IsStR w (fun b _ => b < B)
abbrev IsSts (w : World) (B : Nat) : Nat → Nat → List St → Prop := IsStsR w (fun b _ => b < B)
theorem LR.imp {α : Type} {R R' : Nat → Nat → Prop} {sz : Nat} {A : Option Addr} {len cap : Nat} {l : List α} {p q : Nat → Nat → Prop} (h : LR R sz A len cap l p) (k : ∀ b o, R b o → p b o → R' b o ∧ q b o) : LR R' sz A len cap l q :=
  ⟨h.1, h.2.1, h.2.2.1, fun hl => by obtain ⟨b, o, h1, h2, h3⟩ := h.2.2.2 hl; exact ⟨b, o, (k b o h1 h3).1, h2, (k b o h1 h3).2⟩⟩
theorem IsSsR.mono {w : World} {R R' : Nat → Nat → Prop} (hk : ∀ b o, R b o → R' b o) {v : Value} {l : List ByteArray} (h : IsSsR w R v l) : IsSsR w R' v l := by
  obtain ⟨h1, h2, A, cap, h3, h4, h5⟩ := h
  exact ⟨h1, h2, A, cap, h3, h4, fun hl => by obtain ⟨b, o, hb, hr⟩ := h5 hl; exact ⟨b, o, hk b o hb, hr⟩⟩
mutual
theorem IsStR.keep {w w' : World} {R : Nat → Nat → Prop} (hk : ∀ b o, R b o → w'.heap[b]? = w.heap[b]?) : ∀ {s : SV} {x : St}, IsStR w R s x → IsStR w' R s x
  | s, .mk op nm sec ab wh a b t e c ws, h => by
    unfold IsStR at h ⊢
    obtain ⟨h1, h2, h3, h4, h5, h6, h7, h8⟩ := h
    exact ⟨h1, h2, h3.keep hk, h4.keep hk, h5.imp fun b o hr hp => ⟨hr, IsStsR.keep hk (hk b o hr) hp⟩, h6.imp fun b o hr hp => ⟨hr, IsStsR.keep hk (hk b o hr) hp⟩, h7.imp fun b o hr hp => ⟨hr, IsStsR.keep hk (hk b o hr) hp⟩, h8.keep hk⟩
theorem IsStsR.keep {w w' : World} {R : Nat → Nat → Prop} (hk : ∀ b o, R b o → w'.heap[b]? = w.heap[b]?) {b : Nat} (hb : w'.heap[b]? = w.heap[b]?) : ∀ {o : Nat} {l : List St}, IsStsR w R b o l → IsStsR w' R b o l
  | _, [], _ => by unfold IsStsR; trivial
  | _, x :: l, h => by
    unfold IsStsR at h ⊢
    obtain ⟨⟨s, h1, h2⟩, h3⟩ := h
    exact ⟨⟨s, fun j v hv => (World.cell?_of_block (w := w) hb).trans (h1 j v hv), IsStR.keep hk h2⟩, IsStsR.keep hk hb h3⟩
end
mutual
theorem IsStR.mono {w : World} {R R' : Nat → Nat → Prop} (hk : ∀ b o, R b o → R' b o) : ∀ {s : SV} {x : St}, IsStR w R s x → IsStR w R' s x
  | s, .mk op nm sec ab wh a b t e c ws, h => by
    unfold IsStR at h ⊢
    obtain ⟨h1, h2, h3, h4, h5, h6, h7, h8⟩ := h
    exact ⟨h1, h2, h3.mono hk, h4.mono hk, h5.imp fun b o hr hp => ⟨hk b o hr, IsStsR.mono hk hp⟩, h6.imp fun b o hr hp => ⟨hk b o hr, IsStsR.mono hk hp⟩, h7.imp fun b o hr hp => ⟨hk b o hr, IsStsR.mono hk hp⟩, h8.mono hk⟩
theorem IsStsR.mono {w : World} {R R' : Nat → Nat → Prop} (hk : ∀ b o, R b o → R' b o) {b : Nat} : ∀ {o : Nat} {l : List St}, IsStsR w R b o l → IsStsR w R' b o l
  | _, [], _ => by unfold IsStsR; trivial
  | _, x :: l, h => by
    unfold IsStsR at h ⊢
    obtain ⟨⟨s, h1, h2⟩, h3⟩ := h
    exact ⟨⟨s, h1, IsStR.mono hk h2⟩, IsStsR.mono hk h3⟩
end
theorem IsStR.form {w : World} {R : Nat → Nat → Prop} {s : SV} {op : Int} {nm sec : ByteArray} {ab wh : Int} {a b : Ex} {t e c : List St} {ws : List ByteArray} (h : IsStR w R s (.mk op nm sec ab wh a b t e c ws)) :
    (s.op = op ∧ s.nm = nm ∧ s.sec = sec ∧ s.ab = ab ∧ s.wh = wh) ∧ (0 ≤ op ∧ op < 256 ∧ 0 ≤ ab ∧ ab < 256 ∧ 0 ≤ wh ∧ wh < 256 ∧ nm.size ≤ 140737488351232 ∧ sec.size ≤ 140737488351232) ∧ IsExR w R s.a a ∧ IsExR w R s.b b ∧
    LR R 256 s.tA s.tl s.tc t (fun b o => IsStsR w R b o t) ∧ LR R 256 s.eA s.el s.ec e (fun b o => IsStsR w R b o e) ∧ LR R 256 s.cA s.cl s.cc c (fun b o => IsStsR w R b o c) ∧ IsSsR w R (.slice s.wA s.wl s.wc) ws := by
  unfold IsStR at h; exact h
theorem IsStsR.at {w : World} {R : Nat → Nat → Prop} {b : Nat} : ∀ {o : Nat} {l : List St}, IsStsR w R b o l → ∀ (i : Nat) (hi : i < l.length), ∃ s : SV, At w b (o + i * 17) s.arr.toList ∧ IsStR w R s l[i]
  | o, x :: l, h, i, hi => by
    unfold IsStsR at h
    cases i with
    | zero => simpa using h.1
    | succ i =>
      obtain ⟨s, h1, h2⟩ := IsStsR.at h.2 i (by simpa using hi)
      exact ⟨s, by rw [show o + (i + 1) * 17 = o + 17 + i * 17 by omega]; exact h1, h2⟩
theorem IsSt.keep {w w' : World} {B : Nat} (hk : ∀ b, b < B → w'.heap[b]? = w.heap[b]?) {s : SV} {x : St} (h : IsSt w B s x) : IsSt w' B s x := IsStR.keep (fun b _ hb => hk b hb) h
theorem IsSts.keep {w w' : World} {B : Nat} (hk : ∀ b, b < B → w'.heap[b]? = w.heap[b]?) {b : Nat} (hb : b < B) {o : Nat} {l : List St} (h : IsSts w B b o l) : IsSts w' B b o l := IsStsR.keep (fun b _ hb => hk b hb) (hk b hb) h
def zE : Ex := .mk 0 0 ⟨#[]⟩ []
theorem zE_is (w : World) (R : Nat → Nat → Prop) : IsExR w R SV.zero.a zE := by
  unfold zE IsExR
  exact ⟨by decide, by decide, by decide, by decide, Option.none, 0, Nat.le_refl _, rfl, fun h => absurd rfl h⟩
/-- All fields but those of k are as of the zero statement. -/
def zS (k : Nat → Bool) : St → Bool
  | .mk _ nm sec ab wh a b t e c ws => (k 0 || nm.toList == []) && ((k 1 || sec.toList == []) && ((k 2 || ab == 0) && ((k 3 || wh == 0) && ((k 4 || noneX a) && ((k 5 || noneX b) && ((k 6 || t.length == 0) && ((k 6 || e.length == 0) && ((k 7 || c.length == 0) && (k 8 || ws.length == 0)))))))))
def mayS : St → Bool
  | .mk op nm sec ab wh a b t e c ws =>
    let z := fun l : List Nat => zS (fun i => l.contains i) (.mk op nm sec ab wh a b t e c ws)
    if op = 1 then (mayN nm && orNoneE a) && z [0, 4]
    else if op = 2 then (mayN nm && oneI ab && mayE a && orNoneE b && (noneX b || (ab != 1 && ab != 32))) && z [0, 2, 4, 5]
    else if op = 3 then
      (if wh = 1 then (mayN nm && orNoneE a) && z [0, 3, 4]
       else if wh = 2 ∨ wh = 3 ∨ wh = 4 ∨ wh = 8 then mayN nm && z [0, 3]
       else if wh = 14 then (mayN nm && mayE a && mayI ab) && z [0, 2, 3, 4]
       else if wh = 15 ∨ wh = 16 then (mayN nm && mayE a && mayN sec && !(sec.toList == nm.toList)) && z [0, 1, 3, 4]
       else if wh = 5 ∨ wh = 10 then (mayN nm && mayN sec && !(sec.toList == nm.toList)) && z [0, 1, 3]
       else if wh = 12 then (mayN nm && decide (ws.length ≤ 64) && ws.all mayN && !twB ws) && z [0, 3, 7, 8]
       else false)
    else if op = 4 then (mayN nm && mayE a && mayE b) && z [0, 4, 5]
    else if op = 5 then (orNoneE a && orNoneE b) && z [4, 5, 6]
    else if op = 6 then (mayE a && mayI ab) && z [2, 4, 6]
    else if op = 7 then orNoneE a && z [4]
    else if op = 8 then z []
    else if op = 9 then (mayN nm && mayE a) && z [0, 4]
    else false
end Go.Proofs.Ytnknefdpglnbnaa
