/- Plain data of code: expressions, statements; what it is for a Go value to read as one in a world (carried over). -/
import Derived.Test.YthafojadcodkoaaA
namespace Go.Proofs.Ythafojadcodkoaa
open Go.RowKit


inductive Ex where
  | mk (k n : Int) (s : ByteArray) (l : List Ex)
inductive St where
  | mk (op : Int) (nm sec : ByteArray) (ab wh : Int) (a b : Ex) (t e c : List St) (ws : List ByteArray)

theorem Ex.ind {P : Ex → Prop} (h : ∀ k n s l, (∀ x ∈ l, P x) → P (.mk k n s l)) : ∀ x, P x
  | .mk k n s l => h k n s l (fun x _ => Ex.ind h x)
theorem St.ind {P : St → Prop} (h : ∀ op nm sec ab wh a b t e c ws, (∀ x ∈ t, P x) → (∀ x ∈ e, P x) → (∀ x ∈ c, P x) → P (.mk op nm sec ab wh a b t e c ws)) : ∀ x, P x
  | .mk op nm sec ab wh a b t e c ws => h op nm sec ab wh a b t e c ws (fun x _ => St.ind h x) (fun x _ => St.ind h x) (fun x _ => St.ind h x)

mutual
/-- v reads as the expression; the lists lie at places of R. -/
def IsExR (w : World) (R : Nat → Nat → Prop) : Value → Ex → Prop
  | v, .mk k n s l => 0 ≤ k ∧ k < 256 ∧ s.size ≤ 140737488351232 ∧ l.length * 56 ≤ 140737488351232 ∧ ∃ A cap, l.length ≤ cap ∧ v = .agg #[.int .u8 k, .int .i64 n, .string s, .slice A l.length cap] ∧
      (l ≠ [] → ∃ b o, R b o ∧ A = some ⟨b, o, Option.none⟩ ∧ IsExsR w R b o l)
def IsExsR (w : World) (R : Nat → Nat → Prop) (b o : Nat) : List Ex → Prop
  | [] => True
  | x :: l => (∃ c0 c1 c2 c3, At w b o [c0, c1, c2, c3] ∧ IsExR w R (.agg #[c0, c1, c2, c3]) x) ∧ IsExsR w R b (o + 4) l
end
/-- .. all lists in blocks below B. -/
abbrev IsEx (w : World) (B : Nat) : Value → Ex → Prop := IsExR w (fun b _ => b < B)
abbrev IsExs (w : World) (B : Nat) : Nat → Nat → List Ex → Prop := IsExsR w (fun b _ => b < B)
mutual
theorem IsExR.keep {w w' : World} {R : Nat → Nat → Prop} (hk : ∀ b o, R b o → w'.heap[b]? = w.heap[b]?) : ∀ {v : Value} {x : Ex}, IsExR w R v x → IsExR w' R v x
  | v, .mk k n s l, h => by
    unfold IsExR at h ⊢
    obtain ⟨h1, h2, h3, h4, A, cap, h5, h6, h7⟩ := h
    refine ⟨h1, h2, h3, h4, A, cap, h5, h6, fun hl => ?_⟩
    obtain ⟨b, o, hb, hA, hx⟩ := h7 hl
    exact ⟨b, o, hb, hA, IsExsR.keep hk (hk b o hb) hx⟩
theorem IsExsR.keep {w w' : World} {R : Nat → Nat → Prop} (hk : ∀ b o, R b o → w'.heap[b]? = w.heap[b]?) {b : Nat} (hb : w'.heap[b]? = w.heap[b]?) : ∀ {o : Nat} {l : List Ex}, IsExsR w R b o l → IsExsR w' R b o l
  | _, [], _ => by unfold IsExsR; trivial
  | _, x :: l, h => by
    unfold IsExsR at h ⊢
    obtain ⟨⟨c0, c1, c2, c3, h1, h2⟩, h3⟩ := h
    exact ⟨⟨c0, c1, c2, c3, fun j v hv => (World.cell?_of_block (w := w) hb).trans (h1 j v hv), IsExR.keep hk h2⟩, IsExsR.keep hk hb h3⟩
end
theorem IsEx.keep {w w' : World} {B : Nat} (hk : ∀ b, b < B → w'.heap[b]? = w.heap[b]?) {v : Value} {x : Ex} (h : IsEx w B v x) : IsEx w' B v x := IsExR.keep (fun b _ hb => hk b hb) h
theorem IsExs.keep {w w' : World} {B : Nat} (hk : ∀ b, b < B → w'.heap[b]? = w.heap[b]?) {b : Nat} (hb : b < B) {o : Nat} {l : List Ex} (h : IsExs w B b o l) : IsExs w' B b o l := IsExsR.keep (fun b _ hb => hk b hb) (hk b hb) h
mutual
theorem IsExR.mono {w : World} {R R' : Nat → Nat → Prop} (hk : ∀ b o, R b o → R' b o) : ∀ {v : Value} {x : Ex}, IsExR w R v x → IsExR w R' v x
  | v, .mk k n s l, h => by
    unfold IsExR at h ⊢
    obtain ⟨h1, h2, h3, h4, A, cap, h5, h6, h7⟩ := h
    refine ⟨h1, h2, h3, h4, A, cap, h5, h6, fun hl => ?_⟩
    obtain ⟨b, o, hb, hA, hx⟩ := h7 hl
    exact ⟨b, o, hk b o hb, hA, IsExsR.mono hk hx⟩
theorem IsExsR.mono {w : World} {R R' : Nat → Nat → Prop} (hk : ∀ b o, R b o → R' b o) {b : Nat} : ∀ {o : Nat} {l : List Ex}, IsExsR w R b o l → IsExsR w R' b o l
  | _, [], _ => by unfold IsExsR; trivial
  | _, x :: l, h => by
    unfold IsExsR at h ⊢
    obtain ⟨⟨c0, c1, c2, c3, h1, h2⟩, h3⟩ := h
    exact ⟨⟨c0, c1, c2, c3, h1, IsExR.mono hk h2⟩, IsExsR.mono hk h3⟩
end
theorem IsExR.form {w : World} {R : Nat → Nat → Prop} {v : Value} {k n : Int} {s : ByteArray} {l : List Ex} (h : IsExR w R v (.mk k n s l)) :
    0 ≤ k ∧ k < 256 ∧ s.size ≤ 140737488351232 ∧ l.length ≤ 140737488351232 ∧ ∃ A cap, l.length ≤ cap ∧ v = .agg #[.int .u8 k, .int .i64 n, .string s, .slice A l.length cap] ∧
      (l ≠ [] → ∃ b o, R b o ∧ A = some ⟨b, o, Option.none⟩ ∧ IsExsR w R b o l) := by
  unfold IsExR at h
  obtain ⟨h1, h2, h3, h4, h5⟩ := h
  exact ⟨h1, h2, h3, by omega, h5⟩
theorem IsExR.len {w : World} {R : Nat → Nat → Prop} {v : Value} {k n : Int} {s : ByteArray} {l : List Ex} (h : IsExR w R v (.mk k n s l)) : l.length * 56 ≤ 140737488351232 := by unfold IsExR at h; exact h.2.2.2.1
theorem IsExsR.at {w : World} {R : Nat → Nat → Prop} {b : Nat} : ∀ {o : Nat} {l : List Ex}, IsExsR w R b o l → ∀ (i : Nat) (hi : i < l.length), ∃ c0 c1 c2 c3, At w b (o + i * 4) [c0, c1, c2, c3] ∧ IsExR w R (.agg #[c0, c1, c2, c3]) l[i]
  | o, x :: l, h, i, hi => by
    unfold IsExsR at h
    cases i with
    | zero => obtain ⟨c0, c1, c2, c3, h1, h2⟩ := h.1; exact ⟨c0, c1, c2, c3, by simpa using h1, h2⟩
    | succ i =>
      obtain ⟨c0, c1, c2, c3, h1, h2⟩ := IsExsR.at h.2 i (by simpa using hi)
      exact ⟨c0, c1, c2, c3, by rw [show o + (i + 1) * 4 = o + 4 + i * 4 by omega]; exact h1, h2⟩
theorem IsExR.cells {w : World} {R : Nat → Nat → Prop} {c0 c1 c2 c3 : Value} {x : Ex} (h : IsExR w R (.agg #[c0, c1, c2, c3]) x) :
    ∃ k n s A len cap, c0 = .int .u8 k ∧ c1 = .int .i64 n ∧ c2 = .string s ∧ c3 = .slice A len cap := by
  obtain ⟨k, n, s, l⟩ := x
  obtain ⟨h1, h2, h3, h4, A, cap, h5, h6, h7⟩ := h.form
  simp only [Value.agg.injEq, Array.mk.injEq, List.cons.injEq, and_true] at h6
  exact ⟨k, n, s, A, _, cap, h6.1, h6.2.1, h6.2.2.1, h6.2.2.2⟩
theorem IsExsR.at2 {w : World} {R : Nat → Nat → Prop} {b o : Nat} {l : List Ex} (h : IsExsR w R b o l) (i : Nat) (hi : i < l.length) :
    ∃ k n s A len cap, At w b (o + i * 4) [.int .u8 k, .int .i64 n, .string s, .slice A len cap] ∧ IsExR w R (.agg #[.int .u8 k, .int .i64 n, .string s, .slice A len cap]) l[i] := by
  obtain ⟨c0, c1, c2, c3, h1, h2⟩ := h.at i hi
  obtain ⟨k, n, s, A, len, cap, rfl, rfl, rfl, rfl⟩ := h2.cells
  exact ⟨k, n, s, A, len, cap, h1, h2⟩

/-- A statement's value, cell by cell. -/
structure SV where
  (op ab wh : Int)
  (nm sec : ByteArray)
  (a0 a1 : Int) (a2 : ByteArray) (aA : Option Addr) (al ac : Nat)
  (b0 b1 : Int) (b2 : ByteArray) (bA : Option Addr) (bl bc : Nat)
  (tA : Option Addr) (tl tc : Nat)
  (eA : Option Addr) (el ec : Nat)
  (cA : Option Addr) (cl cc : Nat)
  (wA : Option Addr) (wl wc : Nat)
def SV.arr (s : SV) : Array Value := #[.int .u8 s.op, .string s.nm, .string s.sec, .int .u8 s.ab, .int .u8 s.wh, .int .u8 s.a0, .int .i64 s.a1, .string s.a2, .slice s.aA s.al s.ac, .int .u8 s.b0, .int .i64 s.b1, .string s.b2, .slice s.bA s.bl s.bc,
  .slice s.tA s.tl s.tc, .slice s.eA s.el s.ec, .slice s.cA s.cl s.cc, .slice s.wA s.wl s.wc]
def SV.a (s : SV) : Value := .agg #[.int .u8 s.a0, .int .i64 s.a1, .string s.a2, .slice s.aA s.al s.ac]
def SV.b (s : SV) : Value := .agg #[.int .u8 s.b0, .int .i64 s.b1, .string s.b2, .slice s.bA s.bl s.bc]
theorem SV.size (s : SV) : s.arr.size = 17 := rfl
def SV.zero : SV := ⟨0, 0, 0, ⟨#[]⟩, ⟨#[]⟩, 0, 0, ⟨#[]⟩, Option.none, 0, 0, 0, 0, ⟨#[]⟩, Option.none, 0, 0, Option.none, 0, 0, Option.none, 0, 0, Option.none, 0, 0, Option.none, 0, 0⟩
theorem SV.at0 (s : SV) : s.arr[0]? = some (.int .u8 s.op) := rfl
theorem SV.at1 (s : SV) : s.arr[1]? = some (.string s.nm) := rfl
theorem SV.at2 (s : SV) : s.arr[2]? = some (.string s.sec) := rfl
theorem SV.at3 (s : SV) : s.arr[3]? = some (.int .u8 s.ab) := rfl
theorem SV.at4 (s : SV) : s.arr[4]? = some (.int .u8 s.wh) := rfl
theorem SV.at5 (s : SV) : s.arr[5]? = some (.int .u8 s.a0) := rfl
theorem SV.at6 (s : SV) : s.arr[6]? = some (.int .i64 s.a1) := rfl
theorem SV.at7 (s : SV) : s.arr[7]? = some (.string s.a2) := rfl
theorem SV.at8 (s : SV) : s.arr[8]? = some (.slice s.aA s.al s.ac) := rfl
theorem SV.at9 (s : SV) : s.arr[9]? = some (.int .u8 s.b0) := rfl
theorem SV.at10 (s : SV) : s.arr[10]? = some (.int .i64 s.b1) := rfl
theorem SV.at11 (s : SV) : s.arr[11]? = some (.string s.b2) := rfl
theorem SV.at12 (s : SV) : s.arr[12]? = some (.slice s.bA s.bl s.bc) := rfl
theorem SV.at13 (s : SV) : s.arr[13]? = some (.slice s.tA s.tl s.tc) := rfl
theorem SV.at14 (s : SV) : s.arr[14]? = some (.slice s.eA s.el s.ec) := rfl
theorem SV.at15 (s : SV) : s.arr[15]? = some (.slice s.cA s.cl s.cc) := rfl
theorem SV.at16 (s : SV) : s.arr[16]? = some (.slice s.wA s.wl s.wc) := rfl
theorem info58 : (Try.prog.info? 112).map (fun i => (i.zero, i.size, i.bytes)) = some (some (.agg SV.zero.arr), 17, 256) := by kernel_rfl
theorem SV.one (s : SV) : ∀ u ∈ s.arr.toList, u.oneCell' = true := by
  intro u hu
  simp only [SV.arr, List.mem_cons, List.not_mem_nil, or_false] at hu
  rcases hu with rfl | rfl | rfl | rfl | rfl | rfl | rfl | rfl | rfl | rfl | rfl | rfl | rfl | rfl | rfl | rfl | rfl <;> rfl
theorem zeroS_eq : (#[.int .u8 0, .string ⟨#[]⟩, .string ⟨#[]⟩, .int .u8 0, .int .u8 0, .int .u8 0, .int .i64 0, .string ⟨#[]⟩, .slice Option.none 0 0, .int .u8 0, .int .i64 0, .string ⟨#[]⟩, .slice Option.none 0 0, .slice Option.none 0 0, .slice Option.none 0 0, .slice Option.none 0 0, .slice Option.none 0 0] : Array Value) = SV.zero.arr := rfl

def IsSsR (w : World) (R : Nat → Nat → Prop) (v : Value) (l : List ByteArray) : Prop :=
  l.length * 16 ≤ 140737488351232 ∧ (∀ s ∈ l, s.size ≤ 140737488351232) ∧ ∃ A cap, l.length ≤ cap ∧ v = .slice A l.length cap ∧ (l ≠ [] → ∃ b o, R b o ∧ A = some ⟨b, o, Option.none⟩ ∧ ∀ (i : Nat) (hi : i < l.length), w.cell? ⟨b, o + i, Option.none⟩ = some (.string l[i]))
abbrev IsSs (w : World) (B : Nat) : Value → List ByteArray → Prop := IsSsR w (fun b _ => b < B)
theorem IsSsR.keep {w w' : World} {R : Nat → Nat → Prop} (hk : ∀ b o, R b o → w'.heap[b]? = w.heap[b]?) {v : Value} {l : List ByteArray} (h : IsSsR w R v l) : IsSsR w' R v l := by
  obtain ⟨h1, h2, A, cap, h3, h4, h5⟩ := h
  refine ⟨h1, h2, A, cap, h3, h4, fun hl => ?_⟩
  obtain ⟨b, o, hb, hA, hx⟩ := h5 hl
  exact ⟨b, o, hb, hA, fun i hi => (World.cell?_of_block (w := w) (hk b o hb)).trans (hx i hi)⟩

/-- A slice of n elements whose cells, at one of the places R, are so. -/
def LR {α : Type} (R : Nat → Nat → Prop) (sz : Nat) (A : Option Addr) (len cap : Nat) (l : List α) (p : Nat → Nat → Prop) : Prop :=
  len = l.length ∧ l.length ≤ cap ∧ l.length * sz ≤ 140737488351232 ∧ (l ≠ [] → ∃ b o, R b o ∧ A = some ⟨b, o, Option.none⟩ ∧ p b o)
mutual
def IsStR (w : World) (R : Nat → Nat → Prop) : SV → St → Prop
  | s, .mk op nm sec ab wh a b t e c ws =>
    (s.op = op ∧ s.nm = nm ∧ s.sec = sec ∧ s.ab = ab ∧ s.wh = wh) ∧ (0 ≤ op ∧ op < 256 ∧ 0 ≤ ab ∧ ab < 256 ∧ 0 ≤ wh ∧ wh < 256 ∧ nm.size ≤ 140737488351232 ∧ sec.size ≤ 140737488351232) ∧ IsExR w R s.a a ∧ IsExR w R s.b b ∧
    LR R 256 s.tA s.tl s.tc t (fun b o => IsStsR w R b o t) ∧ LR R 256 s.eA s.el s.ec e (fun b o => IsStsR w R b o e) ∧ LR R 256 s.cA s.cl s.cc c (fun b o => IsStsR w R b o c) ∧ IsSsR w R (.slice s.wA s.wl s.wc) ws
def IsStsR (w : World) (R : Nat → Nat → Prop) (b o : Nat) : List St → Prop
  | [] => True
  | x :: l => (∃ s : SV, At w b o s.arr.toList ∧ IsStR w R s x) ∧ IsStsR w R b (o + 17) l
end
abbrev IsSt (w : World) (B : Nat) : SV → St → Prop := IsStR w (fun b _ => b < B)
abbrev IsSts (w : World) (B : Nat) : Nat → Nat → List St → Prop := IsStsR w (fun b _ => b < B)
theorem LR.imp {α : Type} {R R' : Nat → Nat → Prop} {sz : Nat} {A : Option Addr} {len cap : Nat} {l : List α} {p q : Nat → Nat → Prop} (h : LR R sz A len cap l p) (k : ∀ b o, R b o → p b o → R' b o ∧ q b o) : LR R' sz A len cap l q :=
  ⟨h.1, h.2.1, h.2.2.1, fun hl => by obtain ⟨b, o, h1, h2, h3⟩ := h.2.2.2 hl; exact ⟨b, o, (k b o h1 h3).1, h2, (k b o h1 h3).2⟩⟩
theorem IsSsR.mono {w : World} {R R' : Nat → Nat → Prop} (hk : ∀ b o, R b o → R' b o) {v : Value} {l : List ByteArray} (h : IsSsR w R v l) : IsSsR w R' v l := by
  obtain ⟨h1, h2, A, cap, h3, h4, h5⟩ := h
  exact ⟨h1, h2, A, cap, h3, h4, fun hl => by obtain ⟨b, o, hb, hr⟩ := h5 hl; exact ⟨b, o, hk b o hb, hr⟩⟩
mutual
theorem IsStR.keep {w w' : World} {R : Nat → Nat → Prop} (hk : ∀ b o, R b o → w'.heap[b]? = w.heap[b]?) : ∀ {s : SV} {x : St}, IsStR w R s x → IsStR w' R s x
  | s, .mk op nm sec ab wh a b t e c ws, h => by
    unfold IsStR at h ⊢
    obtain ⟨h1, h2, h3, h4, h5, h6, h7, h8⟩ := h
    exact ⟨h1, h2, h3.keep hk, h4.keep hk, h5.imp fun b o hr hp => ⟨hr, IsStsR.keep hk (hk b o hr) hp⟩, h6.imp fun b o hr hp => ⟨hr, IsStsR.keep hk (hk b o hr) hp⟩, h7.imp fun b o hr hp => ⟨hr, IsStsR.keep hk (hk b o hr) hp⟩, h8.keep hk⟩
theorem IsStsR.keep {w w' : World} {R : Nat → Nat → Prop} (hk : ∀ b o, R b o → w'.heap[b]? = w.heap[b]?) {b : Nat} (hb : w'.heap[b]? = w.heap[b]?) : ∀ {o : Nat} {l : List St}, IsStsR w R b o l → IsStsR w' R b o l
  | _, [], _ => by unfold IsStsR; trivial
  | _, x :: l, h => by
    unfold IsStsR at h ⊢
    obtain ⟨⟨s, h1, h2⟩, h3⟩ := h
    exact ⟨⟨s, fun j v hv => (World.cell?_of_block (w := w) hb).trans (h1 j v hv), IsStR.keep hk h2⟩, IsStsR.keep hk hb h3⟩
end
mutual
theorem IsStR.mono {w : World} {R R' : Nat → Nat → Prop} (hk : ∀ b o, R b o → R' b o) : ∀ {s : SV} {x : St}, IsStR w R s x → IsStR w R' s x
  | s, .mk op nm sec ab wh a b t e c ws, h => by
    unfold IsStR at h ⊢
    obtain ⟨h1, h2, h3, h4, h5, h6, h7, h8⟩ := h
    exact ⟨h1, h2, h3.mono hk, h4.mono hk, h5.imp fun b o hr hp => ⟨hk b o hr, IsStsR.mono hk hp⟩, h6.imp fun b o hr hp => ⟨hk b o hr, IsStsR.mono hk hp⟩, h7.imp fun b o hr hp => ⟨hk b o hr, IsStsR.mono hk hp⟩, h8.mono hk⟩
theorem IsStsR.mono {w : World} {R R' : Nat → Nat → Prop} (hk : ∀ b o, R b o → R' b o) {b : Nat} : ∀ {o : Nat} {l : List St}, IsStsR w R b o l → IsStsR w R' b o l
  | _, [], _ => by unfold IsStsR; trivial
  | _, x :: l, h => by
    unfold IsStsR at h ⊢
    obtain ⟨⟨s, h1, h2⟩, h3⟩ := h
    exact ⟨⟨s, h1, IsStR.mono hk h2⟩, IsStsR.mono hk h3⟩
end
theorem IsStR.form {w : World} {R : Nat → Nat → Prop} {s : SV} {op : Int} {nm sec : ByteArray} {ab wh : Int} {a b : Ex} {t e c : List St} {ws : List ByteArray} (h : IsStR w R s (.mk op nm sec ab wh a b t e c ws)) :
    (s.op = op ∧ s.nm = nm ∧ s.sec = sec ∧ s.ab = ab ∧ s.wh = wh) ∧ (0 ≤ op ∧ op < 256 ∧ 0 ≤ ab ∧ ab < 256 ∧ 0 ≤ wh ∧ wh < 256 ∧ nm.size ≤ 140737488351232 ∧ sec.size ≤ 140737488351232) ∧ IsExR w R s.a a ∧ IsExR w R s.b b ∧
    LR R 256 s.tA s.tl s.tc t (fun b o => IsStsR w R b o t) ∧ LR R 256 s.eA s.el s.ec e (fun b o => IsStsR w R b o e) ∧ LR R 256 s.cA s.cl s.cc c (fun b o => IsStsR w R b o c) ∧ IsSsR w R (.slice s.wA s.wl s.wc) ws := by
  unfold IsStR at h; exact h
theorem IsStsR.at {w : World} {R : Nat → Nat → Prop} {b : Nat} : ∀ {o : Nat} {l : List St}, IsStsR w R b o l → ∀ (i : Nat) (hi : i < l.length), ∃ s : SV, At w b (o + i * 17) s.arr.toList ∧ IsStR w R s l[i]
  | o, x :: l, h, i, hi => by
    unfold IsStsR at h
    cases i with
    | zero => simpa using h.1
    | succ i =>
      obtain ⟨s, h1, h2⟩ := IsStsR.at h.2 i (by simpa using hi)
      exact ⟨s, by rw [show o + (i + 1) * 17 = o + 17 + i * 17 by omega]; exact h1, h2⟩
theorem IsSt.keep {w w' : World} {B : Nat} (hk : ∀ b, b < B → w'.heap[b]? = w.heap[b]?) {s : SV} {x : St} (h : IsSt w B s x) : IsSt w' B s x := IsStR.keep (fun b _ hb => hk b hb) h
theorem IsSts.keep {w w' : World} {B : Nat} (hk : ∀ b, b < B → w'.heap[b]? = w.heap[b]?) {b : Nat} (hb : b < B) {o : Nat} {l : List St} (h : IsSts w B b o l) : IsSts w' B b o l := IsStsR.keep (fun b _ hb => hk b hb) (hk b hb) h
end Go.Proofs.Ythafojadcodkoaa
