/- CutEdge. -/
import Derived.Test.YthafojadcodkoaaUe
namespace Go.Proofs.Ythafojadcodkoaa
open Go.RowKit Go.ChangeMaps

/-- What New is to answer, for every slice of sides. -/
def NewC : Prop := ∀ (w : World) (v : Value) (cs : List Value), RowA w v cs → (∀ u ∈ cs, ∃ n : Int, u = .int .i64 n) → Calls Try.prog 11 #[v] w fun e w' => Below w.heap.size w w' ∧
  ((∃ c : Int, c ≠ 0 ∧ e = .returned (.tuple #[.pointer Option.none, .int .i64 c])) ∨
   ∃ (p tm fm cb mb : Nat) (ps : Value) (cur : Array Value), e = .returned (.tuple #[.pointer (some ⟨p, 0, Option.none⟩), .int .i64 0]) ∧ cs.length ≤ 15 ∧
     Wd w' w'.heap.size p tm fm ps (.slice (some ⟨cb, 0, Option.none⟩) (cs.length + 1) (cs.length + 1)) (.slice (some ⟨mb, 0, Option.none⟩) (cs.length + 1) (cs.length + 1)) [] [] 0 ∧
     (w.heap.size ≤ p ∧ w.heap.size ≤ tm ∧ w.heap.size ≤ fm ∧ w.heap.size ≤ cb) ∧ (cb ≠ p ∧ cb ≠ tm ∧ cb ≠ fm) ∧ BlkN w' cb 4 cur ∧ cur.size = cs.length + 1)
section
variable {w : World} {hi p tm fm cb : Nat} {ps : Value} {mA : Option Addr} {ml mc : Nat} {FL : List ((Int × Nat) × Int)} {lt : Int}
attribute [local irreducible] wpList
theorem Wd.bare {w' : World} {cs ms : Value} (h : Wd w hi p tm fm ps cs ms [] FL lt) (hu : Upd cb w w') (hn : cb ≠ p ∧ cb ≠ tm ∧ cb ≠ fm) : Wd w' hi p tm fm ps cs ms [] FL lt :=
  ⟨(hu.block p h.blk.lt (Ne.symm hn.1)).trans h.blk, h.things.keep (hu.block _ h.things.lt (Ne.symm hn.2.1)), h.facets.keep (hu.block _ h.facets.lt (Ne.symm hn.2.2)), fun e he => (by cases he), ⟨h.low.1, h.low.2.1, h.low.2.2.1, h.low.2.2.2.1, Nat.le_trans h.low.2.2.2.2 hu.size⟩⟩
theorem Wd.hi0 {cs ms : Value} {hi' : Nat} (h : Wd w hi p tm fm ps cs ms [] FL lt) (h1 : hi ≤ hi') (h2 : hi' ≤ w.heap.size) : Wd w hi' p tm fm ps cs ms [] FL lt :=
  ⟨h.blk, h.things, h.facets, fun e he => (by cases he), ⟨Nat.lt_of_lt_of_le h.low.1 h1, Nat.lt_of_lt_of_le h.low.2.1 h1, Nat.lt_of_lt_of_le h.low.2.2.1 h1, h.low.2.2.2.1, h2⟩⟩
set_option maxRecDepth 100000 in
set_option maxHeartbeats 2000000 in
theorem cutedge_any (h : Wd w hi p tm fm ps (.slice (some ⟨cb, 0, Option.none⟩) ml ml) (.slice mA ml mc) [] FL lt) (cur : Array Value) (hc : BlkN w cb 4 cur) (hs : cur.size = ml) (n : Int) :
    Calls Try.prog 14 #[.pointer (some ⟨p, 0, Option.none⟩), .int .i64 n] w fun e w' => Upd cb w w' ∧ (∃ cur', BlkN w' cb 4 cur' ∧ cur'.size = ml) ∧ ∃ c : Int, e = .returned (.int .i64 c) := by
  have C20 := Lib.hid (none_any h)
  have C32 := edge_any h n
  have c1 := h.blk.cell (v := .slice (some ⟨cb, 0, Option.none⟩) ml ml) 1 rfl
  have HC := Lib.hid hc
  have HS := Lib.hid hs
  by_cases hn : 0 < n ∧ n < ml
  · rw [decide_eq_true hn] at C32
    have C32 := Lib.hid C32
    obtain ⟨k, rfl⟩ : ∃ k : Nat, n = k := ⟨n.toNat, by omega⟩
    have hk : k < cur.size := by omega
    have ck := hc.cell (v := cur[k]) k (Array.getElem?_eq_getElem hk)
    have fk := hc.free k
    have hk2 : (k : Int) < ml := hn.2
    clear h hc hs hn
    go_enter Try.func14, Try.ntmps14
    go_wp2_with (first
      | (go_at_call 20; with_reducible refine C20.out.mono ?_; rintro e w' ⟨rfl, rfl⟩)
      | (go_at_call 32; with_reducible refine C32.out.mono ?_; rintro e w' ⟨rfl, rfl⟩))
    go_ret
    exact ⟨(Upd.refl _ _).set k _, ⟨_, HC.out.set k _, by simp [HS.out]⟩, _, rfl⟩
  · rw [decide_eq_false hn] at C32
    have C32 := Lib.hid C32
    clear h hc hs hn
    go_enter Try.func14, Try.ntmps14
    go_wp2_with (first
      | (go_at_call 20; with_reducible refine C20.out.mono ?_; rintro e w' ⟨rfl, rfl⟩)
      | (go_at_call 32; with_reducible refine C32.out.mono ?_; rintro e w' ⟨rfl, rfl⟩))
    go_ret
    exact ⟨Upd.refl _ _, ⟨_, HC.out, HS.out⟩, _, rfl⟩
end
end Go.Proofs.Ythafojadcodkoaa
