/- A world and its things; the small functions of package world that only read. -/
import Derived.Test.YthafojadcodkoaaTa
import Derived.Test.YthafojadcodkoaaTb
import Derived.Test.YthafojadcodkoaaTc
import Derived.Test.YthafojadcodkoaaRt
namespace Go.Proofs.Ythafojadcodkoaa
open Go.RowKit

/-- The sixteen cells of a thing. -/
structure WV where
  (k home v0 v1 : Int) (v2 : ByteArray) (vA : Option Addr) (vl vc : Nat) (v4 : Int) (sA : Option Addr) (sl sc : Nat)
  (n lost of_ by_ : Int) (set : Nat) (full : Bool) (cA : Option Addr) (cl cc : Nat) (nA : Option Addr) (nl nc : Nat)
def WV.arr (s : WV) : Array Value := #[.int .u8 s.k, .int .i64 s.home, .int .u8 s.v0, .int .i64 s.v1, .string s.v2, .slice s.vA s.vl s.vc, .int .i64 s.v4, .slice s.sA s.sl s.sc, .int .i64 s.n, .int .i64 s.lost, .int .i64 s.of_, .int .i64 s.by_, .int .u8 s.set, .bool s.full, .slice s.cA s.cl s.cc, .slice s.nA s.nl s.nc]
def WV.v (s : WV) : Value := .agg #[.int .u8 s.v0, .int .i64 s.v1, .string s.v2, .slice s.vA s.vl s.vc, .int .i64 s.v4]
theorem WV.size (s : WV) : s.arr.size = 16 := rfl
theorem WV.at0 (s : WV) : s.arr[0]? = some (.int .u8 s.k) := rfl
theorem WV.at1 (s : WV) : s.arr[1]? = some (.int .i64 s.home) := rfl
theorem WV.at2 (s : WV) : s.arr[2]? = some (.int .u8 s.v0) := rfl
theorem WV.at3 (s : WV) : s.arr[3]? = some (.int .i64 s.v1) := rfl
theorem WV.at4 (s : WV) : s.arr[4]? = some (.string s.v2) := rfl
theorem WV.at5 (s : WV) : s.arr[5]? = some (.slice s.vA s.vl s.vc) := rfl
theorem WV.at6 (s : WV) : s.arr[6]? = some (.int .i64 s.v4) := rfl
theorem WV.at7 (s : WV) : s.arr[7]? = some (.slice s.sA s.sl s.sc) := rfl
theorem WV.at8 (s : WV) : s.arr[8]? = some (.int .i64 s.n) := rfl
theorem WV.at9 (s : WV) : s.arr[9]? = some (.int .i64 s.lost) := rfl
theorem WV.at10 (s : WV) : s.arr[10]? = some (.int .i64 s.of_) := rfl
theorem WV.at11 (s : WV) : s.arr[11]? = some (.int .i64 s.by_) := rfl
theorem WV.at12 (s : WV) : s.arr[12]? = some (.int .u8 s.set) := rfl
theorem WV.at13 (s : WV) : s.arr[13]? = some (.bool s.full) := rfl
theorem WV.at14 (s : WV) : s.arr[14]? = some (.slice s.cA s.cl s.cc) := rfl
theorem WV.at15 (s : WV) : s.arr[15]? = some (.slice s.nA s.nl s.nc) := rfl
def WV.zero : WV := ⟨0, 0, 0, 0, ⟨#[]⟩, Option.none, 0, 0, 0, Option.none, 0, 0, 0, 0, 0, 0, 0, false, Option.none, 0, 0, Option.none, 0, 0⟩
theorem info53 : (Try.prog.info? 53).map (fun i => (i.zero, i.size, i.bytes)) = some (some (.agg WV.zero.arr), 16, 192) := by kernel_rfl
/-- Names with values, in a row. -/
def IsNmsR (w : World) (R : Nat → Nat → Prop) (b o : Nat) : List (ByteArray × Va) → Prop
  | [] => True
  | x :: l => (∃ c0 c1 c2 c3 c4, x.1.size ≤ 140737488351232 ∧ At w b o [.string x.1, c0, c1, c2, c3, c4] ∧ IsVaR w R (.agg #[c0, c1, c2, c3, c4]) x.2) ∧ IsNmsR w R b (o + 6) l
theorem IsNmsR.keep {w w' : World} {R : Nat → Nat → Prop} (hk : ∀ b o, R b o → w'.heap[b]? = w.heap[b]?) {b : Nat} (hb : w'.heap[b]? = w.heap[b]?) : ∀ {o : Nat} {l : List (ByteArray × Va)}, IsNmsR w R b o l → IsNmsR w' R b o l
  | _, [], _ => trivial
  | _, _x :: _l, ⟨⟨c0, c1, c2, c3, c4, h0, h1, h2⟩, h3⟩ => ⟨⟨c0, c1, c2, c3, c4, h0, fun j v hv => (World.cell?_of_block (w := w) hb).trans (h1 j v hv), h2.keep hk⟩, IsNmsR.keep hk hb h3⟩
theorem IsNmsR.mono {w : World} {R R' : Nat → Nat → Prop} (hk : ∀ b o, R b o → R' b o) {b : Nat} : ∀ {o : Nat} {l : List (ByteArray × Va)}, IsNmsR w R b o l → IsNmsR w R' b o l
  | _, [], _ => trivial
  | _, _x :: _l, ⟨⟨c0, c1, c2, c3, c4, h0, h1, h2⟩, h3⟩ => ⟨⟨c0, c1, c2, c3, c4, h0, h1, h2.mono hk⟩, IsNmsR.mono hk h3⟩
/-- What a thing has besides its numbers. -/
structure Pt where
  v : Va
  vs : List Va
  cd : List St
  nm : List (ByteArray × Va)
/-- The cells read as a thing; its parts lie at places of R. -/
def IsWh (w : World) (R : Nat → Nat → Prop) (s : WV) (x : Pt) : Prop :=
  (0 ≤ s.k ∧ s.k < 256 ∧ s.set < 256) ∧ IsVaR w R s.v x.v ∧ LR R 64 s.sA s.sl s.sc x.vs (fun b o => IsVasR w R b o x.vs) ∧ LR R 256 s.cA s.cl s.cc x.cd (fun b o => IsStsR w R b o x.cd) ∧ LR R 80 s.nA s.nl s.nc x.nm (fun b o => IsNmsR w R b o x.nm)
theorem IsWh.keep {w w' : World} {R : Nat → Nat → Prop} {s : WV} {x : Pt} (h : IsWh w R s x) (hk : ∀ b o, R b o → w'.heap[b]? = w.heap[b]?) : IsWh w' R s x :=
  ⟨h.1, h.2.1.keep hk, h.2.2.1.imp fun b o hr hp => ⟨hr, IsVasR.keep hk (hk b o hr) hp⟩, h.2.2.2.1.imp fun b o hr hp => ⟨hr, IsStsR.keep hk (hk b o hr) hp⟩, h.2.2.2.2.imp fun b o hr hp => ⟨hr, hp.keep hk (hk b o hr)⟩⟩
theorem IsWh.mono {w : World} {R R' : Nat → Nat → Prop} {s : WV} {x : Pt} (h : IsWh w R s x) (hk : ∀ b o, R b o → R' b o) : IsWh w R' s x :=
  ⟨h.1, h.2.1.mono hk, h.2.2.1.imp fun b o hr hp => ⟨hk b o hr, IsVasR.mono hk hp⟩, h.2.2.2.1.imp fun b o hr hp => ⟨hk b o hr, IsStsR.mono hk hp⟩, h.2.2.2.2.imp fun b o hr hp => ⟨hk b o hr, hp.mono hk⟩⟩
/-- A thing of a world: its number, its block, its cells. -/
structure Ent where
  r : Int
  b : Nat
  s : WV
def entE (L : List Ent) (r : Int) : Option Ent := L.find? (fun e => decide (e.r = r))
def Ent.pair (e : Ent) : Int × Value := (e.r, .pointer (some ⟨e.b, 0, Option.none⟩))
theorem look_ent (r : Int) : ∀ (L : List Ent), lookL (L.map Ent.pair) r = (entE L r).map (fun e => .pointer (some ⟨e.b, 0, Option.none⟩))
  | [] => rfl
  | e :: L => by
    rw [List.map_cons, lookL_cons]
    unfold entE
    rw [List.find?_cons]
    by_cases h : e.r = r
    · rw [if_pos (show e.pair.1 = r from h)]
      simp [Ent.pair, h]
    · rw [if_neg (show ¬ e.pair.1 = r from h)]
      simp only [decide_eq_false h]
      exact look_ent r L
theorem entE_mem {L : List Ent} {r : Int} {e : Ent} (h : entE L r = some e) : e ∈ L ∧ e.r = r := ⟨List.mem_of_find?_eq_some h, by have := List.find?_some h; simpa using this⟩
/-- The bones of a world. -/
def gr (L : List Ent) : Gr := fun r => (entE L r).map fun e => ⟨e.s.k, e.s.of_, e.s.set⟩
/-- The world in block p: its things are L, its facets FL; all that the things are lies from hi on. -/
structure Wd (w : World) (hi p tm fm : Nat) (ps cs ms : Value) (L : List Ent) (FL : List ((Int × Nat) × Int)) (lt : Int) : Prop where
  blk : BlkN w p 64 #[ps, cs, .map (some tm), .map (some fm), .int .i64 lt, ms]
  things : MapG kI w tm (L.map Ent.pair)
  facets : MapG kF w fm (FL.map fun f => (f.1, .int .i64 f.2))
  each : ∀ e ∈ L, hi ≤ e.b ∧ BlkN w e.b 53 e.s.arr ∧ ∃ x, IsWh w (fun b _ => hi ≤ b ∧ b < w.heap.size) e.s x
  low : p < hi ∧ tm < hi ∧ fm < hi ∧ tm ≠ fm ∧ hi ≤ w.heap.size
section
variable {w : World} {hi p tm fm : Nat} {ps cs ms : Value} {L : List Ent} {FL : List ((Int × Nat) × Int)} {lt : Int}
theorem Wd.below {w' : World} (h : Wd w hi p tm fm ps cs ms L FL lt) (hb : Below w.heap.size w w') : Wd w' hi p tm fm ps cs ms L FL lt := by
  obtain ⟨h1, h2, h3, h4, h5⟩ := h
  refine ⟨h1.below hb, h2.keep (hb.block _ h2.lt), h3.keep (hb.block _ h3.lt), fun e he => ?_, ⟨h5.1, h5.2.1, h5.2.2.1, h5.2.2.2.1, Nat.le_trans h5.2.2.2.2 hb.size⟩⟩
  obtain ⟨k1, k2, x, k3⟩ := h4 e he
  exact ⟨k1, k2.below hb, x, (k3.keep fun b o hr => hb.block b hr.2).mono fun b o hr => ⟨hr.1, Nat.lt_of_lt_of_le hr.2 hb.size⟩⟩
theorem Wd.look (h : Wd w hi p tm fm ps cs ms L FL lt) (r : Int) : (Instr.lookup 61 (.map (some tm)) (.int .i64 r) false).run Try.prog w = .ok (match entE L r with | some e => .pointer (some ⟨e.b, 0, Option.none⟩) | none => .pointer Option.none) w := by
  have := h.things.look things61 (zero59 w) r false
  rw [look_ent] at this
  cases hE : entE L r <;> (rw [hE] at this; exact this)
theorem map61 (b : Nat) (w : World) : (binOp .eql 61 (.map (some b)) (.map Option.none)).run Try.prog w = .ok (.bool false) w := by kernel_rfl
theorem len61 {b : Nat} {es : Array MapEntry} {clock : Nat} {w : World} (hb : w.heap[b]? = some (.map es clock)) : (Builtin.len_ #[61] 3 #[.map (some b)]).run Try.prog w = .ok (.int .i64 es.size) w := run_len_map (P := Try.prog) w 61 3 b es clock (by kernel_rfl) hb
set_option maxRecDepth 100000 in
theorem none_any (h : Wd w hi p tm fm ps cs ms L FL lt) : Calls Try.prog 20 #[.pointer (some ⟨p, 0, Option.none⟩)] w fun e w' => e = .returned (.bool false) ∧ w = w' := by
  have c2 := h.blk.cell 2 rfl
  have hm := map61 tm w
  clear h
  go_enter Try.func20, Try.ntmps20
  go_wp2_with fail
  go_ret
  exact ⟨rfl, rfl⟩
set_option maxRecDepth 100000 in
theorem is_any (h : Wd w hi p tm fm ps cs ms L FL lt) (r : Int) : Calls Try.prog 6 #[.pointer (some ⟨p, 0, Option.none⟩), .int .i64 r] w fun e w' => e = .returned (.bool (entE L r).isSome) ∧ w = w' := by
  have c2 := h.blk.cell 2 rfl
  have hl := h.look r
  have C20 := Lib.hid (none_any h)
  clear h
  cases hE : entE L r with
  | none =>
    rw [hE] at hl
    go_enter Try.func6, Try.ntmps6
    go_wp2_with (first | (go_at_call 20; refine C20.out.mono ?_; rintro e w' ⟨rfl, rfl⟩))
    go_ret
    exact ⟨rfl, rfl⟩
  | some x =>
    rw [hE] at hl
    go_enter Try.func6, Try.ntmps6
    go_wp2_with (first | (go_at_call 20; refine C20.out.mono ?_; rintro e w' ⟨rfl, rfl⟩))
    go_ret
    exact ⟨rfl, rfl⟩
set_option maxRecDepth 100000 in
theorem kind_any (h : Wd w hi p tm fm ps cs ms L FL lt) (r : Int) : Calls Try.prog 55 #[.pointer (some ⟨p, 0, Option.none⟩), .int .i64 r] w fun e w' => e = .returned (.int .u8 (match entE L r with | some e => e.s.k | none => 0)) ∧ w = w' := by
  have c2 := h.blk.cell 2 rfl
  have hl := h.look r
  have C6 := is_any h r
  cases hE : entE L r with
  | none =>
    rw [hE] at hl C6
    have C6 := Lib.hid C6
    clear h
    go_enter Try.func55, Try.ntmps55
    go_wp2_with (first | (go_at_call 6; refine C6.out.mono ?_; rintro e w' ⟨rfl, rfl⟩))
    go_ret
    exact ⟨rfl, rfl⟩
  | some x =>
    rw [hE] at hl C6
    have C6 := Lib.hid C6
    have k0 := (h.each x (entE_mem hE).1).2.1.cell 0 x.s.at0
    clear h
    go_enter Try.func55, Try.ntmps55
    go_wp2_with (first | (go_at_call 6; refine C6.out.mono ?_; rintro e w' ⟨rfl, rfl⟩))
    go_ret
    exact ⟨rfl, rfl⟩
set_option maxRecDepth 100000 in
theorem len_any (h : Wd w hi p tm fm ps cs ms L FL lt) : Calls Try.prog 9 #[.pointer (some ⟨p, 0, Option.none⟩)] w fun e w' => e = .returned (.int .i64 L.length) ∧ w = w' := by
  have c2 := h.blk.cell 2 rfl
  have C20 := Lib.hid (none_any h)
  obtain ⟨es, clock, hb, he, -⟩ := h.things
  have hn : es.size = L.length := by have := congrArg List.length he; simpa using this
  have hl := len61 hb
  rw [hn] at hl
  clear h he hb hn
  go_enter Try.func9, Try.ntmps9
  go_wp2_with (first | (go_at_call 20; refine C20.out.mono ?_; rintro e w' ⟨rfl, rfl⟩))
  go_ret
  exact ⟨rfl, rfl⟩
end
end Go.Proofs.Ythafojadcodkoaa
