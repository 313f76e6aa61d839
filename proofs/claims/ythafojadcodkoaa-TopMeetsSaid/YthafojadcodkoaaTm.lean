/- Narrow; what stays from one narrowing to the next. -/
import Derived.Test.YthafojadcodkoaaTl
namespace Go.Proofs.Ythafojadcodkoaa
open Go.RowKit

section
variable {w : World} {hi p tm fm : Nat} {ps cs : Value} {mA : Option Addr} {ml mc : Nat} {L : List Ent} {FL : List ((Int × Nat) × Int)} {lt : Int}
attribute [local irreducible] wpList
set_option maxRecDepth 100000 in
set_option maxHeartbeats 4000000 in
theorem Narrow_any (H : OwnWhatC) (h : Wd w hi p tm fm ps cs (.slice mA ml mc) L FL lt) (hml : 0 < ml) (hS : Sound (gr L) (fc FL)) (lo : Nat) (hlo : lo ≤ p ∧ lo ≤ tm ∧ lo ≤ fm) (hl0 : -9223372036854775808 ≤ lt) (hlt : lt ≤ 4611686018427387904) (hnew : ∀ e ∈ L, e.r ≤ lt) (r : Int) (s : Nat) (hs : s < 64) (e : Ent) (hE : entE L r = some e) :
    Calls Try.prog 8 #[.pointer (some ⟨p, 0, Option.none⟩), .int .i64 r, .int .u8 s] w fun ee w' => ∃ q L' FL' lt', ee = .returned (.tuple #[.int .i64 q, .int .i64 0]) ∧ NarW w hi p tm fm ps cs mA ml mc L FL lt lo r s q w' L' FL' lt' := by
  obtain ⟨W, hW⟩ : ∃ W, W = (w.alloc (.cells #[.int .u8 s] 35)).alloc (.cells #[.int .i64 r] 25) := ⟨_, rfl⟩
  have hb : Below w.heap.size w W := by rw [hW]; exact ((Below.refl _ _).alloc (Nat.le_refl _) _).alloc (by simp) _
  have hw := h.below hb
  have hlw : lo ≤ w.heap.size := by have := h.low; omega
  have h1 : BlkN W w.heap.size 35 #[.int .u8 s] := by rw [hW]; exact (BlkN.at_ rfl _ _).alloc _
  have h2 : BlkN W (w.heap.size + 1) 25 #[.int .i64 r] := by rw [hW]; exact BlkN.at_ (by simp) _ _
  have C23 := Lib.hid (ask_any hw hml w.heap.size (w.heap.size + 1) r s hs h1 h2 e hE)
  have C24 := Lib.hid (narrow_any H hw hS lo hlo hl0 hlt hnew r s hs e hE)
  have HB := Lib.hid (hb.mono hlw)
  clear h hb hw h1 h2 hE hnew
  go_enter Try.func8, Try.ntmps8
  go_wp2_with (first
    | (go_at_call 23; rw [← hW]; clear hW; refine C23.out.mono ?_; rintro e2 w' ⟨rfl, rfl⟩)
    | (go_at_call 24; refine C24.out.mono ?_; rintro e2 w2 ⟨q, L', FL', lt', rfl, hn⟩; have HN := Lib.hid hn; clear hn))
  go_ret2
  obtain ⟨n1, n2⟩ := HN.out
  exact ⟨q, L', FL', lt', by first | rfl | trivial, HB.out.trans n1, n2⟩
end
/-- A world on the way: sound, all numbers known. -/
structure Way1 (w0 : World) (lo : Nat) (G0 : Gr) (F0 : Fc) (hi p tm fm : Nat) (ps cs : Value) (mA : Option Addr) (ml mc : Nat) (w : World) (L : List Ent) (FL : List ((Int × Nat) × Int)) (lt : Int) : Prop where
  wd : Wd w hi p tm fm ps cs (.slice mA ml mc) L FL lt
  sound : Sound (gr L) (fc FL)
  ext : Ext G0 (gr L)
  extF : ExtF F0 (fc FL)
  keys : ∀ e ∈ L, e.r ≤ lt
  low : Below lo w0 w
/-- A thing with this root that can just this. -/
def Good (L : List Ent) (t : Int) (q : Int) (m : Nat) : Prop := (∃ e, entE L q = some e) ∧ Can (gr L) q m ∧ rootG (gr L) q = t
theorem keys_gr {L : List Ent} {lt : Int} (h : ∀ e ∈ L, e.r ≤ lt) : ∀ r t, gr L r = some t → r ≤ lt := fun r t e => by
  obtain ⟨x, hx, -⟩ := gr_some e
  obtain ⟨h1, h2⟩ := entE_mem hx
  have := h x h1
  omega
section
variable {w0 w w' : World} {lo : Nat} {G0 : Gr} {F0 : Fc} {hi p tm fm : Nat} {ps cs : Value} {mA : Option Addr} {ml mc : Nat} {L L' : List Ent} {FL FL' : List ((Int × Nat) × Int)} {lt lt' : Int}
theorem Way1.step (h : Way1 w0 lo G0 F0 hi p tm fm ps cs mA ml mc w L FL lt) {t q q' : Int} {m s : Nat} (g : Good L t q m) (hn : NarW w hi p tm fm ps cs mA ml mc L FL lt lo q s q' w' L' FL' lt') :
    Way1 w0 lo G0 F0 hi p tm fm ps cs mA ml mc w' L' FL' lt' ∧ Good L' t q' (m &&& s) ∧ Form (gr L') (fc FL') t (m &&& s) q' ∧ Ext (gr L) (gr L') ∧ ExtF (fc FL) (fc FL') := by
  obtain ⟨⟨e, hE⟩, hc, rfl⟩ := g
  obtain ⟨n1, n2, n3, n4, n5, n6, n7⟩ := hn
  have hg := gr_ent hE
  obtain ⟨k1, k2, k3, k4, k5, k6, k7⟩ := NarR.is h.sound hg (keys_gr h.keys) hc n3
  obtain ⟨u, hu, huk⟩ := h.sound.root hg
  obtain ⟨A, hA⟩ := h.sound.can hu
  obtain ⟨x, f1, f2, f3⟩ := k4.is k1 (k2 _ _ hu) huk (hA.ext k2) (and_within (h.sound.within hg hc hA))
  obtain ⟨e', hE', -⟩ := gr_some f1
  exact ⟨⟨n2, k1, h.ext.trans k2, fun o s f hh => k3 _ _ _ (h.extF o s f hh), n5, h.low.trans n1⟩, ⟨⟨e', hE'⟩, f3, f2⟩, k4, k2, k3⟩
theorem Good.ext {t q : Int} {m : Nat} (g : Good L t q m) (hx : Ext (gr L) (gr L')) : Good L' t q m := by
  obtain ⟨⟨e, hE⟩, hc, hr⟩ := g
  have hg := gr_ent hE
  obtain ⟨e', hE', -⟩ := gr_some (hx _ _ hg)
  exact ⟨⟨e', hE'⟩, hc.ext hx, (rootG_ext hx hg).trans hr⟩
end
/-- The sets' meet. -/
def allN : List Nat → Nat
  | [] => 63
  | x :: l => allN l &&& (x &&& 63)
theorem allN_lt : ∀ l : List Nat, allN l < 64
  | [] => by decide
  | x :: l => Nat.lt_of_le_of_lt Nat.and_le_left (allN_lt l)
theorem allN_snoc : ∀ (l : List Nat) (x : Nat), allN (l ++ [x]) = allN l &&& (x &&& 63)
  | [], x => rfl
  | y :: l, x => by
    rw [List.cons_append, allN, allN_snoc l x, allN]
    generalize x &&& 63 = X
    generalize y &&& 63 = Y
    rw [Nat.and_assoc, Nat.and_comm X Y, ← Nat.and_assoc]
end Go.Proofs.Ythafojadcodkoaa
