/- Contracts of the small functions of package able at this translation. The table of forms. -/
import Derived.Test.YtnknefdpglnbnaaP
import Derived.Shelf.Small.Bits
import Derived.MapKept
import Derived.Carry
namespace Go.Proofs.Ytnknefdpglnbnaa
open Go.RowKit
def Try.lays135_ren : Go.Shelf.Ren := ⟨fun | 135 => 155 | n => n, fun | 5 => 5 | 3 => 3 | 9 => 9 | n => n, fun | n => n⟩
theorem Try.lays135 : Go.Proofs.Lays.n135 Try.prog Try.lays135_ren := {
  mixed := by kernel_rfl
  f135 := Try.func155.trans (congrArg some (by kernel_rfl))
  t3 := Try.underlying3
  a3 := Try.isAgg3
  z3 := Try.sizeOf3
  v3 := Try.zeroValue3
  t5 := Try.underlying5
  a5 := Try.isAgg5
  z5 := Try.sizeOf5
  v5 := Try.zeroValue5
  t9 := Try.underlying9
  a9 := Try.isAgg9
  z9 := Try.sizeOf9
  v9 := Try.zeroValue9 }
theorem Try.bits_OnesCount8 (x : Int) (w : World) (h0 : 0 ≤ x) (h1 : x ≤ 255) :
    Calls Try.prog 155 #[.int .u8 x] w fun e w' => e = .returned (.int .i64 (Lib.onesCount x.toNat)) ∧ w' = w := Any.bits_OnesCount8 Try.lays135 x w h0 h1

def mayB (a : Nat) : Bool := decide (a < 64)
def oneB (a : Nat) : Bool := mayB a && Lib.onesCount a == 1
def mayI (a : Int) : Bool := mayB a.toNat
def oneI (a : Int) : Bool := oneB a.toNat
theorem f_may : ∀ a : Fin 256, (bits .andNot .u8 ((a : Nat) : Int) 63 == 0) = mayB a := by decide +kernel
set_option maxHeartbeats 400000 in
theorem may_any (a : Nat) (ha : a < 256) (w : World) :
    Calls Try.prog 145 #[.int .u8 a] w fun e w' => e = .returned (.bool (mayB a)) ∧ w = w' := by
  go_enter Try.func145, Try.ntmps145
  go_wp2
  go_ret
  exact ⟨by simp [f_may ⟨a, ha⟩], rfl⟩
set_option maxHeartbeats 400000 in
theorem ones_any (x : Int) (a : Nat) (hx : x = a) (ha : a < 256) (w : World) :
    Calls Try.prog 155 #[.int .u8 x] w fun e w' => e = .returned (.int .i64 (Lib.onesCount a)) ∧ w = w' := by
  subst hx
  exact (Try.bits_OnesCount8 _ _ (by omega) (by omega)).mono fun e w' ⟨h1, h2⟩ => ⟨by rw [h1]; rfl, h2.symm⟩
set_option maxHeartbeats 400000 in
theorem one_any (a : Nat) (ha : a < 256) (w : World) :
    Calls Try.prog 140 #[.int .u8 a] w fun e w' => e = .returned (.bool (oneB a)) ∧ w = w' := by
  by_cases hm : mayB a = true
  · go_enter Try.func140, Try.ntmps140
    go_wp2_with (first | (go_at_call 145; refine (may_any a ha _).mono ?_; rintro e w' ⟨rfl, rfl⟩) | (go_at_call 155; refine (ones_any _ a (by omega) (by omega) _).mono ?_; rintro e w' ⟨rfl, rfl⟩))
    go_ret
    exact ⟨by rw [show oneB a = (((Lib.onesCount a : Nat) : Int) == 1) from by simp only [oneB, hm, Bool.true_and]; rw [Bool.eq_iff_iff]; simp; omega]; rfl, rfl⟩
  · have hm : mayB a = false := by simpa using hm
    go_enter Try.func140, Try.ntmps140
    go_wp2_with (first | (go_at_call 145; refine (may_any a ha _).mono ?_; rintro e w' ⟨rfl, rfl⟩) | (go_at_call 155; refine (ones_any _ a (by omega) (by omega) _).mono ?_; rintro e w' ⟨rfl, rfl⟩))
    go_ret
    exact ⟨by simp [oneB, hm], rfl⟩
theorem u8_toNat {x : Int} (h0 : 0 ≤ x) (h1 : x < 256) : ((x.toNat : Nat) : Int) = x ∧ x.toNat < 256 := by omega
/-- THE SAME FOR AN INTEGER IN THE RANGE OF A BYTE, ended in 'Below'. -/
theorem mayI_any (x : Int) (h0 : 0 ≤ x) (h1 : x < 256) (w : World) :
    Calls Try.prog 145 #[.int .u8 x] w fun e w' => e = .returned (.bool (mayI x)) ∧ Below w.heap.size w w' := by
  have h := may_any x.toNat (by omega) w
  rw [(u8_toNat h0 h1).1] at h
  exact h.mono fun e w' ⟨he, hw⟩ => ⟨he, hw ▸ Below.refl _ _⟩
theorem oneI_any (x : Int) (h0 : 0 ≤ x) (h1 : x < 256) (w : World) :
    Calls Try.prog 140 #[.int .u8 x] w fun e w' => e = .returned (.bool (oneI x)) ∧ Below w.heap.size w w' := by
  have h := one_any x.toNat (by omega) w
  rw [(u8_toNat h0 h1).1] at h
  exact h.mono fun e w' ⟨he, hw⟩ => ⟨he, hw ▸ Below.refl _ _⟩
end Go.Proofs.Ytnknefdpglnbnaa
namespace Go.Proofs.Ytnknefdpglnbnaa
open Go.RowKit Go.MapKept

theorem set_push {α : Type} (a : Array α) (x y : α) : (a.push x).setIfInBounds a.size y = a.push y := by
  apply Array.ext_getElem?
  intro k
  by_cases h : k = a.size
  · subst h; simp
  · rw [Array.getElem?_setIfInBounds_ne (Ne.symm h), Array.getElem?_push, Array.getElem?_push]; simp [h]
theorem run_put_alloc {P : Program} {t kt et : TypeId} {d : TypeDesc} {k v : Value} {es : Array MapEntry} {n : Nat} (w : World) (ht : P.underlying t = some (.map kt et)) (hd : P.underlying kt = some d) (hk : IsKey d k) (hf : Instr.findNow d k es.toList 0 = some Option.none) :
    (Instr.mapUpdate t (.map (some w.heap.size)) k v).run P (w.alloc (.map es n)) = .ok () (w.alloc (.map (es.push { key := k, val := v, born := n }) (n + 1))) := by
  have hb : (w.alloc (.map es n)).heap[w.heap.size]? = some (.map es n) := Array.getElem?_push_size
  unfold Instr.mapUpdate
  simp only [Sem.run_bind, run_underlying ht, Result.andThen_ok, Go.MapKept.run_getObj_map hb, run_checkKey hd hk, run_findKey hd hf, Go.MapKept.run_setObj_map _ hb]
  congr 1
  simp only [World.alloc]
  congr 1
  exact set_push _ _ _
theorem run_lookup_hit {P : Program} {t kt et : TypeId} {d : TypeDesc} {k v : Value} {es : Array MapEntry} {n i r : Nat} {w : World} (ht : P.underlying t = some (.map kt et)) (hd : P.underlying kt = some d) (hk : IsKey d k) (hb : w.heap[r]? = some (.map es n)) (hf : Instr.findNow d k es.toList 0 = some (some (i, v))) :
    (Instr.lookup t (.map (some r)) k true).run P w = .ok (.tuple #[v, .bool true]) w := by
  unfold Instr.lookup
  simp only [Sem.run_bind, run_underlying ht, Result.andThen_ok, Go.MapKept.run_getObj_map hb, run_checkKey hd hk, run_findKey hd hf, Sem.run_pure]
  rfl
theorem run_lookup_miss {P : Program} {t kt et : TypeId} {d : TypeDesc} {k z : Value} {es : Array MapEntry} {n r : Nat} {w : World} (ht : P.underlying t = some (.map kt et)) (hd : P.underlying kt = some d) (hk : IsKey d k) (hb : w.heap[r]? = some (.map es n)) (hf : Instr.findNow d k es.toList 0 = some Option.none) (hz : (zeroValue et).run P w = .ok z w) :
    (Instr.lookup t (.map (some r)) k true).run P w = .ok (.tuple #[z, .bool false]) w := by
  unfold Instr.lookup
  simp only [Sem.run_bind, run_underlying ht, Result.andThen_ok, Go.MapKept.run_getObj_map hb, run_checkKey hd hk, run_findKey hd hf, hz, Sem.run_pure]
  rfl
def FN (f : Nat) : Value := .func (.func f) #[] #[]
def tbl : Array MapEntry := #[⟨.int .u8 1, FN 138, 0⟩, ⟨.int .u8 2, FN 139, 1⟩, ⟨.int .u8 3, FN 141, 2⟩, ⟨.int .u8 4, FN 142, 3⟩, ⟨.int .u8 5, FN 143, 4⟩, ⟨.int .u8 6, FN 144, 5⟩, ⟨.int .u8 7, FN 146, 6⟩, ⟨.int .u8 8, FN 147, 7⟩, ⟨.int .u8 9, FN 148, 8⟩]
set_option maxRecDepth 100000 in
set_option maxHeartbeats 1000000 in
theorem formsT_any (w : World) : Calls Try.prog 117 #[] w fun e w' => e = .returned (.map (some w.heap.size)) ∧ w' = w.alloc (.map tbl 9) := by
  have hmm := @run_makeMap Try.prog
  have p0 := run_put_alloc (P := Try.prog) (t := 134) (k := .int .u8 1) (v := .func (.func 138) #[] #[]) (es := #[]) (n := 0) w Try.underlying134 Try.underlying54 (by simp [IsKey]) rfl
  have p1 := run_put_alloc (P := Try.prog) (t := 134) (k := .int .u8 2) (v := .func (.func 139) #[] #[]) (es := #[(⟨.int .u8 1, .func (.func 138) #[] #[], 0⟩ : MapEntry)]) (n := 1) w Try.underlying134 Try.underlying54 (by simp [IsKey]) rfl
  have p2 := run_put_alloc (P := Try.prog) (t := 134) (k := .int .u8 3) (v := .func (.func 141) #[] #[]) (es := #[(⟨.int .u8 1, .func (.func 138) #[] #[], 0⟩ : MapEntry), (⟨.int .u8 2, .func (.func 139) #[] #[], 1⟩ : MapEntry)]) (n := 2) w Try.underlying134 Try.underlying54 (by simp [IsKey]) rfl
  have p3 := run_put_alloc (P := Try.prog) (t := 134) (k := .int .u8 4) (v := .func (.func 142) #[] #[]) (es := #[(⟨.int .u8 1, .func (.func 138) #[] #[], 0⟩ : MapEntry), (⟨.int .u8 2, .func (.func 139) #[] #[], 1⟩ : MapEntry), (⟨.int .u8 3, .func (.func 141) #[] #[], 2⟩ : MapEntry)]) (n := 3) w Try.underlying134 Try.underlying54 (by simp [IsKey]) rfl
  have p4 := run_put_alloc (P := Try.prog) (t := 134) (k := .int .u8 5) (v := .func (.func 143) #[] #[]) (es := #[(⟨.int .u8 1, .func (.func 138) #[] #[], 0⟩ : MapEntry), (⟨.int .u8 2, .func (.func 139) #[] #[], 1⟩ : MapEntry), (⟨.int .u8 3, .func (.func 141) #[] #[], 2⟩ : MapEntry), (⟨.int .u8 4, .func (.func 142) #[] #[], 3⟩ : MapEntry)]) (n := 4) w Try.underlying134 Try.underlying54 (by simp [IsKey]) rfl
  have p5 := run_put_alloc (P := Try.prog) (t := 134) (k := .int .u8 6) (v := .func (.func 144) #[] #[]) (es := #[(⟨.int .u8 1, .func (.func 138) #[] #[], 0⟩ : MapEntry), (⟨.int .u8 2, .func (.func 139) #[] #[], 1⟩ : MapEntry), (⟨.int .u8 3, .func (.func 141) #[] #[], 2⟩ : MapEntry), (⟨.int .u8 4, .func (.func 142) #[] #[], 3⟩ : MapEntry), (⟨.int .u8 5, .func (.func 143) #[] #[], 4⟩ : MapEntry)]) (n := 5) w Try.underlying134 Try.underlying54 (by simp [IsKey]) rfl
  have p6 := run_put_alloc (P := Try.prog) (t := 134) (k := .int .u8 7) (v := .func (.func 146) #[] #[]) (es := #[(⟨.int .u8 1, .func (.func 138) #[] #[], 0⟩ : MapEntry), (⟨.int .u8 2, .func (.func 139) #[] #[], 1⟩ : MapEntry), (⟨.int .u8 3, .func (.func 141) #[] #[], 2⟩ : MapEntry), (⟨.int .u8 4, .func (.func 142) #[] #[], 3⟩ : MapEntry), (⟨.int .u8 5, .func (.func 143) #[] #[], 4⟩ : MapEntry), (⟨.int .u8 6, .func (.func 144) #[] #[], 5⟩ : MapEntry)]) (n := 6) w Try.underlying134 Try.underlying54 (by simp [IsKey]) rfl
  have p7 := run_put_alloc (P := Try.prog) (t := 134) (k := .int .u8 8) (v := .func (.func 147) #[] #[]) (es := #[(⟨.int .u8 1, .func (.func 138) #[] #[], 0⟩ : MapEntry), (⟨.int .u8 2, .func (.func 139) #[] #[], 1⟩ : MapEntry), (⟨.int .u8 3, .func (.func 141) #[] #[], 2⟩ : MapEntry), (⟨.int .u8 4, .func (.func 142) #[] #[], 3⟩ : MapEntry), (⟨.int .u8 5, .func (.func 143) #[] #[], 4⟩ : MapEntry), (⟨.int .u8 6, .func (.func 144) #[] #[], 5⟩ : MapEntry), (⟨.int .u8 7, .func (.func 146) #[] #[], 6⟩ : MapEntry)]) (n := 7) w Try.underlying134 Try.underlying54 (by simp [IsKey]) rfl
  have p8 := run_put_alloc (P := Try.prog) (t := 134) (k := .int .u8 9) (v := .func (.func 148) #[] #[]) (es := #[(⟨.int .u8 1, .func (.func 138) #[] #[], 0⟩ : MapEntry), (⟨.int .u8 2, .func (.func 139) #[] #[], 1⟩ : MapEntry), (⟨.int .u8 3, .func (.func 141) #[] #[], 2⟩ : MapEntry), (⟨.int .u8 4, .func (.func 142) #[] #[], 3⟩ : MapEntry), (⟨.int .u8 5, .func (.func 143) #[] #[], 4⟩ : MapEntry), (⟨.int .u8 6, .func (.func 144) #[] #[], 5⟩ : MapEntry), (⟨.int .u8 7, .func (.func 146) #[] #[], 6⟩ : MapEntry), (⟨.int .u8 8, .func (.func 147) #[] #[], 7⟩ : MapEntry)]) (n := 8) w Try.underlying134 Try.underlying54 (by simp [IsKey]) rfl
  simp only [List.push_toArray, List.nil_append, List.cons_append, Nat.reduceAdd] at p0 p1 p2 p3 p4 p5 p6 p7 p8
  go_enter Try.func117, Try.ntmps117
  go_wp2_with fail
  go_ret
  exact ⟨rfl, rfl⟩

theorem makes1_any (s : ByteArray) (w : World) : Calls Try.prog 156 #[.string s] w fun e w' => e = .returned (.bool (!mayN s)) ∧ Below w.heap.size w w' := by
  go_enter Try.func156, Try.ntmps156
  go_wp2_with (go_at_call 38; refine (mayName_any s _).mono ?_; rintro e w' ⟨rfl, hb⟩)
  go_ret
  exact ⟨rfl, hb⟩
end Go.Proofs.Ytnknefdpglnbnaa
