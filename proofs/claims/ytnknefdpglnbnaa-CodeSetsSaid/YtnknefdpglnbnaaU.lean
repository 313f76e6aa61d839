/- The table of forms. -/
import Derived.Test.YtnknefdpglnbnaaM
import Derived.MapKept
import Derived.Carry
namespace Go.Proofs.Ytnknefdpglnbnaa
open Go.RowKit Go.MapKept

theorem set_push {α : Type} (a : Array α) (x y : α) : (a.push x).setIfInBounds a.size y = a.push y := by
  apply Array.ext_getElem?
  intro k
  by_cases h : k = a.size
  · subst h; simp
  · rw [Array.getElem?_setIfInBounds_ne (Ne.symm h), Array.getElem?_push, Array.getElem?_push]; simp [h]
theorem run_put_alloc {P : Program} {t kt et : TypeId} {d : TypeDesc} {k v : Value} {es : Array MapEntry} {n : Nat} (w : World) (ht : P.underlying t = some (.map kt et)) (hd : P.underlying kt = some d) (hk : IsKey d k) (hf : Instr.findNow d k es.toList 0 = some Option.none) :
    (Instr.mapUpdate t (.map (some w.heap.size)) k v).run P (w.alloc (.map es n)) = .ok () (w.alloc (.map (es.push { key := k, val := v, born := n }) (n + 1))) := by
  have hb : (w.alloc (.map es n)).heap[w.heap.size]? = some (.map es n) := Array.getElem?_push_size
  unfold Instr.mapUpdate
  simp only [Sem.run_bind, run_underlying ht, Result.andThen_ok, Go.MapKept.run_getObj_map hb, run_checkKey hd hk, run_findKey hd hf, Go.MapKept.run_setObj_map _ hb]
  congr 1
  simp only [World.alloc]
  congr 1
  exact set_push _ _ _
theorem run_lookup_hit {P : Program} {t kt et : TypeId} {d : TypeDesc} {k v : Value} {es : Array MapEntry} {n i r : Nat} {w : World} (ht : P.underlying t = some (.map kt et)) (hd : P.underlying kt = some d) (hk : IsKey d k) (hb : w.heap[r]? = some (.map es n)) (hf : Instr.findNow d k es.toList 0 = some (some (i, v))) :
    (Instr.lookup t (.map (some r)) k true).run P w = .ok (.tuple #[v, .bool true]) w := by
  unfold Instr.lookup
  simp only [Sem.run_bind, run_underlying ht, Result.andThen_ok, Go.MapKept.run_getObj_map hb, run_checkKey hd hk, run_findKey hd hf, Sem.run_pure]
  rfl
theorem run_lookup_miss {P : Program} {t kt et : TypeId} {d : TypeDesc} {k z : Value} {es : Array MapEntry} {n r : Nat} {w : World} (ht : P.underlying t = some (.map kt et)) (hd : P.underlying kt = some d) (hk : IsKey d k) (hb : w.heap[r]? = some (.map es n)) (hf : Instr.findNow d k es.toList 0 = some Option.none) (hz : (zeroValue et).run P w = .ok z w) :
    (Instr.lookup t (.map (some r)) k true).run P w = .ok (.tuple #[z, .bool false]) w := by
  unfold Instr.lookup
  simp only [Sem.run_bind, run_underlying ht, Result.andThen_ok, Go.MapKept.run_getObj_map hb, run_checkKey hd hk, run_findKey hd hf, hz, Sem.run_pure]
  rfl
def FN (f : Nat) : Value := .func (.func f) #[] #[]
def tbl : Array MapEntry := #[⟨.int .u8 1, FN 138, 0⟩, ⟨.int .u8 2, FN 139, 1⟩, ⟨.int .u8 3, FN 141, 2⟩, ⟨.int .u8 4, FN 142, 3⟩, ⟨.int .u8 5, FN 143, 4⟩, ⟨.int .u8 6, FN 144, 5⟩, ⟨.int .u8 7, FN 146, 6⟩, ⟨.int .u8 8, FN 147, 7⟩, ⟨.int .u8 9, FN 148, 8⟩]
set_option maxRecDepth 100000 in
set_option maxHeartbeats 1000000 in
theorem formsT_any (w : World) : Calls Try.prog 117 #[] w fun e w' => e = .returned (.map (some w.heap.size)) ∧ w' = w.alloc (.map tbl 9) := by
  have hmm := @run_makeMap Try.prog
  have p0 := run_put_alloc (P := Try.prog) (t := 134) (k := .int .u8 1) (v := .func (.func 138) #[] #[]) (es := #[]) (n := 0) w Try.underlying134 Try.underlying54 (by simp [IsKey]) rfl
  have p1 := run_put_alloc (P := Try.prog) (t := 134) (k := .int .u8 2) (v := .func (.func 139) #[] #[]) (es := #[(⟨.int .u8 1, .func (.func 138) #[] #[], 0⟩ : MapEntry)]) (n := 1) w Try.underlying134 Try.underlying54 (by simp [IsKey]) rfl
  have p2 := run_put_alloc (P := Try.prog) (t := 134) (k := .int .u8 3) (v := .func (.func 141) #[] #[]) (es := #[(⟨.int .u8 1, .func (.func 138) #[] #[], 0⟩ : MapEntry), (⟨.int .u8 2, .func (.func 139) #[] #[], 1⟩ : MapEntry)]) (n := 2) w Try.underlying134 Try.underlying54 (by simp [IsKey]) rfl
  have p3 := run_put_alloc (P := Try.prog) (t := 134) (k := .int .u8 4) (v := .func (.func 142) #[] #[]) (es := #[(⟨.int .u8 1, .func (.func 138) #[] #[], 0⟩ : MapEntry), (⟨.int .u8 2, .func (.func 139) #[] #[], 1⟩ : MapEntry), (⟨.int .u8 3, .func (.func 141) #[] #[], 2⟩ : MapEntry)]) (n := 3) w Try.underlying134 Try.underlying54 (by simp [IsKey]) rfl
  have p4 := run_put_alloc (P := Try.prog) (t := 134) (k := .int .u8 5) (v := .func (.func 143) #[] #[]) (es := #[(⟨.int .u8 1, .func (.func 138) #[] #[], 0⟩ : MapEntry), (⟨.int .u8 2, .func (.func 139) #[] #[], 1⟩ : MapEntry), (⟨.int .u8 3, .func (.func 141) #[] #[], 2⟩ : MapEntry), (⟨.int .u8 4, .func (.func 142) #[] #[], 3⟩ : MapEntry)]) (n := 4) w Try.underlying134 Try.underlying54 (by simp [IsKey]) rfl
  have p5 := run_put_alloc (P := Try.prog) (t := 134) (k := .int .u8 6) (v := .func (.func 144) #[] #[]) (es := #[(⟨.int .u8 1, .func (.func 138) #[] #[], 0⟩ : MapEntry), (⟨.int .u8 2, .func (.func 139) #[] #[], 1⟩ : MapEntry), (⟨.int .u8 3, .func (.func 141) #[] #[], 2⟩ : MapEntry), (⟨.int .u8 4, .func (.func 142) #[] #[], 3⟩ : MapEntry), (⟨.int .u8 5, .func (.func 143) #[] #[], 4⟩ : MapEntry)]) (n := 5) w Try.underlying134 Try.underlying54 (by simp [IsKey]) rfl
  have p6 := run_put_alloc (P := Try.prog) (t := 134) (k := .int .u8 7) (v := .func (.func 146) #[] #[]) (es := #[(⟨.int .u8 1, .func (.func 138) #[] #[], 0⟩ : MapEntry), (⟨.int .u8 2, .func (.func 139) #[] #[], 1⟩ : MapEntry), (⟨.int .u8 3, .func (.func 141) #[] #[], 2⟩ : MapEntry), (⟨.int .u8 4, .func (.func 142) #[] #[], 3⟩ : MapEntry), (⟨.int .u8 5, .func (.func 143) #[] #[], 4⟩ : MapEntry), (⟨.int .u8 6, .func (.func 144) #[] #[], 5⟩ : MapEntry)]) (n := 6) w Try.underlying134 Try.underlying54 (by simp [IsKey]) rfl
  have p7 := run_put_alloc (P := Try.prog) (t := 134) (k := .int .u8 8) (v := .func (.func 147) #[] #[]) (es := #[(⟨.int .u8 1, .func (.func 138) #[] #[], 0⟩ : MapEntry), (⟨.int .u8 2, .func (.func 139) #[] #[], 1⟩ : MapEntry), (⟨.int .u8 3, .func (.func 141) #[] #[], 2⟩ : MapEntry), (⟨.int .u8 4, .func (.func 142) #[] #[], 3⟩ : MapEntry), (⟨.int .u8 5, .func (.func 143) #[] #[], 4⟩ : MapEntry), (⟨.int .u8 6, .func (.func 144) #[] #[], 5⟩ : MapEntry), (⟨.int .u8 7, .func (.func 146) #[] #[], 6⟩ : MapEntry)]) (n := 7) w Try.underlying134 Try.underlying54 (by simp [IsKey]) rfl
  have p8 := run_put_alloc (P := Try.prog) (t := 134) (k := .int .u8 9) (v := .func (.func 148) #[] #[]) (es := #[(⟨.int .u8 1, .func (.func 138) #[] #[], 0⟩ : MapEntry), (⟨.int .u8 2, .func (.func 139) #[] #[], 1⟩ : MapEntry), (⟨.int .u8 3, .func (.func 141) #[] #[], 2⟩ : MapEntry), (⟨.int .u8 4, .func (.func 142) #[] #[], 3⟩ : MapEntry), (⟨.int .u8 5, .func (.func 143) #[] #[], 4⟩ : MapEntry), (⟨.int .u8 6, .func (.func 144) #[] #[], 5⟩ : MapEntry), (⟨.int .u8 7, .func (.func 146) #[] #[], 6⟩ : MapEntry), (⟨.int .u8 8, .func (.func 147) #[] #[], 7⟩ : MapEntry)]) (n := 8) w Try.underlying134 Try.underlying54 (by simp [IsKey]) rfl
  simp only [List.push_toArray, List.nil_append, List.cons_append, Nat.reduceAdd] at p0 p1 p2 p3 p4 p5 p6 p7 p8
  go_enter Try.func117, Try.ntmps117
  go_wp2_with fail
  go_ret
  exact ⟨rfl, rfl⟩

theorem makes1_any (s : ByteArray) (w : World) : Calls Try.prog 156 #[.string s] w fun e w' => e = .returned (.bool (!mayN s)) ∧ Below w.heap.size w w' := by
  go_enter Try.func156, Try.ntmps156
  go_wp2_with (go_at_call 38; refine (mayName_any s _).mono ?_; rintro e w' ⟨rfl, hb⟩)
  go_ret
  exact ⟨rfl, hb⟩
end Go.Proofs.Ytnknefdpglnbnaa
