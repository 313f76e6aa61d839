/- The document's Unquote. -/
import Derived.Test.YtkhpfghehjcfoaaDoorVc
import Derived.Test.YtkhpfghehjcfoaaDoorJ
namespace Go.Proofs.YtkhpfghehjcfoaaDoor
open Go.RowKit

theorem below_upd {w V w' : World} {p : Nat} (hp : p = w.heap.size) (h : Below p w V) (hu : Upd p V w') : Below w.heap.size w w' :=
  ⟨hu.os.trans h.os, hu.tape.trans h.tape, hu.output.trans h.output, Nat.le_trans h.size hu.size, fun k hk => by
    subst hp
    by_cases hv : k < V.heap.size
    · exact (hu.block k hv (by omega)).trans (h.block k hk)
    · have := h.size; omega⟩
set_option maxRecDepth 100000 in
set_option maxHeartbeats 2000000 in
theorem runquote_any (s : ByteArray) (hs : s.size ≤ 140737488351232) (w : World) : Calls Tryd.prog 17 #[.string s] w fun e w' => Below w.heap.size w w' ∧ UnqP s e := by
  go_enter Tryd.func17, Tryd.ntmps17
  go_upto_region 2 with fail
  obtain ⟨p, hp⟩ : ∃ p, p = w.heap.size := ⟨_, rfl⟩
  obtain ⟨V, hV⟩ : ∃ V, V = w.alloc (.cells #[.string s, .int .i64 0, .bool false, .int .i64 0] 81) := ⟨_, rfl⟩
  have HR : Hid (RRd V p s 0 false 0) := Lib.hid (by rw [hV]; exact BlkN.at_ hp 81 _)
  have HB : Hid (Below p w V) := Lib.hid (by rw [hV, hp]; exact (Below.refl _ w).alloc (Nat.le_refl _) _)
  rw [← hV, ← hp]
  have hpw := Lib.hid hp
  clear hV hp
  have CN := rquoted_any s.size s 0 0 V p HR.out (by omega) hs (Nat.le_refl _)
  have HPW : Hid (p = w.heap.size) := hpw
  cases hE : quo s.size (rest s 0) with
  | no t =>
    rw [hE] at CN
    have HCN := Lib.hid CN
    have HE := Lib.hid hE
    clear CN hE hpw
    go_wp2_with (first | (go_at_call 45; refine HCN.out.mono ?_; rintro e w3 ⟨hu3, j, hij, hj, rfl, rfl, hr3⟩; have c2 := hr3.cell 2 rfl; have c1 := hr3.cell 1 rfl; have hp3 := hr3.lt; have HU3 := Lib.hid hu3; clear hu3 hr3))
    go_quiet (fail)
    go_wp2_with fail
    go_ret3
    refine ⟨belowN (below_upd HPW.out HB.out HU3.out) _, ?_⟩
    unfold UnqP unqL
    rw [show s.data.toList = rest s 0 from rfl, HE.out]
    show Ending.returned _ = Ending.returned _
    rw [rest_len, show s.size - (s.size - j) = j by omega]
    rfl
  | ok b t =>
    rw [hE] at CN
    have HCN := Lib.hid CN
    have HE := Lib.hid hE
    clear CN hE hpw
    go_upto_region 3 with (first | (go_at_call 45; refine HCN.out.mono ?_; rintro e w3 ⟨hu3, j, hij, hj, rfl, rfl, hr3⟩; have c2 := hr3.cell 2 rfl; have c1 := hr3.cell 1 rfl; have hp3 := hr3.lt; have HU3 := Lib.hid hu3; clear hu3 hr3))
    by_cases hjl : j < s.size
    · have hb : decide ((j : Int) < s.size) = true := decide_eq_true (by omega)
      go_wp2_with fail
      go_quiet (fail)
      go_wp2_with fail
      go_ret3
      refine ⟨belowN (below_upd HPW.out HB.out HU3.out) _, ?_⟩
      unfold UnqP unqL
      rw [show s.data.toList = rest s 0 from rfl, HE.out, rest_cons hjl]
      show Ending.returned _ = Ending.returned _
      rw [← rest_cons hjl, rest_len, show s.size - (s.size - j) = j by omega]
      rfl
    · have hb : decide ((j : Int) < s.size) = false := decide_eq_false (by omega)
      go_wp2_with fail
      go_ret3
      refine ⟨below_upd HPW.out HB.out HU3.out, ?_⟩
      unfold UnqP unqL
      rw [show s.data.toList = rest s 0 from rfl, HE.out, rest_end (by omega)]
      rfl
end Go.Proofs.YtkhpfghehjcfoaaDoor
