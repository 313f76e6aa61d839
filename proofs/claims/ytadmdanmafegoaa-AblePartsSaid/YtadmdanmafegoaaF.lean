/- The walk of the law AbleBack: for every byte and every text it returns true. -/
import Derived.Test.YtadmdanmafegoaaE
namespace Go.Proofs.Ytadmdanmafegoaa
open Go.RowKit
theorem back_read : ∀ a : Fin 64, readA ⟨(txtL a).toArray⟩ = a ∧ readB ⟨(txtL a).toArray⟩ = true := by decide +kernel
theorem read_back (s : ByteArray) (h : readB s = true) : readA s < 64 ∧ (txtL (readA s) == s.toList) = true := by
  unfold readB at h
  obtain ⟨k, hk⟩ := Option.isSome_iff_exists.1 h
  have e : readA s = k := by simp [readA, hk]
  rw [e]
  unfold readTo at hk
  exact ⟨List.mem_range.1 (List.mem_of_find?_eq_some hk), List.find?_some (p := fun a => txtL a == s.toList) hk⟩
theorem read_not (s : ByteArray) (h : readB s = false) : readA s = 0 := by
  unfold readB at h
  unfold readA
  cases hk : readTo s 64 with
  | none => rfl
  | some k => rw [hk] at h; cases h
theorem textI (x : Int) (a : Nat) (hx : x = a) (ha : a < 64) (w : World) :
    Calls Try.prog 13 #[.int .u8 x] w fun e w' => e = .returned (.tuple #[.string ⟨(txtL a).toArray⟩, .int .i64 0]) ∧ Below w.heap.size w w' := by
  subst hx
  have hm : mayB a = true := by simpa [mayB] using ha
  refine (text_any a (by omega) w).mono fun e w' ⟨h1, h2⟩ => ⟨?_, h2⟩
  rw [h1]; simp [txtR, hm, errN]
set_option maxHeartbeats 1000000 in
theorem back_law (a : Nat) (ha : a < 256) (s : ByteArray) (w : World) : Calls Try.prog 5 #[.int .u8 a, .string s] w fun e w' => e = .returned (.bool true) ∧ Below w.heap.size w w' := by
  have hr := back_read ⟨a % 64, Nat.mod_lt _ (by omega)⟩
  have e0 : errN true 10 = 0 := rfl
  have e1 : errN false 10 = 10 := rfl
  cases hb : readB s
  · have Hb := Lib.hid hb
    have H0 := Lib.hid (read_not s hb)
    clear hb
    go_enter Try.func5, Try.ntmps5
    go_wp2_with fail
    refine (textI _ (a % 64) (by omega) (Nat.mod_lt _ (by omega)) _).mono ?_
    rintro e w1 ⟨rfl, hb1⟩
    go_wp2_with fail
    refine (read_any _ _).mono ?_
    rintro e w2 ⟨rfl, hb2⟩
    rw [hr.1, hr.2]
    go_wp2_with fail
    refine (read_any s _).mono ?_
    rintro e w3 ⟨rfl, hb3⟩
    rw [Hb.out, H0.out]
    go_wp2_with (go_at_call 12; refine (lives_any _).mono ?_; rintro e w' ⟨rfl, hb4⟩)
    go_ret
    exact ⟨rfl, ((hb1.trans (hb2.mono hb1.size)).trans (hb3.mono (Nat.le_trans hb1.size hb2.size))).trans (hb4.mono (Nat.le_trans hb1.size (Nat.le_trans hb2.size hb3.size)))⟩
  · have Hb := Lib.hid hb
    obtain ⟨h1, h2⟩ := read_back s hb
    clear hb
    go_enter Try.func5, Try.ntmps5
    go_wp2_with fail
    refine (textI _ (a % 64) (by omega) (Nat.mod_lt _ (by omega)) _).mono ?_
    rintro e w1 ⟨rfl, hb1⟩
    go_wp2_with fail
    refine (read_any _ _).mono ?_
    rintro e w2 ⟨rfl, hb2⟩
    rw [hr.1, hr.2]
    go_wp2_with fail
    refine (read_any s _).mono ?_
    rintro e w3 ⟨rfl, hb3⟩
    rw [Hb.out]
    go_wp2_with fail
    refine (textI _ (readA s) rfl h1 _).mono ?_
    rintro e w4 ⟨rfl, hb4⟩
    go_wp2_with (go_at_call 12; refine (lives_any _).mono ?_; rintro e w' ⟨rfl, hb5⟩)
    go_ret
    exact ⟨rfl, (((hb1.trans (hb2.mono hb1.size)).trans (hb3.mono (Nat.le_trans hb1.size hb2.size))).trans (hb4.mono (Nat.le_trans hb1.size (Nat.le_trans hb2.size hb3.size)))).trans (hb5.mono (Nat.le_trans hb1.size (Nat.le_trans hb2.size (Nat.le_trans hb3.size hb4.size))))⟩
end Go.Proofs.Ytadmdanmafegoaa
