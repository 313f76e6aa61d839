/- Contracts of the reference's Each and Within (new slices) and of able.Within (an iterator), for every byte. -/
import Derived.Test.YtadmdanmafegoaaH
namespace Go.Proofs.Ytadmdanmafegoaa
open Go.RowKit

theorem cell_one (w : World) (x : Value) : ∀ (j : Nat) u, ([x] : List Value)[j]? = some u → (w.alloc (.cells #[x] 22)).cell? ((⟨w.heap.size, 0, Option.none⟩ : Addr).add j) = some u := cell_one_new w x 22
/-- v is a slice of the call's own from B on that holds the bytes xs. -/
def OwnU8 (B : Nat) (w : World) (v : Value) (xs : List Nat) : Prop := w.ownsRow B 22 1 v xs.length (u8s xs) ∧ ∀ x ∈ xs, x < 256
theorem own_u8 {B : Nat} {w : World} {v : Value} {xs : List Nat} (h : OwnU8 B w v xs) (hl : xs.length ≤ 140737488355328) : IsU8 w v xs := by
  obtain ⟨⟨h1, h2⟩, h3⟩ := h
  refine ⟨h3, hl, ?_⟩
  rcases h2 with ⟨rfl, h0⟩ | ⟨g, cap, cur, rfl, hg, hc, h4, h5, h6, h7⟩
  · exact .inl ⟨List.eq_nil_of_length_eq_zero h0, _, _, rfl, fun _ => rfl⟩
  · refine .inr ⟨g, 0, cap, rfl, fun j hj => ?_⟩
    have hcc := World.ownsRow.cells (w := w) (base := B) (e := 22) (size := 1) (v := .slice (some ⟨g, 0, Option.none⟩) xs.length cap) (n := xs.length) (xs := u8s xs) ⟨h1, .inr ⟨g, cap, cur, rfl, hg, hc, h4, h5, h6, h7⟩⟩ (g := g) rfl j (.int .u8 (xs.getD j 0 : Nat)) (by
      unfold u8s; rw [List.getElem?_map, List.getElem?_eq_getElem hj, List.getD_eq_getElem?_getD, List.getElem?_eq_getElem hj]; rfl)
    rwa [addr_add2] at hcc
def eachN (a k : Nat) : List Nat := (eachTo a k).map (fun j : Fin 6 => bitN j.val)
theorem eachN_succ (a k : Nat) (hk : k < 6) : eachN a (k + 1) = eachN a k ++ (if a.testBit k then [bitN k] else []) := by
  unfold eachN; rw [eachTo_succ a k hk, List.map_append]; cases a.testBit k <;> rfl
theorem eachN_le (a k : Nat) : (eachN a k).length ≤ k := by unfold eachN; rw [List.length_map]; exact eachTo_le a k
theorem eachN_bd (a k : Nat) : ∀ x ∈ eachN a k, x < 256 := by
  intro x hx
  obtain ⟨j, _, rfl⟩ := List.mem_map.1 hx
  have := (pow6 j).2
  omega
set_option maxHeartbeats 1000000 in
theorem reach_any (a : Nat) (ha : a < 256) (w : World) :
    Calls Try.prog 34 #[.int .u8 a] w fun e w' => ∃ v, e = .returned v ∧ OwnU8 w.heap.size w' v (eachN a 6) ∧ Below w.heap.size w w' := by
  obtain ⟨i0, hi, hz0, hz1, hz2⟩ := info_parts Try.info22
  go_enter Try.func34, Try.ntmps34
  go_wp2
  go_loopw [3, 4] (fun v i wr => ∃ k : Nat, k ≤ 6 ∧ i = .int .i64 k ∧ wr.ownsRow w.heap.size 22 1 v (eachN a k).length (u8s (eachN a k)) ∧ Below w.heap.size w wr) (fun _ i _ => 6 - (intOf i).toNat)
  case atStart => exact ⟨0, by omega, rfl, World.ownsRow_nil _ _ _ _, Below.refl _ _⟩
  case round =>
    obtain ⟨k, hk, rfl, hrow, hB⟩ := hrel
    by_cases hlt : k < 6
    · have Hs := Lib.hid (eachN_succ a k hlt)
      have hle := eachN_le a k
      have hsz := hB.size
      cases hx : a.testBit k
      · have Hx := Lib.hid hx
        go_wp2_with (go_at_call 43; refine (in_any _ k (by assumption) hlt _).mono ?_; rintro e w' ⟨rfl, rfl⟩)
        go_roundw
        case rel => exact ⟨k + 1, by omega, by go_num, by rw [Hs.out, Hx.out]; simpa using hrow, hB⟩
        case measure => simp [intOf]; omega
      · have Hx := Lib.hid hx
        go_wp2_with (first | (go_at_call 43; refine (in_any _ k (by assumption) hlt _).mono ?_; rintro e w' ⟨rfl, rfl⟩) | (go_at_call 41; refine (bit_any _ k rfl hlt _).mono ?_; rintro e w' ⟨rfl, rfl⟩) | (at_builtin; refine wpList_append_own _ rfl _ _ 33 rfl w.heap.size 22 i0 (.int .u8 0) 1 1 Try.underlying33 hi hz0 hz1 hz2 rfl (by decide) _ _ _ rfl (hrow.alloc _) ⟨_, 0, Option.none⟩ 1 1 [.int .u8 (bitN k)] rfl rfl (cell_one _ _) (by simp [Value.oneCell']) (by unfold maxLen; omega) (by omega) (by simp; omega) ?_; intro v1 w1 hown1 hgrow1 hnil1; clear hnil1))
        go_roundw
        case rel => exact ⟨k + 1, by omega, by go_num, by rw [Hs.out, Hx.out]; simpa [u8s] using hown1, (hB.alloc hsz _).grown hgrow1 (by simp; omega) (fun k e => (hrow.lt k e).1)⟩
        case measure => simp [intOf]; omega
    · obtain rfl : k = 6 := by omega
      go_wp2
      go_ret
      exact ⟨_, rfl, ⟨hrow, eachN_bd a 6⟩, hB⟩

def withinTo (a k : Nat) : List Nat := (List.range k).filter (hasB a)
theorem withinTo_succ (a k : Nat) : withinTo a (k + 1) = withinTo a k ++ (if hasB a k then [k] else []) := by
  unfold withinTo; rw [List.range_succ, List.filter_append]; cases h : hasB a k <;> simp [h]
theorem withinTo_le (a k : Nat) : (withinTo a k).length ≤ k := by unfold withinTo; exact Nat.le_trans (List.length_filter_le _ _) (by simp)
theorem withinTo_bd (a k : Nat) (hk : k ≤ 64) : ∀ x ∈ withinTo a k, x < 256 := by
  intro x hx
  have := List.mem_range.1 (List.mem_filter.1 hx).1
  omega
set_option maxHeartbeats 1000000 in
theorem rwithin_any (a : Nat) (ha : a < 256) (w : World) :
    Calls Try.prog 35 #[.int .u8 a] w fun e w' => ∃ v, e = .returned v ∧ OwnU8 w.heap.size w' v (withinTo a 64) ∧ Below w.heap.size w w' := by
  obtain ⟨i0, hi, hz0, hz1, hz2⟩ := info_parts Try.info22
  go_enter Try.func35, Try.ntmps35
  go_wp2
  go_loopw [3, 4] (fun v i wr => ∃ k : Nat, k ≤ 64 ∧ i = .int .u8 k ∧ wr.ownsRow w.heap.size 22 1 v (withinTo a k).length (u8s (withinTo a k)) ∧ Below w.heap.size w wr) (fun _ i _ => 64 - (intOf i).toNat)
  case atStart => exact ⟨0, by omega, rfl, World.ownsRow_nil _ _ _ _, Below.refl _ _⟩
  case round =>
    obtain ⟨k, hk, rfl, hrow, hB⟩ := hrel
    by_cases hlt : k < 64
    · have Hs := Lib.hid (withinTo_succ a k)
      have hle := withinTo_le a k
      have hsz := hB.size
      cases hx : hasB a k
      · have Hx := Lib.hid hx
        go_wp2_with (go_at_call 32; refine (rhas_any a k ha (by omega) _).mono ?_; rintro e w' ⟨rfl, rfl⟩)
        go_roundw
        case rel => exact ⟨k + 1, by omega, by go_num, by rw [Hs.out, Hx.out]; simpa using hrow, hB⟩
        case measure => simp [intOf]; omega
      · have Hx := Lib.hid hx
        go_wp2_with (first | (go_at_call 32; refine (rhas_any a k ha (by omega) _).mono ?_; rintro e w' ⟨rfl, rfl⟩) | (at_builtin; refine wpList_append_own _ rfl _ _ 33 rfl w.heap.size 22 i0 (.int .u8 0) 1 1 Try.underlying33 hi hz0 hz1 hz2 rfl (by decide) _ _ _ rfl (hrow.alloc _) ⟨_, 0, Option.none⟩ 1 1 [.int .u8 k] rfl rfl (cell_one _ _) (by simp [Value.oneCell']) (by unfold maxLen; omega) (by omega) (by simp; omega) ?_; intro v1 w1 hown1 hgrow1 hnil1; clear hnil1))
        go_roundw
        case rel => exact ⟨k + 1, by omega, by go_num, by rw [Hs.out, Hx.out]; simpa [u8s] using hown1, (hB.alloc hsz _).grown hgrow1 (by simp; omega) (fun k e => (hrow.lt k e).1)⟩
        case measure => simp [intOf]; omega
    · obtain rfl : k = 64 := by omega
      go_wp2
      go_ret
      exact ⟨_, rfl, ⟨hrow, withinTo_bd a 64 (by omega)⟩, hB⟩
end Go.Proofs.Ytadmdanmafegoaa
