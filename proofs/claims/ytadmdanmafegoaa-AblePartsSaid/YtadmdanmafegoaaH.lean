/- Contracts of the law's lent and kept; the walk of the law AbleSets, for every two bytes and every slice of bytes. -/
import Derived.Test.YtadmdanmafegoaaF
import Derived.Deep.QuietTactic
import Derived.BigQuiet
namespace Go.Proofs.Ytadmdanmafegoaa
open Go.RowKit

theorem Try.info22 : (Try.prog.info? 22).map (fun i => (i.zero, i.size, i.bytes)) = some (some (.int .u8 0), 1, 1) := by kernel_rfl
def u8s (xs : List Nat) : List Value := xs.map (fun x : Nat => Value.int .u8 x)
/-- x is the slice of xs, in new memory from B on, with 77 and 78 behind it. -/
def IsLent (B : Nat) (w : World) (x : Value) (xs : List Nat) : Prop :=
  ∃ g cap, x = .slice (some ⟨g, 0, Option.none⟩) xs.length cap ∧ xs.length + 2 ≤ cap ∧ w.ownsRow B 22 1 (.slice (some ⟨g, 0, Option.none⟩) (xs.length + 2) cap) (xs.length + 2) (u8s (xs ++ [77, 78]))
theorem addr_add2 (b o j : Nat) : (⟨b, o, Option.none⟩ : Addr).add j = ⟨b, o + j, Option.none⟩ := by
  unfold Addr.add; split
  · rename_i h; subst h; rfl
  · rfl
theorem cell_two (w : World) : ∀ (j : Nat) u, ([Value.int .u8 77, .int .u8 78] : List Value)[j]? = some u → (w.alloc (.cells #[.int .u8 77, .int .u8 78] 22)).cell? ((⟨w.heap.size, 0, Option.none⟩ : Addr).add j) = some u := by
  intro j u hj
  rw [addr_add2]
  match j, hj with
  | 0, hj => simp at hj; simp [hj]
  | 1, hj => simp at hj; simp [hj]
  | j + 2, hj => simp at hj
theorem ownsRow_two {W : World} {base : Nat} {e : TypeId} {size : Nat} {v : Value} {k : Nat} {xs : List Value} (h : W.ownsRow base e size v (k + 2) xs) : ∃ g cap, v = .slice (some ⟨g, 0, Option.none⟩) (k + 2) cap := by
  rcases h.2 with ⟨_, h0⟩ | ⟨g, cap, _, rfl, _⟩
  · omega
  · exact ⟨g, cap, rfl⟩
theorem ownsRow_cap {W : World} {base : Nat} {e : TypeId} {size : Nat} {a : Addr} {n cap k : Nat} {xs : List Value} (h : W.ownsRow base e size (.slice (some a) n cap) k xs) : k ≤ cap ∧ cap ≤ maxLen := by
  rcases h.2 with ⟨h0, _⟩ | ⟨g, cap', _, he, _, _, h1, h2, _⟩
  · cases h0
  · cases he; exact ⟨h1, h2⟩
theorem u8s_len (xs : List Nat) : (u8s xs).length = xs.length := by simp [u8s]
set_option maxHeartbeats 1000000 in
theorem lent_any (v : Value) (xs : List Nat) (w : World) (h : IsU8 w v xs) (hlen : xs.length ≤ 140737488351232) :
    Calls Try.prog 14 #[v] w fun e w' => ∃ x, e = .returned x ∧ IsLent w.heap.size w' x xs ∧ Below w.heap.size w w' := by
  obtain ⟨i0, hi, hz0, hz1, hz2⟩ := info_parts Try.info22
  obtain ⟨h1, h2, h3⟩ := h
  have hB := Below.refl w.heap.size w
  have hu := u8s_len xs
  have hone : ∀ u ∈ u8s xs, u.oneCell' = true := by
    intro u hu; obtain ⟨x, _, rfl⟩ := List.mem_map.1 hu; rfl
  have h4 : (xs = [] ∧ v = .slice Option.none 0 0) ∨ ∃ ad cap, v = .slice (some ad) xs.length cap ∧ ∀ (j : Nat) u, (u8s xs)[j]? = some u → w.cell? (ad.add j) = some u := by
    rcases h3 with ⟨rfl, a, cap, rfl, hcap⟩ | ⟨b, o, cap, rfl, hc⟩
    · cases a with
      | none => exact .inl ⟨rfl, by rw [hcap rfl]⟩
      | some a => exact .inr ⟨a, cap, rfl, fun j u hj => by simp [u8s] at hj⟩
    · refine .inr ⟨_, cap, rfl, ?_⟩
      intro j u hj
      rw [addr_add2]
      unfold u8s at hj
      rw [List.getElem?_map] at hj
      cases hx : xs[j]? with
      | none => rw [hx] at hj; cases hj
      | some x =>
        rw [hx] at hj
        have hlt : j < xs.length := (List.getElem?_eq_some_iff.1 hx).1
        have hgd : xs.getD j 0 = x := by rw [List.getD_eq_getElem?_getD, hx]; rfl
        simp only [Option.map_some, Option.some.injEq] at hj
        rw [hc j hlt, hgd, ← hj]
  clear h3
  rcases h4 with ⟨rfl, rfl⟩ | ⟨ad, cap, rfl, hcells⟩
  · go_enter Try.func14, Try.ntmps14
    go_wp2_with (first | (at_builtin; refine wpList_append_own_none rfl (.const (.slice Option.none 0 0)) (.tmp 3) 33 rfl w.heap.size 22 i0 1 Try.underlying33 hi _ _ _ rfl (World.ownsRow_nil _ _ _ _) rfl ?_) | (at_builtin; refine wpList_append_own _ rfl (.tmp 4) (.tmp 5) 33 rfl w.heap.size 22 i0 (.int .u8 0) 1 1 Try.underlying33 hi hz0 hz1 hz2 rfl (by decide) _ _ _ rfl (World.ownsRow_nil _ _ _ _) ⟨w.heap.size, 0, Option.none⟩ 2 2 [.int .u8 77, .int .u8 78] rfl rfl (cell_two _) (by simp [Value.oneCell']) (by unfold maxLen; omega) (by omega) (by simp) ?_; intro v2 w2 hown2 hgrow2 hnil2; clear hnil2; obtain ⟨g, cap2, rfl⟩ := ownsRow_two hown2; have hcap := ownsRow_cap hown2))
    go_ret
    exact ⟨_, rfl, ⟨g, cap2, rfl, hcap.1, hown2⟩, ((Below.refl _ _).alloc (Nat.le_refl _) _).grown hgrow2 (by simp) (fun k e => by cases e)⟩
  · obtain ⟨n, hn⟩ : ∃ n, n = xs.length := ⟨_, rfl⟩
    have Hn := Lib.hid hn
    have HC := Lib.hid hcells
    have HO := Lib.hid hone
    have HU : Hid ((u8s xs).length = n * 1) := Lib.hid (by rw [hu, hn]; omega)
    rw [← hn] at hlen ⊢
    clear hn h1 h2 hcells hone hu
    go_enter Try.func14, Try.ntmps14
    go_wp2_with (first | (at_builtin; refine wpList_append_own _ rfl (.const (.slice Option.none 0 0)) (.tmp 3) 33 rfl w.heap.size 22 i0 (.int .u8 0) 1 1 Try.underlying33 hi hz0 hz1 hz2 rfl (by decide) _ _ _ rfl (World.ownsRow_nil _ _ _ _) ad n cap (u8s xs) rfl HU.out HC.out HO.out (by unfold maxLen; omega) (by omega) (Nat.le_refl _) ?_; intro v1 w1 hown1 hgrow1 hnil1; clear hnil1; simp only [Nat.zero_add, List.nil_append] at hown1; have hB1 := hB.grown hgrow1 (Nat.le_refl _) (fun k e => by cases e); have hs1 := hB1.size) | (at_builtin; refine wpList_append_own _ rfl (.tmp 4) (.tmp 5) 33 rfl w.heap.size 22 i0 (.int .u8 0) 1 1 Try.underlying33 hi hz0 hz1 hz2 rfl (by decide) _ _ _ rfl (hown1.alloc _) ⟨w1.heap.size, 0, Option.none⟩ 2 2 [.int .u8 77, .int .u8 78] rfl rfl (cell_two _) (by simp [Value.oneCell']) (by unfold maxLen; omega) (by omega) (by simp; omega) ?_; intro v2 w2 hown2 hgrow2 hnil2; clear hnil2; obtain ⟨g, cap2, rfl⟩ := ownsRow_two hown2; have hcap := ownsRow_cap hown2))
    go_ret
    refine ⟨_, rfl, ⟨g, cap2, by rw [Hn.out]; rfl, by rw [← Hn.out]; exact hcap.1, ?_⟩, ?_⟩
    · rw [← Hn.out]
      have e : u8s (xs ++ [77, 78]) = u8s xs ++ [.int .u8 77, .int .u8 78] := by simp [u8s]
      rw [e]; exact hown2
    · exact (hB1.alloc (by omega) _).grown hgrow2 (by simp; omega) (fun k e => (hown1.lt k e).1)

theorem lent_cells {B : Nat} {w : World} {g cap : Nat} {xs : List Nat} (h : w.ownsRow B 22 1 (.slice (some ⟨g, 0, Option.none⟩) (xs.length + 2) cap) (xs.length + 2) (u8s (xs ++ [77, 78]))) :
    (∀ j, j < xs.length → w.cell? ⟨g, j, Option.none⟩ = some (.int .u8 (xs.getD j 0 : Nat))) ∧ w.cell? ⟨g, xs.length, Option.none⟩ = some (.int .u8 77) ∧ w.cell? ⟨g, xs.length + 1, Option.none⟩ = some (.int .u8 78) := by
  have hc := h.cells (g := g) rfl
  have key : ∀ j x, (xs ++ [77, 78])[j]? = some x → w.cell? ⟨g, j, Option.none⟩ = some (.int .u8 (x : Nat)) := by
    intro j x hj
    have := hc j (.int .u8 (x : Nat)) (by unfold u8s; rw [List.getElem?_map, hj]; rfl)
    rwa [addr_add2, Nat.zero_add] at this
  refine ⟨fun j hj => key j _ ?_, key _ 77 (by simp), key _ 78 (by simp)⟩
  rw [List.getElem?_append_left hj, List.getElem?_eq_getElem hj, List.getD_eq_getElem?_getD, List.getElem?_eq_getElem hj]; rfl
set_option maxHeartbeats 1000000 in
theorem kept_any {B : Nat} (x v : Value) (xs : List Nat) (w : World) (hx : IsLent B w x xs) (h : IsU8 w v xs) (hlen : xs.length ≤ 140737488351232) :
    Calls Try.prog 28 #[x, v] w fun e w' => e = .returned (.bool true) ∧ Below w.heap.size w w' := by
  obtain ⟨g, capx, rfl, hcapx, hrow⟩ := hx
  obtain ⟨c1, c2, c3⟩ := lent_cells hrow
  have hmax := (ownsRow_cap hrow).2
  obtain ⟨h1, h2, h3⟩ := h
  obtain ⟨n, hn⟩ : ∃ n, n = xs.length := ⟨_, rfl⟩
  obtain ⟨a, cap, rfl, hc⟩ : ∃ a cap, v = .slice a n cap ∧ ∀ j, j < n → ∃ b o, a = some ⟨b, o, Option.none⟩ ∧ w.cell? ⟨b, o + j, Option.none⟩ = some (.int .u8 (xs.getD j 0 : Nat)) := by
    rcases h3 with ⟨rfl, a, cap, rfl, _⟩ | ⟨b, o, cap, rfl, hc⟩
    · exact ⟨_, _, by rw [hn]; rfl, fun j hj => absurd hj (by rw [hn]; simp)⟩
    · exact ⟨_, cap, by rw [hn], fun j hj => ⟨b, o, rfl, hc j (by omega)⟩⟩
  have Hn := Lib.hid hn
  rw [← hn] at hlen c1 c2 c3 hcapx ⊢
  have HC := Lib.hid hc
  have HC1 := Lib.hid c1
  have hB := Below.refl w.heap.size w
  clear hn h1 h2 h3 hc c1 hrow
  unfold maxLen at hmax
  go_enter Try.func28, Try.ntmps28
  go_wp2
  go_loopw [5] (fun i wr => ∃ k : Nat, k ≤ n ∧ i = .int .i64 k ∧ ∃ nq, wr = w.drewN nq) (fun i _ => n - (intOf i).toNat)
  case atStart => exact ⟨0, by omega, rfl, 0, rfl⟩
  case round =>
    obtain ⟨k, hk, rfl, nq, rfl⟩ := hrel
    by_cases hlt : k < n
    · obtain ⟨b, o, rfl, hcell⟩ := HC.out k hlt
      have hcell2 := HC1.out k hlt
      obtain ⟨y, hy⟩ : ∃ y, y = xs.getD k 0 := ⟨_, rfl⟩
      rw [← hy] at hcell hcell2
      clear hy
      go_wp2
      go_quiet (fail)
      go_wp2
      go_roundw
      case rel => exact ⟨k + 1, by omega, by go_num, _, rfl⟩
      case measure => simp [intOf]; omega
    · obtain rfl : k = n := by omega
      go_wp2
      go_ret
      exact ⟨rfl, below_drewN hB nq⟩

theorem ownsRow_below {w w' : World} {base : Nat} {e : TypeId} {size : Nat} {v : Value} {n : Nat} {xs : List Value} (h : w.ownsRow base e size v n xs) (hb : Below w.heap.size w w') : w'.ownsRow base e size v n xs := by
  obtain ⟨h1, h2⟩ := h
  refine ⟨h1, h2.imp id ?_⟩
  rintro ⟨g, cap, cur, hv, hg, hc, h3⟩
  exact ⟨g, cap, cur, hv, hg, (hb.block g (Array.getElem?_eq_some_iff.1 hc).1).trans hc, h3⟩
/-- What the law carries: the argument and what was lent. -/
def SetSt (B : Nat) (w0 : World) (v x : Value) (xs : List Nat) (W : World) : Prop := Below B w0 W ∧ B ≤ W.heap.size ∧ IsU8 W v xs ∧ IsLent B W x xs
theorem SetSt.next {B : Nat} {w0 : World} {v x : Value} {xs : List Nat} {W W' : World} (h : SetSt B w0 v x xs W) (hb : Below W.heap.size W W') : SetSt B w0 v x xs W' := by
  obtain ⟨h1, h2, h3, g, cap, h4, h5, h6⟩ := h
  exact ⟨h1.trans (hb.mono h2), Nat.le_trans h2 hb.size, h3.below hb, g, cap, h4, h5, ownsRow_below h6 hb⟩
theorem lent_u8 {B : Nat} {w : World} {x : Value} {xs : List Nat} (h : IsLent B w x xs) (hb : ∀ y ∈ xs, y < 256) (hl : xs.length ≤ 140737488355328) : IsU8 w x xs := by
  obtain ⟨g, cap, rfl, _, hrow⟩ := h
  obtain ⟨c1, _, _⟩ := lent_cells hrow
  exact ⟨hb, hl, .inr ⟨g, 0, cap, rfl, fun j hj => by rw [Nat.zero_add]; exact c1 j hj⟩⟩
theorem txtR_yes {a : Nat} (h : mayB a = true) : txtR a = txtL a := by simp [txtR, h]
theorem txtR_no {a : Nat} (h : mayB a = false) : txtR a = [] := by simp [txtR, h]
set_option maxRecDepth 100000 in
set_option maxHeartbeats 2000000 in
theorem sets_law (a b : Nat) (ha : a < 256) (hb : b < 256) (v : Value) (xs : List Nat) (w : World) (h : IsU8 w v xs) (hlen : xs.length ≤ 140737488351232) :
    Calls Try.prog 6 #[.int .u8 a, .int .u8 b, v] w fun e w' => e = .returned (.bool true) ∧ Below w.heap.size w w' := by
  have hcase : (mayB a = false ∧ oneB a = false ∧ txtR a = []) ∨ (mayB a = true ∧ oneB a = false ∧ txtR a = txtL a) ∨ (mayB a = true ∧ oneB a = true ∧ txtR a = txtL a) := by
    cases hm : mayB a
    · exact .inl ⟨rfl, by simp [oneB, hm], txtR_no hm⟩
    · cases ho : oneB a
      · exact .inr (.inl ⟨rfl, rfl, txtR_yes hm⟩)
      · exact .inr (.inr ⟨rfl, rfl, txtR_yes hm⟩)
  have e0 : errN true 2 = 0 := rfl
  have e1 : errN false 2 = 2 := rfl
  rcases hcase with ⟨hm, ho, ht⟩ | ⟨hm, ho, ht⟩ | ⟨hm, ho, ht⟩
  all_goals
    have Hm := Lib.hid hm
    have Ho := Lib.hid ho
    have Ht := Lib.hid ht
    clear hm ho ht
    go_enter Try.func6, Try.ntmps6
    go_wp2_with fail
    refine (lent_any v xs _ h hlen).mono ?_
    rintro e W ⟨x, rfl, hX, hB1⟩
    have hS : SetSt w.heap.size w v x xs W := ⟨hB1, hB1.size, h.below hB1, hX⟩
    clear hX hB1
    go_wp2_with (first | (go_at_call 15; refine (place_any a ha _).mono ?_; rintro e w' ⟨rfl, rfl⟩; rw [Ho.out]) | (go_at_call 16; refine (rplace_any a ha _).mono ?_; rintro e w' ⟨rfl, rfl⟩; rw [Ho.out]) | (go_at_call 13; refine (text_any a ha _).mono ?_; rintro e w' ⟨rfl, hb1⟩; rw [Hm.out, Ht.out]; have hS1 := hS.next hb1; clear hS hb1; have hS := hS1; clear hS1) | (go_at_call 17; refine (may_any a ha _).mono ?_; rintro e w' ⟨rfl, rfl⟩; rw [Hm.out]) | (go_at_call 18; refine (rmay_any a ha _).mono ?_; rintro e w' ⟨rfl, rfl⟩; rw [Hm.out]) | (go_at_call 19; refine (one_any a ha _).mono ?_; rintro e w' ⟨rfl, rfl⟩; rw [Ho.out]) | (go_at_call 20; refine (rone_any a ha _).mono ?_; rintro e w' ⟨rfl, rfl⟩; rw [Ho.out]) | (go_at_call 21; refine (cnt_any a ha _).mono ?_; rintro e w' ⟨rfl, rfl⟩) | (go_at_call 22; refine (rcnt_any a ha _).mono ?_; rintro e w' ⟨rfl, rfl⟩) | (go_at_call 23; refine (rtext_any a ha _).mono ?_; rintro e w' ⟨rfl, hb1⟩; have hS1 := hS.next hb1; clear hS hb1; have hS := hS1; clear hS1) | (go_at_call 24; refine (meet_any _ xs _ (lent_u8 hS.2.2.2 hS.2.2.1.1 hS.2.2.1.2.1)).mono ?_; rintro e w' ⟨rfl, rfl⟩) | (go_at_call 25; refine (rmeet_any _ xs _ hS.2.2.1).mono ?_; rintro e w' ⟨rfl, rfl⟩) | (go_at_call 26; refine (joinS_any _ xs _ (lent_u8 hS.2.2.2 hS.2.2.1.1 hS.2.2.1.2.1)).mono ?_; rintro e w' ⟨rfl, rfl⟩) | (go_at_call 27; refine (rjoin_any _ xs _ hS.2.2.1).mono ?_; rintro e w' ⟨rfl, rfl⟩) | (go_at_call 28; refine (kept_any _ _ xs _ hS.2.2.2 hS.2.2.1 hlen).mono ?_; rintro e w' ⟨rfl, hb1⟩; have hS1 := hS.next hb1; clear hS hb1; have hS := hS1; clear hS1) | (go_at_call 29; refine (less_any a b ha hb _).mono ?_; rintro e w' ⟨rfl, rfl⟩) | (go_at_call 30; refine (rless_any a b ha hb _).mono ?_; rintro e w' ⟨rfl, rfl⟩) | (go_at_call 31; refine (has_any a b ha hb _).mono ?_; rintro e w' ⟨rfl, rfl⟩) | (go_at_call 32; refine (rhas_any a b ha hb _).mono ?_; rintro e w' ⟨rfl, rfl⟩) | (go_at_call 12; refine (lives_any _).mono ?_; rintro e w' ⟨rfl, hb1⟩; have hS1 := hS.next hb1; clear hS hb1; have hS := hS1; clear hS1))
    go_ret
    exact ⟨rfl, hS.1⟩
end Go.Proofs.Ytadmdanmafegoaa
