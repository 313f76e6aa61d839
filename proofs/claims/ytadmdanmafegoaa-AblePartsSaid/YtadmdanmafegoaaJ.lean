/- Contracts of able.Within (an iterator), for every byte. -/
import Derived.Test.YtadmdanmafegoaaI
namespace Go.Proofs.Ytadmdanmafegoaa
open Go.RowKit Go.Shelf
attribute [local go_sem] Oper.semAt_some

def nxtN (m x : Nat) : Nat := ((x + 256 - m) % 256) &&& m
def chainOk (m : Nat) : List Nat → Bool
  | [] => false
  | [x] => x == m
  | x :: y :: r => nxtN m x == y && x != m && decide (x < y) && chainOk m (y :: r)
theorem chain_within : ∀ a : Fin 256, (chainOk ((a : Nat) % 64) (withinTo a 64) && (withinTo a 64).head? == some 0) = true := by decide +kernel
theorem chain_at (m : Nat) : ∀ (l : List Nat) (i : Nat), chainOk m l = true → i < l.length →
    (i + 1 < l.length → nxtN m (l.getD i 0) = l.getD (i + 1) 0 ∧ l.getD i 0 ≠ m ∧ l.getD i 0 < l.getD (i + 1) 0) ∧ (i + 1 = l.length → l.getD i 0 = m)
  | [], _, h, _ => by cases h
  | [x], i, h, hi => by
    have : i = 0 := by simp at hi; omega
    subst this
    exact ⟨fun h1 => by simp at h1, fun _ => by simpa [chainOk] using h⟩
  | x :: y :: r, i, h, hi => by
    simp only [chainOk, Bool.and_eq_true, beq_iff_eq, bne_iff_ne, decide_eq_true_eq] at h
    cases i with
    | zero => exact ⟨fun _ => ⟨h.1.1.1, h.1.1.2, h.1.2⟩, fun h1 => by simp at h1⟩
    | succ i =>
      have := chain_at m (y :: r) i h.2 (by simpa using hi)
      refine ⟨fun h1 => ?_, fun h1 => ?_⟩
      · have := this.1 (by simpa using h1); simpa using this
      · have := this.2 (by simpa using h1); simpa using this
set_option maxHeartbeats 400000 in
theorem next_any (x m : Nat) (hx : x < 256) (hm : m < 64) (b : Nat) (w : World) (hc : w.cell? ⟨b, 0, Option.none⟩ = some (.int .u8 m)) :
    Calls Try.prog 46 #[.int .u8 x, .pointer (some ⟨b, 0, Option.none⟩)] w fun e w' => e = .returned (.int .u8 (nxtN m x)) ∧ w = w' := by
  have HA := Lib.hid (u8_and_nat ((x + 256 - m) % 256) m (Nat.mod_lt _ (by omega)) (by omega))
  go_enter Try.func46, Try.ntmps46
  go_wp2
  go_ret
  refine ⟨ret_int ?_, rfl⟩
  unfold nxtN
  rw [← HA.out]
  have e : ((x : Int) - (m : Int)) % 256 = (((x + 256 - m) % 256 : Nat) : Int) := by omega
  rw [e]
set_option maxHeartbeats 400000 in
theorem within_any (a : Nat) (ha : a < 256) (w : World) :
    Calls Try.prog 36 #[.int .u8 a] w fun e w' => e = .returned (.func (.func 45) #[] #[.pointer (some ⟨w.heap.size, 0, Option.none⟩)]) ∧ w' = w.alloc (.cells #[.int .u8 ((a % 64 : Nat) : Int)] 22) := by
  go_enter Try.func36, Try.ntmps36
  go_wp2
  go_ret
  exact ⟨rfl, by rw [show (((a % 64 : Nat) : Int)) = ((a : Int) % 64) from by omega]⟩

def encN (x : Nat) : Array Value := #[.int .u8 (x : Int)]
theorem getD_take {l : List Nat} {i : Nat} (h : i < l.length) : l.take (i + 1) = l.take i ++ [l.getD i 0] := take_succ_getD l i h
set_option maxRecDepth 100000 in
set_option maxHeartbeats 1000000 in
theorem within1_in (n : Nat) (hn : 1 ≤ n) (m : Nat) (hm : m < 64) (L : List Nat) (hL : chainOk m L = true) (h00 : L.head? = some 0) (hbd : ∀ x ∈ L, x < 64) (l Bn : Nat) (J Jx : List Nat → World → Prop)
    (hY : ∀ pre x W, x < 64 → J pre W → pre.length < 64 → YieldAt Fence.wide (n - 1) Try.prog l (encN x) W fun e W' =>
      (e = .returned (.bool true) ∧ J (pre ++ [x]) W' ∧ Kc Bn W W') ∨ (e = .returned (.bool false) ∧ Jx (pre ++ [x]) W')) (hlen : L.length ≤ 64)
    (W : World) (hBn : W.cell? ⟨Bn, 0, Option.none⟩ = some (.int .u8 m)) (h0 : J [] W) :
    CallsIn Fence.wide n Try.prog 45 #[.func (.yield l) #[] #[], .pointer (some ⟨Bn, 0, Option.none⟩)] W fun e W' => (∃ v, e = .returned v) ∧
      ((∃ ys, ys = L ∧ J ys W') ∨ (∃ pre, pre <+: L ∧ Jx pre W')) := by
  have hpos : 0 < L.length := by cases L with | nil => cases h00 | cons x r => simp
  have hg0 : L.getD 0 0 = 0 := by cases L with | nil => rfl | cons x r => simp at h00; simp [h00]
  refine callsIn_of_wp Try.func45 rfl trivial ?_ rfl
  simp only [Try.ntmps45, List.size_toArray, List.length_cons, List.length_nil, Nat.reduceAdd, Nat.reduceSub, Array.replicate_succ, Array.replicate_zero, List.push_toArray, List.append_toArray, List.nil_append, List.cons_append]
  have H00 := Lib.hid h00
  have HG := Lib.hid hg0
  have HL := Lib.hid hL
  clear h00 hg0 hL
  gi_wp2
  gi_loopw [4] (fun p wr => ∃ i : Nat, i < L.length ∧ p = .int .u8 (L.getD i 0 : Nat) ∧ wr.cell? ⟨Bn, 0, Option.none⟩ = some (.int .u8 m) ∧ J (L.take i) wr)
    (fun p _ => 64 - (intOf p).toNat)
  case atStart =>
    exact ⟨0, hpos, by rw [HG.out]; rfl, hBn, h0⟩
  case round =>
    obtain ⟨i, hi, rfl, hc, hJ⟩ := hrel
    obtain ⟨hc1, hc2⟩ := chain_at m L i HL.out hi
    have hxb : L.getD i 0 < 64 := by
      rw [List.getD_eq_getElem?_getD, List.getElem?_eq_getElem hi]; exact hbd _ (List.getElem_mem hi)
    have HT := Lib.hid (getD_take hi)
    obtain ⟨x, hx⟩ : ∃ x, x = L.getD i 0 := ⟨_, rfl⟩
    have HX := Lib.hid hx
    rw [← hx] at hc1 hc2 hxb ⊢
    clear hx
    obtain ⟨fn, tmps, assign, body, hy, hR⟩ := hY (L.take i) x wr hxb hJ (by rw [List.length_take]; omega)
    simp only [encN] at hy hR
    by_cases hlast : i + 1 < L.length
    · obtain ⟨hn1, hn2, hn3⟩ := hc1 hlast
      have hne : (((x : Nat) : Int) != ((m : Nat) : Int)) = true := by rw [bne_iff_ne]; omega
      have HN := Lib.hid hn1
      clear hc1 hc2 hn1 hn2
      gi_wp2
      refine hR.mono ?_
      rintro e W3 (⟨rfl, hJ3, hk3⟩ | ⟨rfl, hJx3⟩)
      · have hc3 : W3.cell? ⟨Bn, 0, Option.none⟩ = some (.int .u8 m) := hk3.trans hc
        gi_wp2_with (refine ⟨trivial, ?_⟩; gi_at_call 46; refine (callsIn_wide.2 (next_any x m (by omega) hm Bn _ hc3)).mono ?_; rintro e w' ⟨rfl, rfl⟩)
        go_roundw
        case rel => exact ⟨i + 1, hlast, by rw [HN.out], hc3, by rw [HT.out, ← HX.out]; exact hJ3⟩
        case measure => simp [intOf]; rw [HN.out]; omega
      · gi_wp2
        go_end0
        exact ⟨⟨_, rfl⟩, .inr ⟨_, by rw [HX.out, ← HT.out]; exact List.take_prefix _ _, hJx3⟩⟩
    · have hxm := hc2 (by omega)
      have he : (((x : Nat) : Int) != ((m : Nat) : Int)) = false := by rw [hxm]; simp
      clear hc1 hc2 hxm
      have hfull : Hid (L.take i ++ [x] = L) := Lib.hid (by rw [HX.out, ← HT.out, List.take_of_length_le (by omega)])
      gi_wp2
      refine hR.mono ?_
      rintro e W3 (⟨rfl, hJ3, hk3⟩ | ⟨rfl, hJx3⟩)
      · have hc3 : W3.cell? ⟨Bn, 0, Option.none⟩ = some (.int .u8 m) := hk3.trans hc
        gi_wp2
        go_end0
        exact ⟨⟨_, rfl⟩, .inl ⟨_, rfl, by rw [hfull.out] at hJ3; exact hJ3⟩⟩
      · gi_wp2
        go_end0
        exact ⟨⟨_, rfl⟩, .inr ⟨_, by rw [hfull.out]; exact List.prefix_refl _, hJx3⟩⟩
theorem within_bd (a : Nat) : ∀ x ∈ withinTo a 64, x < 64 := fun _ hx => List.mem_range.1 (List.mem_filter.1 hx).1
theorem within_stops (n : Nat) (hn : 1 ≤ n) (a : Nat) (ha : a < 256) (Bn : Nat) (w : World) (hB : Bn < w.heap.size) (hc : w.cell? ⟨Bn, 0, Option.none⟩ = some (.int .u8 ((a % 64 : Nat) : Int))) :
    SeqStopsK Fence.wide n Try.prog 45 #[.pointer (some ⟨Bn, 0, Option.none⟩)] encN (Kc Bn) (fun ys => ys = withinTo a 64) (fun pre => pre <+: withinTo a 64) 64 w := fun l J Jx W hW _ _ hY h0 => by
  have h := chain_within ⟨a, ha⟩
  simp only [Bool.and_eq_true, beq_iff_eq] at h
  exact within1_in n hn (a % 64) (Nat.mod_lt _ (by omega)) (withinTo a 64) h.1 h.2 (within_bd a) l Bn J Jx (fun pre x W1 _ h1 h2 => hY pre x W1 h1 h2) (withinTo_le a 64) W ((hW.cell (p := ⟨Bn, 0, Option.none⟩) hB).trans hc) h0
def encG (x : Fin 64) : Array Value := #[.int .u8 (x : Nat)]
theorem within_stopsF (n : Nat) (hn : 1 ≤ n) (a : Nat) (ha : a < 256) (Bn : Nat) (w : World) (hB : Bn < w.heap.size) (hc : w.cell? ⟨Bn, 0, Option.none⟩ = some (.int .u8 ((a % 64 : Nat) : Int))) :
    SeqStopsK Fence.wide n Try.prog 45 #[.pointer (some ⟨Bn, 0, Option.none⟩)] encG (Kc Bn) (fun ys => ys.map Fin.val = withinTo a 64) (fun pre => pre.map Fin.val <+: withinTo a 64) 64 w := fun l J Jx W hW _ _ hY h0 => by
  have h := chain_within ⟨a, ha⟩
  simp only [Bool.and_eq_true, beq_iff_eq] at h
  refine (within1_in n hn (a % 64) (Nat.mod_lt _ (by omega)) (withinTo a 64) h.1 h.2 (within_bd a) l Bn (fun p W => ∃ q : List (Fin 64), q.map Fin.val = p ∧ J q W) (fun p W => ∃ q : List (Fin 64), q.map Fin.val = p ∧ Jx q W)
    (fun pre x W1 hx h1 hlen => ?_) (withinTo_le a 64) W ((hW.cell (p := ⟨Bn, 0, Option.none⟩) hB).trans hc) ⟨[], rfl, h0⟩).mono ?_
  · obtain ⟨q, rfl, hq⟩ := h1
    obtain ⟨fn, tmps, assign, body, hy, hR⟩ := hY q ⟨x, hx⟩ W1 hq (by simpa using hlen)
    refine ⟨fn, tmps, assign, body, hy, hR.mono ?_⟩
    rintro e W' (⟨h1, h2, h3⟩ | ⟨h1, h2⟩)
    · exact .inl ⟨h1, ⟨_, by rw [List.map_append]; rfl, h2⟩, h3⟩
    · exact .inr ⟨h1, ⟨_, by rw [List.map_append]; rfl, h2⟩⟩
  · rintro e W' ⟨h1, h2⟩
    refine ⟨h1, h2.imp ?_ ?_⟩
    · rintro ⟨_, rfl, q, hq, h⟩; exact ⟨q, hq, h⟩
    · rintro ⟨_, hp, q, rfl, h⟩; exact ⟨q, hp, h⟩
/-- able.Each's contract, over numbers. -/
theorem eachN_stops (n : Nat) (a : Nat) (ha : a < 256) (Bn : Nat) (w : World) (hB : Bn < w.heap.size) (hc : w.cell? ⟨Bn, 0, Option.none⟩ = some (.int .u8 a)) :
    SeqStopsK Fence.wide n Try.prog 47 #[.pointer (some ⟨Bn, 0, Option.none⟩)] encN (Kc Bn) (fun ys => ys = eachN a 6) (fun pre => pre <+: eachN a 6) 64 w := fun l J Jx W hW hJ hJx hY h0 => by
  refine (each_stops n a ha Bn w hB hc l (fun pre => J (pre.map (fun k : Fin 6 => bitN k.val))) (fun pre => Jx (pre.map (fun k : Fin 6 => bitN k.val))) W hW
    (fun s => hJ (s.map _)) (fun s => hJx (s.map _)) (fun pre x W1 h1 _ => ?_) h0).mono ?_
  · have := hY (pre.map (fun k : Fin 6 => bitN k.val)) (bitN x) W1 h1 (by rw [List.length_map]; omega)
    rw [List.map_append]
    exact this
  · rintro e W' ⟨h1, h2⟩
    refine ⟨h1, h2.imp ?_ ?_⟩
    · rintro ⟨xs, rfl, h⟩; exact ⟨_, rfl, h⟩
    · rintro ⟨pre, ⟨t, ht⟩, h⟩
      exact ⟨_, ⟨t.map (fun k : Fin 6 => bitN k.val), by unfold eachN; rw [← ht, List.map_append]⟩, h⟩
end Go.Proofs.Ytadmdanmafegoaa
