/- value.own, value.Own (carried over). -/
import Derived.Test.YthafojadcodkoaaB
import Derived.Test.YthafojadcodkoaaTp
import Derived.Test.YthafojadcodkoaaTd
namespace Go.Proofs.Ythafojadcodkoaa
open Go.RowKit


theorem run_make_rowN {P : Program} (t e : TypeId) (i : TypeInfo) (z : Value) (ht : P.underlying t = some (.slice e)) (hi : P.info? e = some i) (hz : i.zero = some z)
    (kl kc : IntKind) (n c : Nat) (hnc : n ≤ c) (hbytes : i.bytes * c ≤ 281474976710656) (h63 : c ≤ 9223372036854775807) (w : World) :
    (Instr.makeSlice t (.int kl (n : Int)) (.int kc (c : Int))).run P w = .ok (.slice (some ⟨w.heap.size, 0, Option.none⟩) n c) (w.alloc (.cells (madeCells z.cells (c * i.size)) e)) := by
  have hb : (i.bytes : Int) * (c : Int) ≤ 281474976710656 := by
    have h : ((i.bytes * c : Nat) : Int) ≤ 281474976710656 := by omega
    rwa [Int.natCast_mul] at h
  have hr := run_make (P := P) w t e i z ht hi hz kl kc n c (by omega) (by omega) hb (by omega)
  simp only [Int.toNat_natCast] at hr
  exact hr
def madeV (n : Nat) : Array Value := madeCells zeroV (n * 5)
theorem madeV_size (n : Nat) : (madeV n).size = n * 5 := size_madeCells _ _
theorem make34 (n : Nat) (hn : n * 64 ≤ 140737488351232) (w : World) :
    (Instr.makeSlice 47 (.int .i64 (n : Int)) (.int .i64 (n : Int))).run Try.prog w = .ok (.slice (some ⟨w.heap.size, 0, Option.none⟩) n n) (w.alloc (.cells (madeV n) 49)) := by
  obtain ⟨i0, hi, hz0, hz1, hz2⟩ := info_parts info34
  have h := run_make_rowN (P := Try.prog) 47 49 i0 _ Try.underlying47 hi hz0 .i64 .i64 n n (Nat.le_refl _) (by rw [hz2]; omega) (by omega) w
  rw [hz1] at h
  exact h

theorem IsVasR.keepCells {w w' : World} {R : Nat → Nat → Prop} (hk : ∀ b o, R b o → w'.heap[b]? = w.heap[b]?) {b : Nat} : ∀ {o : Nat} {l : List Va}, (∀ m, m < l.length * 5 → w'.cell? ⟨b, o + m, Option.none⟩ = w.cell? ⟨b, o + m, Option.none⟩) → IsVasR w R b o l → IsVasR w' R b o l
  | _, [], _, _ => by unfold IsVasR; trivial
  | o, x :: l, hc, h => by
    unfold IsVasR at h ⊢
    obtain ⟨⟨c0, c1, c2, c3, c4, h1, h2⟩, h3⟩ := h
    refine ⟨⟨c0, c1, c2, c3, c4, fun j v hv => ?_, h2.keep hk⟩, IsVasR.keepCells hk (fun m hm => ?_) h3⟩
    · have hj : j < 5 := by
        have := (List.getElem?_eq_some_iff.1 hv).1
        simpa using this
      exact (hc j (by simp only [List.length_cons]; omega)).trans (h1 j v hv)
    · have := hc (5 + m) (by simp only [List.length_cons]; omega)
      rwa [show o + (5 + m) = o + 5 + m by omega] at this
/-- A store of a value, cell by cell. -/
def set5 (w : World) (g o : Nat) (c0 c1 c2 c3 c4 : Value) : World :=
  ((((w.setCell ⟨g, o, Option.none⟩ c0).setCell ⟨g, o + 1, Option.none⟩ c1).setCell ⟨g, o + 2, Option.none⟩ c2).setCell ⟨g, o + 3, Option.none⟩ c3).setCell ⟨g, o + 4, Option.none⟩ c4
theorem set5_other (w : World) (g o : Nat) (c0 c1 c2 c3 c4 : Value) {k : Nat} (hk : k ≠ g) : (set5 w g o c0 c1 c2 c3 c4).heap[k]? = w.heap[k]? := by
  unfold set5
  rw [Below.heap_setCell _ _ _ _ hk, Below.heap_setCell _ _ _ _ hk, Below.heap_setCell _ _ _ _ hk, Below.heap_setCell _ _ _ _ hk, Below.heap_setCell _ _ _ _ hk]
theorem set5_blk {w : World} {g o : Nat} {T : TypeId} {cur : Array Value} (h : BlkN w g T cur) (c0 c1 c2 c3 c4 : Value) :
    BlkN (set5 w g o c0 c1 c2 c3 c4) g T (((((cur.setIfInBounds o c0).setIfInBounds (o + 1) c1).setIfInBounds (o + 2) c2).setIfInBounds (o + 3) c3).setIfInBounds (o + 4) c4) :=
  ((((h.set o c0).set (o + 1) c1).set (o + 2) c2).set (o + 3) c3).set (o + 4) c4
/-- Block g is a row of n values, of which the first ones read as xs; what they hold lies behind g. -/
def Made (w : World) (g n : Nat) (xs : List Va) : Prop := ∃ cur, BlkN w g 49 cur ∧ cur.size = n * 5 ∧ IsVasR w (Own34 w (g + 1)) g 0 xs
theorem Made.lt {w : World} {g n : Nat} {xs : List Va} (h : Made w g n xs) : g < w.heap.size := let ⟨_, h1, _⟩ := h; h1.lt
theorem Made.below {w w' : World} {g n : Nat} {xs : List Va} (h : Made w g n xs) (hb : Below w.heap.size w w') : Made w' g n xs := by
  obtain ⟨cur, h1, h2, h3⟩ := h
  exact ⟨cur, h1.below hb, h2, (h3.keep (fun b o hr => hb.block b hr.lt) (hb.block g h1.lt)).mono (fun b o hr => hr.below hb)⟩
theorem Made.store {w : World} {g n : Nat} {xs : List Va} {c0 c1 c2 c3 c4 : Value} {x : Va} (h : Made w g n xs) (hn : xs.length < n) (hx : IsVaR w (Own34 w (g + 1)) (.agg #[c0, c1, c2, c3, c4]) x) :
    Made (set5 w g (xs.length * 5) c0 c1 c2 c3 c4) g n (xs ++ [x]) := by
  obtain ⟨cur, h1, h2, h3⟩ := h
  have hb := set5_blk (o := xs.length * 5) h1 c0 c1 c2 c3 c4
  have hO : ∀ b o, Own34 w (g + 1) b o → (set5 w g (xs.length * 5) c0 c1 c2 c3 c4).heap[b]? = w.heap[b]? := fun b o hr => set5_other _ _ _ _ _ _ _ _ (by have := hr.1; omega)
  have hR : ∀ b o, Own34 w (g + 1) b o → Own34 (set5 w g (xs.length * 5) c0 c1 c2 c3 c4) (g + 1) b o := fun b o hr => ⟨hr.1, hr.2.1, let ⟨cur, hc⟩ := hr.2.2; ⟨cur, (hO b o hr).trans hc⟩⟩
  refine ⟨_, hb, by simpa using h2, IsVasR.snoc ((hx.keep hO).mono hR) ((IsVasR.keepCells hO (fun m hm => ?_) h3).mono hR) ?_⟩
  · simp only [Nat.zero_add]
    rw [hb.cell_eq, h1.cell_eq]
    repeat rw [Array.getElem?_setIfInBounds_ne (by omega)]
  · intro j v hv
    rw [hb.cell_eq, Nat.zero_add]
    have hs : xs.length * 5 + 5 ≤ cur.size := by omega
    match j, hv with
    | 0, hv => rw [← hv]; simp only [Nat.add_zero]; repeat rw [Array.getElem?_setIfInBounds_ne (by omega)]
               rw [Array.getElem?_setIfInBounds_self_of_lt (by first | omega | (simp only [Array.size_setIfInBounds]; omega))]; rfl
    | 1, hv => rw [← hv]; repeat rw [Array.getElem?_setIfInBounds_ne (by omega)]
               rw [Array.getElem?_setIfInBounds_self_of_lt (by first | omega | (simp only [Array.size_setIfInBounds]; omega))]; rfl
    | 2, hv => rw [← hv]; repeat rw [Array.getElem?_setIfInBounds_ne (by omega)]
               rw [Array.getElem?_setIfInBounds_self_of_lt (by first | omega | (simp only [Array.size_setIfInBounds]; omega))]; rfl
    | 3, hv => rw [← hv]; repeat rw [Array.getElem?_setIfInBounds_ne (by omega)]
               rw [Array.getElem?_setIfInBounds_self_of_lt (by first | omega | (simp only [Array.size_setIfInBounds]; omega))]; rfl
    | 4, hv => rw [← hv]; repeat rw [Array.getElem?_setIfInBounds_ne (by omega)]
               rw [Array.getElem?_setIfInBounds_self_of_lt (by first | omega | (simp only [Array.size_setIfInBounds]; omega))]; rfl
    | j + 5, hv => simp at hv
def OwnC (x : Va) : Prop := ∀ (w : World) (B : Nat) (v : Value), IsVa w B v x → B ≤ w.heap.size →
  Calls Try.prog 59 #[v] w fun e w' => ∃ v', e = .returned v' ∧ IsVaR w' (Own34 w' w.heap.size) v' x ∧ Below w.heap.size w w'
theorem take_snoc_get {α : Type} (l : List α) (j : Nat) (h : j < l.length) : l.take (j + 1) = l.take j ++ [l[j]] := List.take_succ_eq_append_getElem h
theorem Made.start {w : World} {n : Nat} : Made (w.alloc (.cells (madeV n) 49)) w.heap.size n [] :=
  ⟨madeV n, BlkN.at_ rfl _ _, madeV_size n, by unfold IsVasR; trivial⟩
theorem Made.blk_other {w w' : World} {g n : Nat} {xs : List Va} (h : Made w g n xs) (hb : ∀ b, g ≤ b → b < w.heap.size → w'.heap[b]? = w.heap[b]?) : Made w' g n xs := by
  obtain ⟨cur, h1, h2, h3⟩ := h
  have hk : ∀ b o, Own34 w (g + 1) b o → w'.heap[b]? = w.heap[b]? := fun b o hr => hb b (by have := hr.1; omega) hr.lt
  exact ⟨cur, (hb g (Nat.le_refl _) h1.lt).trans h1, h2, (h3.keep hk (hb g (Nat.le_refl _) h1.lt)).mono (fun b o hr => ⟨hr.1, hr.2.1, let ⟨cur, hc⟩ := hr.2.2; ⟨cur, (hk b o hr).trans hc⟩⟩)⟩
set_option maxRecDepth 100000 in
set_option maxHeartbeats 1000000 in
theorem own_step (k n : Int) (s : ByteArray) (l : List Va) (r : Int) (IH : ∀ x ∈ l, OwnC x) (hne : l ≠ []) : OwnC (.mk k n s l r) := by
  intro w B v h hB
  obtain ⟨h1, h2, h3, h4, A, cap, h5, rfl, h7⟩ := h.form
  have hlen := IsVaR.len h
  obtain ⟨b, o, hbB, rfl, hx⟩ := h7 hne
  have hmk := fun W => make34 l.length hlen W
  have hpos : ((l.length : Int) == 0) = false := by rw [len1]; simpa using hne
  have HI := Lib.hid IH
  have HX := Lib.hid hx
  clear IH h7 h hx
  go_enter Try.func59, Try.ntmps59
  go_wp2_with fail
  clear hmk
  have hW : Below w.heap.size w (((w.alloc (.cells #[.int .u8 k, .int .i64 n, .string s, .slice (some ⟨b, o, Option.none⟩) l.length cap, .int .i64 r] 49)).alloc (.cells zeroV 49)).alloc (.cells (madeV l.length) 49)) :=
    (((Below.refl _ _).alloc (Nat.le_refl _) _).alloc (by simp) _).alloc (by simp; omega) _
  have hB0 : BlkN (((w.alloc (.cells #[.int .u8 k, .int .i64 n, .string s, .slice (some ⟨b, o, Option.none⟩) l.length cap, .int .i64 r] 49)).alloc (.cells zeroV 49)).alloc (.cells (madeV l.length) 49)) w.heap.size 49 #[.int .u8 k, .int .i64 n, .string s, .slice (some ⟨b, o, Option.none⟩) l.length cap, .int .i64 r] :=
    ((BlkN.at_ rfl _ _).alloc _).alloc _
  have hB1 : BlkN (((w.alloc (.cells #[.int .u8 k, .int .i64 n, .string s, .slice (some ⟨b, o, Option.none⟩) l.length cap, .int .i64 r] 49)).alloc (.cells zeroV 49)).alloc (.cells (madeV l.length) 49)) (w.heap.size + 1) 49 zeroV :=
    (BlkN.at_ (by simp) _ _).alloc _
  have hM : Made (((w.alloc (.cells #[.int .u8 k, .int .i64 n, .string s, .slice (some ⟨b, o, Option.none⟩) l.length cap, .int .i64 r] 49)).alloc (.cells zeroV 49)).alloc (.cells (madeV l.length) 49)) (w.heap.size + 1 + 1) l.length [] := by
    have := @Made.start ((w.alloc (.cells #[.int .u8 k, .int .i64 n, .string s, .slice (some ⟨b, o, Option.none⟩) l.length cap, .int .i64 r] 49)).alloc (.cells zeroV 49)) l.length
    simpa using this
  have HW := Lib.hid hW
  have HB0 := Lib.hid hB0
  have HB1 := Lib.hid hB1
  have HM := Lib.hid hM
  clear hW hB0 hB1 hM
  go_loopw [19] (fun i wr => ∃ k' : Nat, k' ≤ l.length ∧ i = .int .i64 k' ∧ Below w.heap.size w wr ∧ BlkN wr w.heap.size 49 #[.int .u8 k, .int .i64 n, .string s, .slice (some ⟨b, o, Option.none⟩) l.length cap, .int .i64 r] ∧ BlkN wr (w.heap.size + 1) 49 zeroV ∧ Made wr (w.heap.size + 1 + 1) l.length (l.take k')) (fun i _ => l.length - (intOf i).toNat)
  case atStart => exact ⟨0, by omega, rfl, HW.out, HB0.out, HB1.out, by rw [List.take_zero]; exact HM.out⟩
  case round =>
    obtain ⟨j, hj, rfl, hu, hb0, hb1, hm⟩ := hrel
    have HU := Lib.hid hu
    have HC0 := Lib.hid hb0
    have HC1 := Lib.hid hb1
    have HMR := Lib.hid hm
    have hgl := hm.lt
    clear hb0 hb1 hm
    by_cases hlt : j < l.length
    · obtain ⟨k', n', s', A', len', cap', r', hat, hx1⟩ := HX.out.at2 j hlt
      have hat' := hat.keep hbB (fun b hb => hu.block b (by omega))
      obtain ⟨e0, e1, e2, e3, e4⟩ := hat'.five
      have HX1 := Lib.hid (IsVa.keep (w' := wr.alloc (.cells #[.int .u8 k', .int .i64 n', .string s', .slice A' len' cap', .int .i64 r'] 49)) (fun b hb => (hu.alloc hu.size _).block b (by omega)) hx1)
      have hsz := hu.size
      have HA := Lib.hid ((Below.refl wr.heap.size wr).alloc (Nat.le_refl _) (.cells #[.int .u8 k', .int .i64 n', .string s', .slice A' len' cap', .int .i64 r'] 49))
      clear hat hat' hu hx1
      go_wp2_with fail
      refine (HI.out _ (List.getElem_mem hlt) _ B _ HX1.out (by simp; omega)).mono ?_
      rintro e w1 ⟨v', rfl, hv', hb1⟩
      clear e0 e1 e2 e3 e4
      have HB1' := Lib.hid (HA.out.trans (hb1.mono (by simp)))
      have hmm := (HMR.out.below HB1'.out)
      obtain ⟨cur, hcur, hcs, hcx⟩ := hmm
      obtain ⟨k2, n2, s2, A2, len2, cap2, r2, rfl⟩ := hv'.shape
      obtain ⟨u0, hu0⟩ := hcur.some (j * 5) (by omega)
      obtain ⟨u1, hu1⟩ := hcur.some (j * 5 + 1) (by omega)
      obtain ⟨u2, hu2⟩ := hcur.some (j * 5 + 2) (by omega)
      obtain ⟨u3, hu3⟩ := hcur.some (j * 5 + 3) (by omega)
      obtain ⟨u4, hu4⟩ := hcur.some (j * 5 + 4) (by omega)
      have z0 := hcur.free (j * 5)
      have z1 := hcur.free (j * 5 + 1)
      have z2 := hcur.free (j * 5 + 2)
      have z3 := hcur.free (j * 5 + 3)
      have z4 := hcur.free (j * 5 + 4)
      have HV' := Lib.hid hv'
      have HM1 : Hid (Made (set5 w1 (w.heap.size + 1 + 1) (j * 5) (.int .u8 k2) (.int .i64 n2) (.string s2) (.slice A2 len2 cap2) (.int .i64 r2)) (w.heap.size + 1 + 1) l.length (l.take (j + 1))) := Lib.hid (by
        have hl : (l.take j).length = j := by rw [List.length_take]; omega
        have := (HMR.out.below HB1'.out).store (by omega) (HV'.out.mono (fun b o hr => hr.low (by simp; omega)))
        rw [hl] at this
        rw [take_snoc_get l j hlt]
        exact this)
      have HBB : Hid (Below w.heap.size w (set5 w1 (w.heap.size + 1 + 1) (j * 5) (.int .u8 k2) (.int .i64 n2) (.string s2) (.slice A2 len2 cap2) (.int .i64 r2))) := Lib.hid (by
        unfold set5
        exact (((((HU.out.trans (HB1'.out.mono hsz)).setCell (by simp; omega) _).setCell (by simp; omega) _).setCell (by simp; omega) _).setCell (by simp; omega) _).setCell (by simp; omega) _)
      have HD0 := Lib.hid ((set5_other w1 (w.heap.size + 1 + 1) (j * 5) (.int .u8 k2) (.int .i64 n2) (.string s2) (.slice A2 len2 cap2) (.int .i64 r2) (k := w.heap.size) (by omega)).trans (HC0.out.below HB1'.out))
      have HD1 := Lib.hid ((set5_other w1 (w.heap.size + 1 + 1) (j * 5) (.int .u8 k2) (.int .i64 n2) (.string s2) (.slice A2 len2 cap2) (.int .i64 r2) (k := w.heap.size + 1) (by omega)).trans (HC1.out.below HB1'.out))
      clear hv' hb1 hcx hcur
      go_wp2_with fail
      go_roundw
      case rel => exact ⟨j + 1, by omega, by go_num, HBB.out, HD0.out, HD1.out, HM1.out⟩
      case measure => simp [intOf]; omega
    · obtain rfl : j = l.length := by omega
      have c0 := HC0.out.cell 0 rfl
      have c1 := HC0.out.cell 1 rfl
      have c2 := HC0.out.cell 2 rfl
      have c3 := HC0.out.cell 3 rfl
      have c4 := HC0.out.cell 4 rfl
      have f3 := HC0.out.free 3
      have d0 := HC1.out.cell 0 rfl
      have d1 := HC1.out.cell 1 rfl
      have d2 := HC1.out.cell 2 rfl
      have d3 := HC1.out.cell 3 rfl
      have d4 := HC1.out.cell 4 rfl
      have x0 := HC1.out.free 0
      have x1 := HC1.out.free 1
      have x2 := HC1.out.free 2
      have x3 := HC1.out.free 3
      have x4 := HC1.out.free 4
      clear hu
      go_wp2_with fail
      have hne3 : ¬ w.heap.size + 1 = w.heap.size := by omega
      have HR : BlkN (set5 (wr.setCell ⟨w.heap.size, 3, Option.none⟩ (.slice (some ⟨w.heap.size + 1 + 1, 0, Option.none⟩) l.length l.length)) (w.heap.size + 1) 0 (.int .u8 k) (.int .i64 n) (.string s) (.slice (some ⟨w.heap.size + 1 + 1, 0, Option.none⟩) l.length l.length) (.int .i64 r)) (w.heap.size + 1) 49 #[.int .u8 k, .int .i64 n, .string s, .slice (some ⟨w.heap.size + 1 + 1, 0, Option.none⟩) l.length l.length, .int .i64 r] :=
        set5_blk (o := 0) (HC1.out.setOther (by simp) _) _ _ _ _ _
      have HMF : Made (set5 (wr.setCell ⟨w.heap.size, 3, Option.none⟩ (.slice (some ⟨w.heap.size + 1 + 1, 0, Option.none⟩) l.length l.length)) (w.heap.size + 1) 0 (.int .u8 k) (.int .i64 n) (.string s) (.slice (some ⟨w.heap.size + 1 + 1, 0, Option.none⟩) l.length l.length) (.int .i64 r)) (w.heap.size + 1 + 1) l.length l := by
        have := HMR.out.blk_other (w' := set5 (wr.setCell ⟨w.heap.size, 3, Option.none⟩ (.slice (some ⟨w.heap.size + 1 + 1, 0, Option.none⟩) l.length l.length)) (w.heap.size + 1) 0 (.int .u8 k) (.int .i64 n) (.string s) (.slice (some ⟨w.heap.size + 1 + 1, 0, Option.none⟩) l.length l.length) (.int .i64 r)) (fun b hb _ => by
          rw [set5_other _ _ _ _ _ _ _ _ (by omega), Below.heap_setCell _ _ _ _ (by simp; omega)])
        rwa [List.take_length] at this
      have HBF : Below w.heap.size w (set5 (wr.setCell ⟨w.heap.size, 3, Option.none⟩ (.slice (some ⟨w.heap.size + 1 + 1, 0, Option.none⟩) l.length l.length)) (w.heap.size + 1) 0 (.int .u8 k) (.int .i64 n) (.string s) (.slice (some ⟨w.heap.size + 1 + 1, 0, Option.none⟩) l.length l.length) (.int .i64 r)) := by
        unfold set5
        exact (((((HU.out.setCell (by simp) _).setCell (by simp) _).setCell (by simp) _).setCell (by simp) _).setCell (by simp) _).setCell (by simp) _
      generalize hWF : set5 (wr.setCell ⟨w.heap.size, 3, Option.none⟩ (.slice (some ⟨w.heap.size + 1 + 1, 0, Option.none⟩) l.length l.length)) (w.heap.size + 1) 0 (.int .u8 k) (.int .i64 n) (.string s) (.slice (some ⟨w.heap.size + 1 + 1, 0, Option.none⟩) l.length l.length) (.int .i64 r) = WF at HR HMF HBF
      have hW2 : (((((wr.setCell ⟨w.heap.size, 3, Option.none⟩ (.slice (some ⟨w.heap.size + 1 + 1, 0, Option.none⟩) l.length l.length)).setCell ⟨w.heap.size + 1, 0, Option.none⟩ (.int .u8 k)).setCell ⟨w.heap.size + 1, 1, Option.none⟩ (.int .i64 n)).setCell ⟨w.heap.size + 1, 2, Option.none⟩ (.string s)).setCell ⟨w.heap.size + 1, 3, Option.none⟩ (.slice (some ⟨w.heap.size + 1 + 1, 0, Option.none⟩) l.length l.length)).setCell ⟨w.heap.size + 1, 4, Option.none⟩ (.int .i64 r) = WF := hWF
      rw [hW2]
      clear hW2 hWF
      have y0 := HR.cell 0 rfl
      have y1 := HR.cell 1 rfl
      have y2 := HR.cell 2 rfl
      have y3 := HR.cell 3 rfl
      have y4 := HR.cell 4 rfl
      refine bodyPost_ret (v := .agg #[.int .u8 k, .int .i64 n, .string s, .slice (some ⟨w.heap.size + 1 + 1, 0, Option.none⟩) l.length l.length, .int .i64 r]) (by simp [results, Try.results59, go_sem, y0, y1, y2, y3, y4]) rfl ⟨_, rfl, ?_, HBF⟩
      unfold IsVaR
      refine ⟨h1, h2, h3, hlen, some ⟨w.heap.size + 1 + 1, 0, Option.none⟩, l.length, Nat.le_refl _, rfl, fun _ => ⟨_, _, ?_, rfl, ?_⟩⟩
      · obtain ⟨cur, hq, _, _⟩ := HMF
        exact ⟨by omega, rfl, cur, hq⟩
      · obtain ⟨cur, _, _, hq⟩ := HMF
        exact hq.mono (fun b o hr => hr.low (by omega))
theorem own_nil (k n : Int) (s : ByteArray) (r : Int) : OwnC (.mk k n s [] r) := by
  intro w B v h hB
  obtain ⟨h1, h2, h3, h4, A, cap, h5, rfl, h7⟩ := h.form
  clear h7 h
  go_enter Try.func59, Try.ntmps59
  go_wp2_with fail
  refine bodyPost_ret (v := .agg #[.int .u8 k, .int .i64 n, .string s, .slice Option.none 0 0, .int .i64 r]) (by simp [results, Try.results59, go_sem]) rfl ⟨_, rfl, ?_, ((Below.refl _ _).alloc (Nat.le_refl _) _).alloc (by simp) _⟩
  unfold IsVaR
  exact ⟨h1, h2, h3, by simp, Option.none, 0, by simp, rfl, fun h => absurd rfl h⟩
theorem own_any (x : Va) : OwnC x := by
  induction x using Va.ind with
  | h k n s l r IH =>
    by_cases hl : l = []
    · subst hl; exact own_nil k n s r
    · exact own_step k n s l r IH hl
def ownX (x : Va) : Va := if mayV x then x else zeroVa
def ownE (x : Va) : Int := if mayV x then 0 else 2
theorem ownXE_no {x : Va} (h : mayV x = false) : ownX x = zeroVa ∧ ownE x = 2 := by simp [ownX, ownE, h]
theorem ownXE_yes {x : Va} (h : mayV x = true) : ownX x = x ∧ ownE x = 0 := by simp [ownX, ownE, h]
set_option maxRecDepth 100000 in
set_option maxHeartbeats 1000000 in
theorem Own_any {B : Nat} {v : Value} {x : Va} (w : World) (h : IsVa w B v x) (hB : B ≤ w.heap.size) :
    Calls Try.prog 61 #[v] w fun e w' => ∃ v', e = .returned (.tuple #[v', .int .i64 (ownE x)]) ∧ IsVaR w' (Own34 w' w.heap.size) v' (ownX x) ∧ Below w.heap.size w w' := by
  have HH := Lib.hid h
  obtain ⟨k, n, s, l, r⟩ := x
  obtain ⟨h1, h2, h3, h4, A, cap, h5, rfl, h7⟩ := h.form
  clear h h7
  obtain ⟨y, hy⟩ : ∃ y, y = Va.mk k n s l r := ⟨_, rfl⟩
  rw [← hy] at HH ⊢
  clear hy
  have HB : Below w.heap.size w ((w.alloc (.cells #[.int .u8 k, .int .i64 n, .string s, .slice A l.length cap, .int .i64 r] 49)).alloc (.cells zeroV 49)) := ((Below.refl _ _).alloc (Nat.le_refl _) _).alloc (by simp) _
  have HBB := Lib.hid HB
  have HN0 : Hid (BlkN ((w.alloc (.cells #[.int .u8 k, .int .i64 n, .string s, .slice A l.length cap, .int .i64 r] 49)).alloc (.cells zeroV 49)) w.heap.size 49 #[.int .u8 k, .int .i64 n, .string s, .slice A l.length cap, .int .i64 r]) := Lib.hid ((BlkN.at_ rfl _ _).alloc _)
  have HN1 : Hid (BlkN ((w.alloc (.cells #[.int .u8 k, .int .i64 n, .string s, .slice A l.length cap, .int .i64 r] 49)).alloc (.cells zeroV 49)) (w.heap.size + 1) 49 zeroV) := Lib.hid (BlkN.at_ (by simp) _ _)
  clear HB
  go_enter Try.func61, Try.ntmps61
  go_wp2_with fail
  refine (vmay_any (B := B) (x := y) _ (HH.out.keep (fun b hb => HBB.out.block b (by omega))) (by simp; omega)).mono ?_
  rintro e w1 ⟨rfl, hb⟩
  have hsz : w.heap.size + 1 + 1 ≤ w1.heap.size := by have := hb.size; simp at this; omega
  have HB1 := Lib.hid (HBB.out.trans (hb.mono (by simp; omega)))
  have HC0 := Lib.hid (HN0.out.below hb)
  have HC1 := Lib.hid (HN1.out.below hb)
  have c0 := HC0.out.cell 0 rfl
  have c1 := HC0.out.cell 1 rfl
  have c2 := HC0.out.cell 2 rfl
  have c3 := HC0.out.cell 3 rfl
  have c4 := HC0.out.cell 4 rfl
  have d0 := HC1.out.cell 0 rfl
  have d1 := HC1.out.cell 1 rfl
  have d2 := HC1.out.cell 2 rfl
  have d3 := HC1.out.cell 3 rfl
  have d4 := HC1.out.cell 4 rfl
  have x0 := HC1.out.free 0
  have x1 := HC1.out.free 1
  have x2 := HC1.out.free 2
  have x3 := HC1.out.free 3
  have x4 := HC1.out.free 4
  clear hb
  cases hm : mayV y
  · have HM := Lib.hid hm
    clear hm
    go_wp2_with fail
    have HR : BlkN (set5 w1 (w.heap.size + 1) 0 (.int .u8 0) (.int .i64 0) (.string ⟨#[]⟩) (.slice Option.none 0 0) (.int .i64 0)) (w.heap.size + 1) 49 zeroV :=
      set5_blk (o := 0) HC1.out _ _ _ _ _
    have HBF : Below w.heap.size w (set5 w1 (w.heap.size + 1) 0 (.int .u8 0) (.int .i64 0) (.string ⟨#[]⟩) (.slice Option.none 0 0) (.int .i64 0)) := by
      unfold set5
      exact ((((HB1.out.setCell (by simp) _).setCell (by simp) _).setCell (by simp) _).setCell (by simp) _).setCell (by simp) _
    generalize hWF : set5 w1 (w.heap.size + 1) 0 (.int .u8 0) (.int .i64 0) (.string ⟨#[]⟩) (.slice Option.none 0 0) (.int .i64 0) = WF at HR HBF
    have hW2 : ((((w1.setCell ⟨w.heap.size + 1, 0, Option.none⟩ (.int .u8 0)).setCell ⟨w.heap.size + 1, 1, Option.none⟩ (.int .i64 0)).setCell ⟨w.heap.size + 1, 2, Option.none⟩ (.string ⟨#[]⟩)).setCell ⟨w.heap.size + 1, 3, Option.none⟩ (.slice Option.none 0 0)).setCell ⟨w.heap.size + 1, 4, Option.none⟩ (.int .i64 0) = WF := hWF
    rw [hW2]
    clear hW2 hWF
    have y0 := HR.cell 0 rfl
    have y1 := HR.cell 1 rfl
    have y2 := HR.cell 2 rfl
    have y3 := HR.cell 3 rfl
    have y4 := HR.cell 4 rfl
    refine bodyPost_ret (v := .tuple #[.agg #[.int .u8 0, .int .i64 0, .string ⟨#[]⟩, .slice Option.none 0 0, .int .i64 0], .int .i64 2]) (by simp [results, Try.results61, go_sem, y0, y1, y2, y3, y4, zeroV]) rfl ⟨_, by rw [(ownXE_no HM.out).2], ?_, HBF⟩
    rw [(ownXE_no HM.out).1]
    exact IsVaR.zero _ _
  · have HM := Lib.hid hm
    clear hm
    go_wp2_with fail
    refine (own_any y _ B _ (HH.out.keep (fun b hb => HB1.out.block b (by omega))) (by omega)).mono ?_
    rintro e w2 ⟨v', rfl, hv', hb2⟩
    obtain ⟨k2, n2, s2, A2, len2, cap2, r2, rfl⟩ := hv'.shape
    have HB2 := Lib.hid (HB1.out.trans (hb2.mono (by omega)))
    have HD1 := Lib.hid (HC1.out.below hb2)
    clear c0 c1 c2 c3 c4 d0 d1 d2 d3 d4 x0 x1 x2 x3 x4
    have d0 := HD1.out.cell 0 rfl
    have d1 := HD1.out.cell 1 rfl
    have d2 := HD1.out.cell 2 rfl
    have d3 := HD1.out.cell 3 rfl
    have d4 := HD1.out.cell 4 rfl
    have x0 := HD1.out.free 0
    have x1 := HD1.out.free 1
    have x2 := HD1.out.free 2
    have x3 := HD1.out.free 3
    have x4 := HD1.out.free 4
    have HV := Lib.hid hv'
    have hsz2 := hb2.size
    clear hb2 hv'
    go_wp2_with fail
    have HR : BlkN (set5 w2 (w.heap.size + 1) 0 (.int .u8 k2) (.int .i64 n2) (.string s2) (.slice A2 len2 cap2) (.int .i64 r2)) (w.heap.size + 1) 49 #[.int .u8 k2, .int .i64 n2, .string s2, .slice A2 len2 cap2, .int .i64 r2] :=
      set5_blk (o := 0) HD1.out _ _ _ _ _
    have HBF : Below w.heap.size w (set5 w2 (w.heap.size + 1) 0 (.int .u8 k2) (.int .i64 n2) (.string s2) (.slice A2 len2 cap2) (.int .i64 r2)) := by
      unfold set5
      exact ((((HB2.out.setCell (by simp) _).setCell (by simp) _).setCell (by simp) _).setCell (by simp) _).setCell (by simp) _
    have HVF : IsVaR (set5 w2 (w.heap.size + 1) 0 (.int .u8 k2) (.int .i64 n2) (.string s2) (.slice A2 len2 cap2) (.int .i64 r2)) (Own34 (set5 w2 (w.heap.size + 1) 0 (.int .u8 k2) (.int .i64 n2) (.string s2) (.slice A2 len2 cap2) (.int .i64 r2)) w.heap.size) (.agg #[.int .u8 k2, .int .i64 n2, .string s2, .slice A2 len2 cap2, .int .i64 r2]) y := by
      have hk : ∀ b o, Own34 w2 w1.heap.size b o → (set5 w2 (w.heap.size + 1) 0 (.int .u8 k2) (.int .i64 n2) (.string s2) (.slice A2 len2 cap2) (.int .i64 r2)).heap[b]? = w2.heap[b]? := fun b o hr => set5_other _ _ _ _ _ _ _ _ (by have := hr.1; omega)
      exact (HV.out.keep hk).mono (fun b o hr => ⟨by have := hr.1; omega, hr.2.1, let ⟨cur, hc⟩ := hr.2.2; ⟨cur, (hk b o hr).trans hc⟩⟩)
    generalize hWF : set5 w2 (w.heap.size + 1) 0 (.int .u8 k2) (.int .i64 n2) (.string s2) (.slice A2 len2 cap2) (.int .i64 r2) = WF at HR HBF HVF
    have hW2 : ((((w2.setCell ⟨w.heap.size + 1, 0, Option.none⟩ (.int .u8 k2)).setCell ⟨w.heap.size + 1, 1, Option.none⟩ (.int .i64 n2)).setCell ⟨w.heap.size + 1, 2, Option.none⟩ (.string s2)).setCell ⟨w.heap.size + 1, 3, Option.none⟩ (.slice A2 len2 cap2)).setCell ⟨w.heap.size + 1, 4, Option.none⟩ (.int .i64 r2) = WF := hWF
    rw [hW2]
    clear hW2 hWF
    have y0 := HR.cell 0 rfl
    have y1 := HR.cell 1 rfl
    have y2 := HR.cell 2 rfl
    have y3 := HR.cell 3 rfl
    have y4 := HR.cell 4 rfl
    refine bodyPost_ret (v := .tuple #[.agg #[.int .u8 k2, .int .i64 n2, .string s2, .slice A2 len2 cap2, .int .i64 r2], .int .i64 0]) (by simp [results, Try.results61, go_sem, y0, y1, y2, y3, y4]) rfl ⟨_, by rw [(ownXE_yes HM.out).2], ?_, HBF⟩
    rw [(ownXE_yes HM.out).1]
    exact HVF

end Go.Proofs.Ythafojadcodkoaa
