/- The statement WordBack, where what it reads is of bulk at most 1048576: a value that may be is read out of its text, unlike ones have unlike texts, what is read is written as it was; bytes quoted are told back. -/
import Derived.Test.YtkhpfghehjcfoaaDoorT
import Derived.Test.YtkhpfghehjcfoaaDoorYb
import Derived.Test.YtkhpfghehjcfoaaDoorYc
import Derived.Test.YtkhpfghehjcfoaaDoorXk
import Derived.Test.YtkhpfghehjcfoaaDoorXl
import Derived.Test.YtkhpfghehjcfoaaDoorZc
namespace Go.Proofs.YtkhpfghehjcfoaaDoor
open Go.ChangeShapes Go.WideShapes Go.ChangeAt Go.RowKit

theorem bulk_all {H : Type} {l : List (DataW H)} (h : Rows.uptoSmall H l = true) (d : DataW H) (hd : d ∈ l) : Rows.uptoBulk d ≤ 1048576 := by
  unfold Rows.uptoSmall at h
  have h := of_decide_eq_true h
  have := bulk_mem hd
  omega
theorem readX_text (x : Va) (h : mayV x = true) (hf : Fit x) : readX (txtV (textL x)) = (x, 0, 0) := by
  have e : (txtV (textL x)).data.toList = textL x := rfl
  unfold readX
  rw [e, read_text x h hf]
theorem readX_inv (s : ByteArray) : (readX s).2.2 = 30 ∨ ((readX s).2.2 = 0 ∧ mayV (readX s).1 = true ∧ txtV (textL (readX s).1) = s ∧ Fit (readX s).1) := by
  unfold readX
  cases h : readL s.data.toList with
  | no t => exact .inl rfl
  | ok x t =>
    obtain ⟨h1, h2, h3⟩ := text_read _ x t h
    exact .inr ⟨rfl, h1, by rw [show (x, (0 : Int), (0 : Int)).1 = x from rfl, h2, txtV_data], h3⟩
theorem unqX_quote (s : ByteArray) : unqX (txtV (quoteL s.data.toList)) = (s, 0, 0) := by
  have e : (txtV (quoteL s.data.toList)).data.toList = quoteL s.data.toList := rfl
  unfold unqX
  rw [e, unq_quote s.data.toList _ (by
    show s.data.toList.length ≤ (quoteL s.data.toList).length
    unfold quoteL
    have : ∀ l : L8, l.length ≤ (qbs l).length := by
      intro l
      induction l with
      | nil => simp [qbs]
      | cons c t ih => have := (qb_len c).1; simp [qbs]; omega
    have := this s.data.toList
    simp at this ⊢; omega)]
  simp only
  rw [txtV_data]
theorem unqX_inv (s : ByteArray) : (unqX s).2.2 = 30 ∨ ((unqX s).2.2 = 0 ∧ txtV (quoteL (unqX s).1.data.toList) = s) := by
  unfold unqX
  cases h : unqL s.size s.data.toList with
  | no t => exact .inl rfl
  | ok x t =>
    refine .inr ⟨rfl, ?_⟩
    have := quote_unq _ _ _ _ h
    show txtV (quoteL x) = s
    rw [this, txtV_data]
theorem texts_alike (a b : Va) (ha : mayV a = true) (hb : mayV b = true) (hfa : Fit a) (hfb : Fit b) : ((txtV (textL a)).toList == (txtV (textL b)).toList) = sameV a b := by
  cases h : sameV a b with
  | true => rw [sameV_eq a b h]; simp
  | false =>
    rw [beq_eq_false_iff_ne]
    intro e
    rw [Lib.toList_data, Lib.toList_data] at e
    have e : textL a = textL b := e
    have h1 := read_text a ha hfa
    rw [e, read_text b hb hfb] at h1
    injection h1 with h1
    rw [h1, sameV_refl] at h
    cases h
theorem len_unq (s : ByteArray) : (unqX s).1.size ≤ s.size := by
  unfold unqX
  cases h : unqL s.size s.data.toList with
  | no t => exact Nat.zero_le _
  | ok x t =>
    have h1 := congrArg List.length (quote_unq _ _ _ _ h)
    have : ∀ l : L8, l.length ≤ (qbs l).length := by
      intro l
      induction l with
      | nil => simp [qbs]
      | cons c t ih => have := (qb_len c).1; simp [qbs]; omega
    have := this x
    unfold quoteL at h1
    simp at h1
    show x.length ≤ s.size
    omega
set_option maxRecDepth 100000 in
set_option maxHeartbeats 8000000 in
theorem back_law (a b : Va) (va vb : Value) (s : ByteArray) (hs : s.size ≤ 1048576) (w : World) (ha : IsVa w w.heap.size va a) (hb : IsVa w w.heap.size vb b) (hfa : Fit a) (hfb : Fit b) (hv : Vars w) :
    Calls Tryd.prog 6 #[va, vb, .string s] w fun e w' => e = .returned (.bool true) ∧ Below w.heap.size w w' := by
  have HA := Lib.hid ha
  have HBV := Lib.hid hb
  obtain ⟨ka, na, sa, Aa, lena, capa, ra, rfl⟩ := ha.shape
  obtain ⟨kb, nb, sb, Ab, lenb, capb, rb, rfl⟩ := hb.shape
  clear ha hb
  have HV := Lib.hid hv
  clear hv
  have KA : Hid (∀ w', Below w.heap.size w w' → IsVa w' w.heap.size (.agg #[.int .u8 ka, .int .i64 na, .string sa, .slice Aa lena capa, .int .i64 ra]) a) := Lib.hid (fun w' hb => HA.out.keep fun b h => hb.block b h)
  have KB : Hid (∀ w', Below w.heap.size w w' → IsVa w' w.heap.size (.agg #[.int .u8 kb, .int .i64 nb, .string sb, .slice Ab lenb capb, .int .i64 rb]) b) := Lib.hid (fun w' hb => HBV.out.keep fun b h => hb.block b h)
  have C15 := Lib.hid (fun w' (hb : Below w.heap.size w w') => awake_any w' (HV.out.on hb))
  have C23a := Lib.hid (fun w' (hb : Below w.heap.size w w') => great_any a w' w.heap.size _ 20000 (KA.out w' hb) hb.size (by omega) (by omega))
  have C23b := Lib.hid (fun w' (hb : Below w.heap.size w w') => great_any b w' w.heap.size _ 20000 (KB.out w' hb) hb.size (by omega) (by omega))
  have C24a := Lib.hid (fun w' (hb : Below w.heap.size w w') => Text_any w' (KA.out w' hb) hb.size hfa (HV.out.tab.on hb))
  have C24b := Lib.hid (fun w' (hb : Below w.heap.size w w') => Text_any w' (KB.out w' hb) hb.size hfb (HV.out.tab.on hb))
  have C25a := Lib.hid (fun w' (hb : Below w.heap.size w w') => mayb_any w' (KA.out w' hb) hb.size)
  have C25b := Lib.hid (fun w' (hb : Below w.heap.size w w') => mayb_any w' (KB.out w' hb) hb.size)
  have C26 := Lib.hid (fun w' (hb : Below w.heap.size w w') => alike_any a b w' w.heap.size w.heap.size _ _ (KA.out w' hb) (KB.out w' hb) hb.size hb.size)
  obtain ⟨ga, hga⟩ : ∃ g, g = greatL a 20000 := ⟨_, rfl⟩
  obtain ⟨gb, hgb⟩ : ∃ g, g = greatL b 20000 := ⟨_, rfl⟩
  obtain ⟨ma, hma⟩ : ∃ m, m = mayV a := ⟨_, rfl⟩
  obtain ⟨mb, hmb⟩ : ∃ m, m = mayV b := ⟨_, rfl⟩
  have HMA : Hid (0 ≤ ga → mayB a = ma) := Lib.hid (fun h => by unfold mayB; rw [← hga, decide_eq_true h, hma]; rfl)
  have HMB : Hid (0 ≤ gb → mayB b = mb) := Lib.hid (fun h => by unfold mayB; rw [← hgb, decide_eq_true h, hmb]; rfl)
  rw [← hga] at C23a
  rw [← hgb] at C23b
  have HMAV := Lib.hid hma
  have HMBV := Lib.hid hmb
  clear hga hgb hma hmb
  have HFA := Lib.hid hfa
  have HFB := Lib.hid hfb
  clear hfa hfb
  go_enter Tryd.func6, Tryd.ntmps6
  go_upto_region 1 with fail
  obtain ⟨W, hW⟩ : ∃ W, W = (w.alloc (.cells #[.int .u8 ka, .int .i64 na, .string sa, .slice Aa lena capa, .int .i64 ra] 26)).alloc (.cells #[.int .u8 kb, .int .i64 nb, .string sb, .slice Ab lenb capb, .int .i64 rb] 26) := ⟨_, rfl⟩
  have HBW : Hid (Below w.heap.size w W) := Lib.hid (by rw [hW]; exact ((Below.refl _ w).alloc (Nat.le_refl _) _).alloc (by simp) _)
  have H0 : Hid (BlkN W w.heap.size 26 #[.int .u8 ka, .int .i64 na, .string sa, .slice Aa lena capa, .int .i64 ra]) := Lib.hid (by rw [hW]; exact (BlkN.at_ rfl _ _).alloc _)
  have H1 : Hid (BlkN W (w.heap.size + 1) 26 #[.int .u8 kb, .int .i64 nb, .string sb, .slice Ab lenb capb, .int .i64 rb]) := Lib.hid (by rw [hW]; exact BlkN.at_ (by simp) _ _)
  rw [← hW]
  clear hW
  have hl0 := H0.out.lt
  have hl1 := H1.out.lt
  have t0 := H0.out.cell 0 rfl
  have t1 := H0.out.cell 1 rfl
  have t2 := H0.out.cell 2 rfl
  have t3 := H0.out.cell 3 rfl
  have t4 := H0.out.cell 4 rfl
  have u0 := H1.out.cell 0 rfl
  have u1 := H1.out.cell 1 rfl
  have u2 := H1.out.cell 2 rfl
  have u3 := H1.out.cell 3 rfl
  have u4 := H1.out.cell 4 rfl
  have HBW' := HBW
  by_cases hbig : ga < 0 ∨ gb < 0
  · have hcase : ga < 0 ∨ (¬ ga < 0 ∧ gb < 0) := by omega
    clear hbig
    rcases hcase with h | ⟨h, h2⟩
    · go_wp2_with (first
        | (go_at_call 23; (with_reducible refine (C23a.out _ HBW.out).mono ?_); rintro e w1 ⟨⟨rfl, hg0⟩, hb1⟩; have HB1 := Lib.hid (bnext HBW.out hb1); clear hl0 hl1 t0 t1 t2 t3 t4 u0 u1 u2 u3 u4; have H01 := Lib.hid (H0.out.below hb1); have H11 := Lib.hid (H1.out.below hb1); have hl0 := H01.out.lt; have hl1 := H11.out.lt; have t0 := H01.out.cell 0 rfl; have u0 := H11.out.cell 0 rfl; have t1 := H01.out.cell 1 rfl; have u1 := H11.out.cell 1 rfl; have t2 := H01.out.cell 2 rfl; have u2 := H11.out.cell 2 rfl; have t3 := H01.out.cell 3 rfl; have u3 := H11.out.cell 3 rfl; have t4 := H01.out.cell 4 rfl; have u4 := H11.out.cell 4 rfl; clear hb1)
        | (go_at_call 15; refine (C15.out _ HB1.out).mono ?_; rintro e w5 ⟨rfl, hb5⟩))
      go_ret
      exact ⟨rfl, bnext HB1.out hb5⟩
    · go_wp2_with (first
        | (go_at_call 23; (with_reducible refine (C23a.out _ HBW.out).mono ?_); rintro e w1 ⟨⟨rfl, hg0⟩, hb1⟩; have HB1 := Lib.hid (bnext HBW.out hb1); clear hl0 hl1 t0 t1 t2 t3 t4 u0 u1 u2 u3 u4; have H01 := Lib.hid (H0.out.below hb1); have H11 := Lib.hid (H1.out.below hb1); have hl0 := H01.out.lt; have hl1 := H11.out.lt; have t0 := H01.out.cell 0 rfl; have u0 := H11.out.cell 0 rfl; have t1 := H01.out.cell 1 rfl; have u1 := H11.out.cell 1 rfl; have t2 := H01.out.cell 2 rfl; have u2 := H11.out.cell 2 rfl; have t3 := H01.out.cell 3 rfl; have u3 := H11.out.cell 3 rfl; have t4 := H01.out.cell 4 rfl; have u4 := H11.out.cell 4 rfl; clear hb1)
        | (go_at_call 23; (with_reducible refine (C23b.out _ HB1.out).mono ?_); rintro e w2 ⟨⟨rfl, hg0'⟩, hb2⟩; have HB2 := Lib.hid (bnext HB1.out hb2); clear hl0 hl1 t0 t1 t2 t3 t4 u0 u1 u2 u3 u4; have H02 := Lib.hid (H01.out.below hb2); have H12 := Lib.hid (H11.out.below hb2); have hl0 := H02.out.lt; have hl1 := H12.out.lt; have t0 := H02.out.cell 0 rfl; have u0 := H12.out.cell 0 rfl; have t1 := H02.out.cell 1 rfl; have u1 := H12.out.cell 1 rfl; have t2 := H02.out.cell 2 rfl; have u2 := H12.out.cell 2 rfl; have t3 := H02.out.cell 3 rfl; have u3 := H12.out.cell 3 rfl; have t4 := H02.out.cell 4 rfl; have u4 := H12.out.cell 4 rfl; clear hb2)
        | (go_at_call 15; refine (C15.out _ HB2.out).mono ?_; rintro e w5 ⟨rfl, hb5⟩))
      go_ret
      exact ⟨rfl, bnext HB2.out hb5⟩
  have hga : ¬ ga < 0 := by omega
  have hgb : ¬ gb < 0 := by omega
  clear hbig
  rw [HMA.out (by omega)] at C25a
  rw [HMB.out (by omega)] at C25b
  clear HMA HMB
  obtain ⟨TA, hTA⟩ : ∃ T, T = txtV (textL a) := ⟨_, rfl⟩
  obtain ⟨TB, hTB⟩ : ∃ T, T = txtV (textL b) := ⟨_, rfl⟩
  have HTA := Lib.hid hTA
  have HTB := Lib.hid hTB
  have HTAS : Hid (mayV a = true → TA.size ≤ 140737488351232) := Lib.hid (fun h => by
    have h1 := textL_len a HFA.out
    have h2 := mayV_sz a h
    rw [hTA]
    show (textL a).length ≤ _
    omega)
  clear hTA hTB
  obtain ⟨XS, aS, eS, hXS⟩ : ∃ X a e, readX s = (X, a, e) := ⟨_, _, _, rfl⟩
  have C12s : Hid (∀ w', Calls Tryd.prog 12 #[.string s] w' fun e w2 => Below w'.heap.size w' w2 ∧ ∃ k n t A len cap r, e = .returned (.tuple #[.agg #[.int .u8 k, .int .i64 n, .string t, .slice A len cap, .int .i64 r], .int .i64 aS, .int .i64 eS]) ∧ IsVaR w2 (Own34 w2 w'.heap.size) (.agg #[.int .u8 k, .int .i64 n, .string t, .slice A len cap, .int .i64 r]) XS) :=
    Lib.hid (fun w' => (read_any s (by omega) w').mono fun e w2 h => ⟨h.1, by have := h.2.x; rw [hXS] at this; exact this⟩)
  have HRI : Hid (eS = 30 ∨ (eS = 0 ∧ mayV XS = true ∧ txtV (textL XS) = s ∧ Fit XS)) := Lib.hid (by have := readX_inv s; rw [hXS] at this; exact this)
  obtain ⟨xu, au, eu, hXU⟩ : ∃ X a e, unqX s = (X, a, e) := ⟨_, _, _, rfl⟩
  have HUI : Hid (eu = 30 ∨ (eu = 0 ∧ txtV (quoteL xu.data.toList) = s)) := Lib.hid (by have := unqX_inv s; rw [hXU] at this; exact this)
  have hxl : xu.size ≤ s.size := by have := len_unq s; rw [hXU] at this; exact this
  have C16 := Lib.hid (fun w' => (unquote_any s (by omega) w').mono fun e w2 h => (show Below w'.heap.size w' w2 ∧ e = .returned (.tuple #[.string xu, .int .i64 au, .int .i64 eu]) from ⟨h.1, by have := h.2.x; rw [hXU] at this; exact this⟩))
  obtain ⟨Q, hQ⟩ : ∃ Q, Q = txtV (quoteL s.data.toList) := ⟨_, rfl⟩
  have hQs : Q.size ≤ 140737488351232 := by
    rw [hQ]
    show (quoteL s.data.toList).length ≤ _
    have := quoteL_len s.data.toList
    simp at this
    omega
  have C16q := Lib.hid (fun w' => (unquote_any Q hQs w').mono fun e w2 h => (show Below w'.heap.size w' w2 ∧ e = .returned (.tuple #[.string s, .int .i64 0, .int .i64 0]) from ⟨h.1, by have := h.2.x; rw [hQ, unqX_quote] at this; exact this⟩))
  have C18 := Lib.hid (fun w' => (Quote_any s (by omega) w'))
  rw [← hQ] at C18
  have C18x := Lib.hid (fun w' => (Quote_any xu (by omega) w'))
  clear hXS hXU hQ hQs hxl
  go_upto_region 3 with (first
    | (go_at_call 23; (with_reducible refine (C23a.out _ HBW.out).mono ?_); rintro e w1 ⟨⟨rfl, hg0⟩, hb1⟩; have HB1 := Lib.hid (bnext HBW.out hb1); clear hl0 hl1 t0 t1 t2 t3 t4 u0 u1 u2 u3 u4; have H01 := Lib.hid (H0.out.below hb1); have H11 := Lib.hid (H1.out.below hb1); have hl0 := H01.out.lt; have hl1 := H11.out.lt; have t0 := H01.out.cell 0 rfl; have u0 := H11.out.cell 0 rfl; have t1 := H01.out.cell 1 rfl; have u1 := H11.out.cell 1 rfl; have t2 := H01.out.cell 2 rfl; have u2 := H11.out.cell 2 rfl; have t3 := H01.out.cell 3 rfl; have u3 := H11.out.cell 3 rfl; have t4 := H01.out.cell 4 rfl; have u4 := H11.out.cell 4 rfl; clear hb1)
    | (go_at_call 23; (with_reducible refine (C23b.out _ HB1.out).mono ?_); rintro e w2 ⟨⟨rfl, hg0'⟩, hb2⟩; have HB2 := Lib.hid (bnext HB1.out hb2); clear hl0 hl1 t0 t1 t2 t3 t4 u0 u1 u2 u3 u4; have H02 := Lib.hid (H01.out.below hb2); have H12 := Lib.hid (H11.out.below hb2); have hl0 := H02.out.lt; have hl1 := H12.out.lt; have t0 := H02.out.cell 0 rfl; have u0 := H12.out.cell 0 rfl; have t1 := H02.out.cell 1 rfl; have u1 := H12.out.cell 1 rfl; have t2 := H02.out.cell 2 rfl; have u2 := H12.out.cell 2 rfl; have t3 := H02.out.cell 3 rfl; have u3 := H12.out.cell 3 rfl; have t4 := H02.out.cell 4 rfl; have u4 := H12.out.cell 4 rfl; clear hb2))
  clear C23a C23b hga hgb hg0 hg0'
  cases ma with
  | false =>
    cases mb with
    | false =>
      have C24a1 := Lib.hid (fun w' (hb : Below w.heap.size w w') => (C24a.out w' hb).mono fun e w2 h => (show Below w'.heap.size w' w2 ∧ e = .returned (.tuple #[.string ⟨#[]⟩, .int .i64 2]) from ⟨h.1, by rw [h.2]; unfold textR; rw [← HMAV.out]; rfl⟩))
      have C24b1 := Lib.hid (fun w' (hb : Below w.heap.size w w') => (C24b.out w' hb).mono fun e w2 h => (show Below w'.heap.size w' w2 ∧ e = .returned (.tuple #[.string ⟨#[]⟩, .int .i64 2]) from ⟨h.1, by rw [h.2]; unfold textR; rw [← HMBV.out]; rfl⟩))
      clear C24a C24b
      go_upto_region 4 with (first | (go_at_call 24; (with_reducible refine (C24a1.out _ HB2.out).mono ?_); rintro e w3 ⟨hb3, rfl⟩; have HB3 := Lib.hid (bnext HB2.out hb3); clear hl0 hl1 t0 t1 t2 t3 t4 u0 u1 u2 u3 u4; have H03 := Lib.hid (H02.out.below hb3); have H13 := Lib.hid (H12.out.below hb3); have hl0 := H03.out.lt; have hl1 := H13.out.lt; have t0 := H03.out.cell 0 rfl; have u0 := H13.out.cell 0 rfl; have t1 := H03.out.cell 1 rfl; have u1 := H13.out.cell 1 rfl; have t2 := H03.out.cell 2 rfl; have u2 := H13.out.cell 2 rfl; have t3 := H03.out.cell 3 rfl; have u3 := H13.out.cell 3 rfl; have t4 := H03.out.cell 4 rfl; have u4 := H13.out.cell 4 rfl; clear hb3))
      go_upto_region 5 with (first | (go_at_call 24; (with_reducible refine (C24b1.out _ HB3.out).mono ?_); rintro e w4 ⟨hb4, rfl⟩; have HB4 := Lib.hid (bnext HB3.out hb4); clear hl0 hl1 t0 t1 t2 t3 t4 u0 u1 u2 u3 u4; have H04 := Lib.hid (H03.out.below hb4); have H14 := Lib.hid (H13.out.below hb4); have hl0 := H04.out.lt; have hl1 := H14.out.lt; have t0 := H04.out.cell 0 rfl; have u0 := H14.out.cell 0 rfl; have t1 := H04.out.cell 1 rfl; have u1 := H14.out.cell 1 rfl; have t2 := H04.out.cell 2 rfl; have u2 := H14.out.cell 2 rfl; have t3 := H04.out.cell 3 rfl; have u3 := H14.out.cell 3 rfl; have t4 := H04.out.cell 4 rfl; have u4 := H14.out.cell 4 rfl; clear hb4))
      go_upto_region 7 with (first
        | (go_at_call 25; (with_reducible refine (C25a.out _ HB4.out).mono ?_); rintro e w5 ⟨rfl, hb5⟩; have HB5 := Lib.hid (bnext HB4.out hb5); clear hl0 hl1 t0 t1 t2 t3 t4 u0 u1 u2 u3 u4; have H05 := Lib.hid (H04.out.below hb5); have H15 := Lib.hid (H14.out.below hb5); have hl0 := H05.out.lt; have hl1 := H15.out.lt; have t0 := H05.out.cell 0 rfl; have u0 := H15.out.cell 0 rfl; have t1 := H05.out.cell 1 rfl; have u1 := H15.out.cell 1 rfl; have t2 := H05.out.cell 2 rfl; have u2 := H15.out.cell 2 rfl; have t3 := H05.out.cell 3 rfl; have u3 := H15.out.cell 3 rfl; have t4 := H05.out.cell 4 rfl; have u4 := H15.out.cell 4 rfl; clear hb5)
        | (go_at_call 25; (with_reducible refine (C25b.out _ HB5.out).mono ?_); rintro e w6 ⟨rfl, hb6⟩; have HB6 := Lib.hid (bnext HB5.out hb6); clear hl0 hl1 t0 t1 t2 t3 t4 u0 u1 u2 u3 u4; have H06 := Lib.hid (H05.out.below hb6); have H16 := Lib.hid (H15.out.below hb6); have hl0 := H06.out.lt; have hl1 := H16.out.lt; have t0 := H06.out.cell 0 rfl; have u0 := H16.out.cell 0 rfl; have t1 := H06.out.cell 1 rfl; have u1 := H16.out.cell 1 rfl; have t2 := H06.out.cell 2 rfl; have u2 := H16.out.cell 2 rfl; have t3 := H06.out.cell 3 rfl; have u3 := H16.out.cell 3 rfl; have t4 := H06.out.cell 4 rfl; have u4 := H16.out.cell 4 rfl; clear hb6))
      go_upto_region 14 with (first | (go_at_call 12; (with_reducible refine (C12s.out _).mono ?_); rintro e w3q ⟨hb3q, k3q, n3q, s3q, A3q, len3q, cap3q, r3q, rfl, hx3q⟩; have HB3q := Lib.hid (bnext HB6.out hb3q); have HX3q := Lib.hid hx3q; clear hl0 hl1 t0 t1 t2 t3 t4 u0 u1 u2 u3 u4; have H03q := Lib.hid (H06.out.below hb3q); have H13q := Lib.hid (H16.out.below hb3q); have hl0 := H03q.out.lt; have hl1 := H13q.out.lt; have t0 := H03q.out.cell 0 rfl; have u0 := H13q.out.cell 0 rfl; have t1 := H03q.out.cell 1 rfl; have u1 := H13q.out.cell 1 rfl; have t2 := H03q.out.cell 2 rfl; have u2 := H13q.out.cell 2 rfl; have t3 := H03q.out.cell 3 rfl; have u3 := H13q.out.cell 3 rfl; have t4 := H03q.out.cell 4 rfl; have u4 := H13q.out.cell 4 rfl; clear hb3q hx3q))
      obtain ⟨X3q, hX3q⟩ : ∃ X, X = w3q.alloc (.cells #[.int .u8 k3q, .int .i64 n3q, .string s3q, .slice A3q len3q cap3q, .int .i64 r3q] 26) := ⟨_, rfl⟩
      have hb3qx : Below w3q.heap.size w3q X3q := by rw [hX3q]; exact (Below.refl _ _).alloc (Nat.le_refl _) _
      have HC3q : Hid (BlkN X3q w3q.heap.size 26 #[.int .u8 k3q, .int .i64 n3q, .string s3q, .slice A3q len3q cap3q, .int .i64 r3q]) := Lib.hid (by rw [hX3q]; exact BlkN.at_ rfl _ _)
      have HX3qx := Lib.hid (HX3q.out.below hb3qx)
      have HB3qx := Lib.hid (bnext HB3q.out hb3qx)
      have H03qx := Lib.hid (H03q.out.below hb3qx)
      have H13qx := Lib.hid (H13q.out.below hb3qx)
      rw [← hX3q]
      clear hX3q hb3qx hl0 hl1 t0 t1 t2 t3 t4 u0 u1 u2 u3 u4
      have hl0 := H03qx.out.lt
      have hl1 := H13qx.out.lt
      have hlc := HC3q.out.lt
      have t0 := H03qx.out.cell 0 rfl
      have u0 := H13qx.out.cell 0 rfl
      have c0 := HC3q.out.cell 0 rfl
      have t1 := H03qx.out.cell 1 rfl
      have u1 := H13qx.out.cell 1 rfl
      have c1 := HC3q.out.cell 1 rfl
      have t2 := H03qx.out.cell 2 rfl
      have u2 := H13qx.out.cell 2 rfl
      have c2 := HC3q.out.cell 2 rfl
      have t3 := H03qx.out.cell 3 rfl
      have u3 := H13qx.out.cell 3 rfl
      have c3 := HC3q.out.cell 3 rfl
      have t4 := H03qx.out.cell 4 rfl
      have u4 := H13qx.out.cell 4 rfl
      have c4 := HC3q.out.cell 4 rfl
      rcases HRI.out with hr2 | ⟨hr2, hr3, hr4, hr5⟩
      · subst hr2
        clear c0 c1 c2 c3 c4 hlc
        go_upto_region 21 with (first
          | (go_at_call 18; (with_reducible refine (C18.out _).mono ?_); rintro e w6q ⟨hb6q, rfl⟩; have HB6q := Lib.hid (bnext HB3qx.out hb6q); clear hl0 hl1 t0 t1 t2 t3 t4 u0 u1 u2 u3 u4; have H06q := Lib.hid (H03qx.out.below hb6q); have H16q := Lib.hid (H13qx.out.below hb6q); have hl0 := H06q.out.lt; have hl1 := H16q.out.lt; have t0 := H06q.out.cell 0 rfl; have u0 := H16q.out.cell 0 rfl; have t1 := H06q.out.cell 1 rfl; have u1 := H16q.out.cell 1 rfl; have t2 := H06q.out.cell 2 rfl; have u2 := H16q.out.cell 2 rfl; have t3 := H06q.out.cell 3 rfl; have u3 := H16q.out.cell 3 rfl; have t4 := H06q.out.cell 4 rfl; have u4 := H16q.out.cell 4 rfl; clear hb6q)
          | (go_at_call 16; (with_reducible refine (C16q.out _).mono ?_); rintro e w7q ⟨hb7q, rfl⟩; have HB7q := Lib.hid (bnext HB6q.out hb7q); clear hl0 hl1 t0 t1 t2 t3 t4 u0 u1 u2 u3 u4; have H07q := Lib.hid (H06q.out.below hb7q); have H17q := Lib.hid (H16q.out.below hb7q); have hl0 := H07q.out.lt; have hl1 := H17q.out.lt; have t0 := H07q.out.cell 0 rfl; have u0 := H17q.out.cell 0 rfl; have t1 := H07q.out.cell 1 rfl; have u1 := H17q.out.cell 1 rfl; have t2 := H07q.out.cell 2 rfl; have u2 := H17q.out.cell 2 rfl; have t3 := H07q.out.cell 3 rfl; have u3 := H17q.out.cell 3 rfl; have t4 := H07q.out.cell 4 rfl; have u4 := H17q.out.cell 4 rfl; clear hb7q))
        rcases HUI.out with hu2 | ⟨hu2, hu3⟩
        · subst hu2
          go_wp2_with (first
            | (go_at_call 16; (with_reducible refine (C16.out _).mono ?_); rintro e w8q ⟨hb8q, rfl⟩; have HB8q := Lib.hid (bnext HB7q.out hb8q); clear hl0 hl1 t0 t1 t2 t3 t4 u0 u1 u2 u3 u4; have H08q := Lib.hid (H07q.out.below hb8q); have H18q := Lib.hid (H17q.out.below hb8q); have hl0 := H08q.out.lt; have hl1 := H18q.out.lt; have t0 := H08q.out.cell 0 rfl; have u0 := H18q.out.cell 0 rfl; have t1 := H08q.out.cell 1 rfl; have u1 := H18q.out.cell 1 rfl; have t2 := H08q.out.cell 2 rfl; have u2 := H18q.out.cell 2 rfl; have t3 := H08q.out.cell 3 rfl; have u3 := H18q.out.cell 3 rfl; have t4 := H08q.out.cell 4 rfl; have u4 := H18q.out.cell 4 rfl; clear hb8q)
            | (go_at_call 15; (with_reducible refine (C15.out _ HB8q.out).mono ?_); rintro e w9 ⟨rfl, hb9⟩; have HBE := Lib.hid (bnext HB8q.out hb9)))
          go_ret
          exact ⟨rfl, HBE.out⟩
        · subst hu2
          rw [hu3] at C18x
          go_wp2_with (first
            | (go_at_call 16; (with_reducible refine (C16.out _).mono ?_); rintro e w8q ⟨hb8q, rfl⟩; have HB8q := Lib.hid (bnext HB7q.out hb8q); clear hl0 hl1 t0 t1 t2 t3 t4 u0 u1 u2 u3 u4; have H08q := Lib.hid (H07q.out.below hb8q); have H18q := Lib.hid (H17q.out.below hb8q); have hl0 := H08q.out.lt; have hl1 := H18q.out.lt; have t0 := H08q.out.cell 0 rfl; have u0 := H18q.out.cell 0 rfl; have t1 := H08q.out.cell 1 rfl; have u1 := H18q.out.cell 1 rfl; have t2 := H08q.out.cell 2 rfl; have u2 := H18q.out.cell 2 rfl; have t3 := H08q.out.cell 3 rfl; have u3 := H18q.out.cell 3 rfl; have t4 := H08q.out.cell 4 rfl; have u4 := H18q.out.cell 4 rfl; clear hb8q)
            | (go_at_call 18; (with_reducible refine (C18x.out _).mono ?_); rintro e w9q ⟨hb9q, rfl⟩; have HB9q := Lib.hid (bnext HB8q.out hb9q); clear hl0 hl1 t0 t1 t2 t3 t4 u0 u1 u2 u3 u4; have H09q := Lib.hid (H08q.out.below hb9q); have H19q := Lib.hid (H18q.out.below hb9q); have hl0 := H09q.out.lt; have hl1 := H19q.out.lt; have t0 := H09q.out.cell 0 rfl; have u0 := H19q.out.cell 0 rfl; have t1 := H09q.out.cell 1 rfl; have u1 := H19q.out.cell 1 rfl; have t2 := H09q.out.cell 2 rfl; have u2 := H19q.out.cell 2 rfl; have t3 := H09q.out.cell 3 rfl; have u3 := H19q.out.cell 3 rfl; have t4 := H09q.out.cell 4 rfl; have u4 := H19q.out.cell 4 rfl; clear hb9q)
            | (go_at_call 15; (with_reducible refine (C15.out _ HB9q.out).mono ?_); rintro e w9 ⟨rfl, hb9⟩; have HBE := Lib.hid (bnext HB9q.out hb9)))
          go_ret
          exact ⟨rfl, HBE.out⟩
      · subst hr2
        have C24x := Lib.hid (Text_any (B := X3q.heap.size) X3q (HX3qx.out.mono fun b o h => h.lt) (Nat.le_refl _) hr5 (HV.out.tab.on HB3qx.out))
        rw [show textR XS = (textL XS, 0) by unfold textR; rw [hr3]; rfl, hr4] at C24x
        go_upto_region 18 with (first | (go_at_call 24; (with_reducible refine (C24x.out).mono ?_); rintro e w5q ⟨hb5q, rfl⟩; have HB5q := Lib.hid (bnext HB3qx.out hb5q); clear hl0 hl1 t0 t1 t2 t3 t4 u0 u1 u2 u3 u4; have H05q := Lib.hid (H03qx.out.below hb5q); have H15q := Lib.hid (H13qx.out.below hb5q); have hl0 := H05q.out.lt; have hl1 := H15q.out.lt; have t0 := H05q.out.cell 0 rfl; have u0 := H15q.out.cell 0 rfl; have t1 := H05q.out.cell 1 rfl; have u1 := H15q.out.cell 1 rfl; have t2 := H05q.out.cell 2 rfl; have u2 := H15q.out.cell 2 rfl; have t3 := H05q.out.cell 3 rfl; have u3 := H15q.out.cell 3 rfl; have t4 := H05q.out.cell 4 rfl; have u4 := H15q.out.cell 4 rfl; clear hb5q))
        clear c0 c1 c2 c3 c4 hlc
        go_upto_region 21 with (first
          | (go_at_call 18; (with_reducible refine (C18.out _).mono ?_); rintro e w6q ⟨hb6q, rfl⟩; have HB6q := Lib.hid (bnext HB5q.out hb6q); clear hl0 hl1 t0 t1 t2 t3 t4 u0 u1 u2 u3 u4; have H06q := Lib.hid (H05q.out.below hb6q); have H16q := Lib.hid (H15q.out.below hb6q); have hl0 := H06q.out.lt; have hl1 := H16q.out.lt; have t0 := H06q.out.cell 0 rfl; have u0 := H16q.out.cell 0 rfl; have t1 := H06q.out.cell 1 rfl; have u1 := H16q.out.cell 1 rfl; have t2 := H06q.out.cell 2 rfl; have u2 := H16q.out.cell 2 rfl; have t3 := H06q.out.cell 3 rfl; have u3 := H16q.out.cell 3 rfl; have t4 := H06q.out.cell 4 rfl; have u4 := H16q.out.cell 4 rfl; clear hb6q)
          | (go_at_call 16; (with_reducible refine (C16q.out _).mono ?_); rintro e w7q ⟨hb7q, rfl⟩; have HB7q := Lib.hid (bnext HB6q.out hb7q); clear hl0 hl1 t0 t1 t2 t3 t4 u0 u1 u2 u3 u4; have H07q := Lib.hid (H06q.out.below hb7q); have H17q := Lib.hid (H16q.out.below hb7q); have hl0 := H07q.out.lt; have hl1 := H17q.out.lt; have t0 := H07q.out.cell 0 rfl; have u0 := H17q.out.cell 0 rfl; have t1 := H07q.out.cell 1 rfl; have u1 := H17q.out.cell 1 rfl; have t2 := H07q.out.cell 2 rfl; have u2 := H17q.out.cell 2 rfl; have t3 := H07q.out.cell 3 rfl; have u3 := H17q.out.cell 3 rfl; have t4 := H07q.out.cell 4 rfl; have u4 := H17q.out.cell 4 rfl; clear hb7q))
        rcases HUI.out with hu2 | ⟨hu2, hu3⟩
        · subst hu2
          go_wp2_with (first
            | (go_at_call 16; (with_reducible refine (C16.out _).mono ?_); rintro e w8q ⟨hb8q, rfl⟩; have HB8q := Lib.hid (bnext HB7q.out hb8q); clear hl0 hl1 t0 t1 t2 t3 t4 u0 u1 u2 u3 u4; have H08q := Lib.hid (H07q.out.below hb8q); have H18q := Lib.hid (H17q.out.below hb8q); have hl0 := H08q.out.lt; have hl1 := H18q.out.lt; have t0 := H08q.out.cell 0 rfl; have u0 := H18q.out.cell 0 rfl; have t1 := H08q.out.cell 1 rfl; have u1 := H18q.out.cell 1 rfl; have t2 := H08q.out.cell 2 rfl; have u2 := H18q.out.cell 2 rfl; have t3 := H08q.out.cell 3 rfl; have u3 := H18q.out.cell 3 rfl; have t4 := H08q.out.cell 4 rfl; have u4 := H18q.out.cell 4 rfl; clear hb8q)
            | (go_at_call 15; (with_reducible refine (C15.out _ HB8q.out).mono ?_); rintro e w9 ⟨rfl, hb9⟩; have HBE := Lib.hid (bnext HB8q.out hb9)))
          go_ret
          exact ⟨rfl, HBE.out⟩
        · subst hu2
          rw [hu3] at C18x
          go_wp2_with (first
            | (go_at_call 16; (with_reducible refine (C16.out _).mono ?_); rintro e w8q ⟨hb8q, rfl⟩; have HB8q := Lib.hid (bnext HB7q.out hb8q); clear hl0 hl1 t0 t1 t2 t3 t4 u0 u1 u2 u3 u4; have H08q := Lib.hid (H07q.out.below hb8q); have H18q := Lib.hid (H17q.out.below hb8q); have hl0 := H08q.out.lt; have hl1 := H18q.out.lt; have t0 := H08q.out.cell 0 rfl; have u0 := H18q.out.cell 0 rfl; have t1 := H08q.out.cell 1 rfl; have u1 := H18q.out.cell 1 rfl; have t2 := H08q.out.cell 2 rfl; have u2 := H18q.out.cell 2 rfl; have t3 := H08q.out.cell 3 rfl; have u3 := H18q.out.cell 3 rfl; have t4 := H08q.out.cell 4 rfl; have u4 := H18q.out.cell 4 rfl; clear hb8q)
            | (go_at_call 18; (with_reducible refine (C18x.out _).mono ?_); rintro e w9q ⟨hb9q, rfl⟩; have HB9q := Lib.hid (bnext HB8q.out hb9q); clear hl0 hl1 t0 t1 t2 t3 t4 u0 u1 u2 u3 u4; have H09q := Lib.hid (H08q.out.below hb9q); have H19q := Lib.hid (H18q.out.below hb9q); have hl0 := H09q.out.lt; have hl1 := H19q.out.lt; have t0 := H09q.out.cell 0 rfl; have u0 := H19q.out.cell 0 rfl; have t1 := H09q.out.cell 1 rfl; have u1 := H19q.out.cell 1 rfl; have t2 := H09q.out.cell 2 rfl; have u2 := H19q.out.cell 2 rfl; have t3 := H09q.out.cell 3 rfl; have u3 := H19q.out.cell 3 rfl; have t4 := H09q.out.cell 4 rfl; have u4 := H19q.out.cell 4 rfl; clear hb9q)
            | (go_at_call 15; (with_reducible refine (C15.out _ HB9q.out).mono ?_); rintro e w9 ⟨rfl, hb9⟩; have HBE := Lib.hid (bnext HB9q.out hb9)))
          go_ret
          exact ⟨rfl, HBE.out⟩
    | true =>
      have C24a1 := Lib.hid (fun w' (hb : Below w.heap.size w w') => (C24a.out w' hb).mono fun e w2 h => (show Below w'.heap.size w' w2 ∧ e = .returned (.tuple #[.string ⟨#[]⟩, .int .i64 2]) from ⟨h.1, by rw [h.2]; unfold textR; rw [← HMAV.out]; rfl⟩))
      have C24b1 := Lib.hid (fun w' (hb : Below w.heap.size w w') => (C24b.out w' hb).mono fun e w2 h => (show Below w'.heap.size w' w2 ∧ e = .returned (.tuple #[.string TB, .int .i64 0]) from ⟨h.1, by rw [h.2]; unfold textR; rw [← HMBV.out]; rw [HTB.out]; rfl⟩))
      clear C24a C24b
      go_upto_region 4 with (first | (go_at_call 24; (with_reducible refine (C24a1.out _ HB2.out).mono ?_); rintro e w3 ⟨hb3, rfl⟩; have HB3 := Lib.hid (bnext HB2.out hb3); clear hl0 hl1 t0 t1 t2 t3 t4 u0 u1 u2 u3 u4; have H03 := Lib.hid (H02.out.below hb3); have H13 := Lib.hid (H12.out.below hb3); have hl0 := H03.out.lt; have hl1 := H13.out.lt; have t0 := H03.out.cell 0 rfl; have u0 := H13.out.cell 0 rfl; have t1 := H03.out.cell 1 rfl; have u1 := H13.out.cell 1 rfl; have t2 := H03.out.cell 2 rfl; have u2 := H13.out.cell 2 rfl; have t3 := H03.out.cell 3 rfl; have u3 := H13.out.cell 3 rfl; have t4 := H03.out.cell 4 rfl; have u4 := H13.out.cell 4 rfl; clear hb3))
      go_upto_region 5 with (first | (go_at_call 24; (with_reducible refine (C24b1.out _ HB3.out).mono ?_); rintro e w4 ⟨hb4, rfl⟩; have HB4 := Lib.hid (bnext HB3.out hb4); clear hl0 hl1 t0 t1 t2 t3 t4 u0 u1 u2 u3 u4; have H04 := Lib.hid (H03.out.below hb4); have H14 := Lib.hid (H13.out.below hb4); have hl0 := H04.out.lt; have hl1 := H14.out.lt; have t0 := H04.out.cell 0 rfl; have u0 := H14.out.cell 0 rfl; have t1 := H04.out.cell 1 rfl; have u1 := H14.out.cell 1 rfl; have t2 := H04.out.cell 2 rfl; have u2 := H14.out.cell 2 rfl; have t3 := H04.out.cell 3 rfl; have u3 := H14.out.cell 3 rfl; have t4 := H04.out.cell 4 rfl; have u4 := H14.out.cell 4 rfl; clear hb4))
      go_upto_region 7 with (first
        | (go_at_call 25; (with_reducible refine (C25a.out _ HB4.out).mono ?_); rintro e w5 ⟨rfl, hb5⟩; have HB5 := Lib.hid (bnext HB4.out hb5); clear hl0 hl1 t0 t1 t2 t3 t4 u0 u1 u2 u3 u4; have H05 := Lib.hid (H04.out.below hb5); have H15 := Lib.hid (H14.out.below hb5); have hl0 := H05.out.lt; have hl1 := H15.out.lt; have t0 := H05.out.cell 0 rfl; have u0 := H15.out.cell 0 rfl; have t1 := H05.out.cell 1 rfl; have u1 := H15.out.cell 1 rfl; have t2 := H05.out.cell 2 rfl; have u2 := H15.out.cell 2 rfl; have t3 := H05.out.cell 3 rfl; have u3 := H15.out.cell 3 rfl; have t4 := H05.out.cell 4 rfl; have u4 := H15.out.cell 4 rfl; clear hb5)
        | (go_at_call 25; (with_reducible refine (C25b.out _ HB5.out).mono ?_); rintro e w6 ⟨rfl, hb6⟩; have HB6 := Lib.hid (bnext HB5.out hb6); clear hl0 hl1 t0 t1 t2 t3 t4 u0 u1 u2 u3 u4; have H06 := Lib.hid (H05.out.below hb6); have H16 := Lib.hid (H15.out.below hb6); have hl0 := H06.out.lt; have hl1 := H16.out.lt; have t0 := H06.out.cell 0 rfl; have u0 := H16.out.cell 0 rfl; have t1 := H06.out.cell 1 rfl; have u1 := H16.out.cell 1 rfl; have t2 := H06.out.cell 2 rfl; have u2 := H16.out.cell 2 rfl; have t3 := H06.out.cell 3 rfl; have u3 := H16.out.cell 3 rfl; have t4 := H06.out.cell 4 rfl; have u4 := H16.out.cell 4 rfl; clear hb6))
      go_upto_region 14 with (first | (go_at_call 12; (with_reducible refine (C12s.out _).mono ?_); rintro e w3q ⟨hb3q, k3q, n3q, s3q, A3q, len3q, cap3q, r3q, rfl, hx3q⟩; have HB3q := Lib.hid (bnext HB6.out hb3q); have HX3q := Lib.hid hx3q; clear hl0 hl1 t0 t1 t2 t3 t4 u0 u1 u2 u3 u4; have H03q := Lib.hid (H06.out.below hb3q); have H13q := Lib.hid (H16.out.below hb3q); have hl0 := H03q.out.lt; have hl1 := H13q.out.lt; have t0 := H03q.out.cell 0 rfl; have u0 := H13q.out.cell 0 rfl; have t1 := H03q.out.cell 1 rfl; have u1 := H13q.out.cell 1 rfl; have t2 := H03q.out.cell 2 rfl; have u2 := H13q.out.cell 2 rfl; have t3 := H03q.out.cell 3 rfl; have u3 := H13q.out.cell 3 rfl; have t4 := H03q.out.cell 4 rfl; have u4 := H13q.out.cell 4 rfl; clear hb3q hx3q))
      obtain ⟨X3q, hX3q⟩ : ∃ X, X = w3q.alloc (.cells #[.int .u8 k3q, .int .i64 n3q, .string s3q, .slice A3q len3q cap3q, .int .i64 r3q] 26) := ⟨_, rfl⟩
      have hb3qx : Below w3q.heap.size w3q X3q := by rw [hX3q]; exact (Below.refl _ _).alloc (Nat.le_refl _) _
      have HC3q : Hid (BlkN X3q w3q.heap.size 26 #[.int .u8 k3q, .int .i64 n3q, .string s3q, .slice A3q len3q cap3q, .int .i64 r3q]) := Lib.hid (by rw [hX3q]; exact BlkN.at_ rfl _ _)
      have HX3qx := Lib.hid (HX3q.out.below hb3qx)
      have HB3qx := Lib.hid (bnext HB3q.out hb3qx)
      have H03qx := Lib.hid (H03q.out.below hb3qx)
      have H13qx := Lib.hid (H13q.out.below hb3qx)
      rw [← hX3q]
      clear hX3q hb3qx hl0 hl1 t0 t1 t2 t3 t4 u0 u1 u2 u3 u4
      have hl0 := H03qx.out.lt
      have hl1 := H13qx.out.lt
      have hlc := HC3q.out.lt
      have t0 := H03qx.out.cell 0 rfl
      have u0 := H13qx.out.cell 0 rfl
      have c0 := HC3q.out.cell 0 rfl
      have t1 := H03qx.out.cell 1 rfl
      have u1 := H13qx.out.cell 1 rfl
      have c1 := HC3q.out.cell 1 rfl
      have t2 := H03qx.out.cell 2 rfl
      have u2 := H13qx.out.cell 2 rfl
      have c2 := HC3q.out.cell 2 rfl
      have t3 := H03qx.out.cell 3 rfl
      have u3 := H13qx.out.cell 3 rfl
      have c3 := HC3q.out.cell 3 rfl
      have t4 := H03qx.out.cell 4 rfl
      have u4 := H13qx.out.cell 4 rfl
      have c4 := HC3q.out.cell 4 rfl
      rcases HRI.out with hr2 | ⟨hr2, hr3, hr4, hr5⟩
      · subst hr2
        clear c0 c1 c2 c3 c4 hlc
        go_upto_region 21 with (first
          | (go_at_call 18; (with_reducible refine (C18.out _).mono ?_); rintro e w6q ⟨hb6q, rfl⟩; have HB6q := Lib.hid (bnext HB3qx.out hb6q); clear hl0 hl1 t0 t1 t2 t3 t4 u0 u1 u2 u3 u4; have H06q := Lib.hid (H03qx.out.below hb6q); have H16q := Lib.hid (H13qx.out.below hb6q); have hl0 := H06q.out.lt; have hl1 := H16q.out.lt; have t0 := H06q.out.cell 0 rfl; have u0 := H16q.out.cell 0 rfl; have t1 := H06q.out.cell 1 rfl; have u1 := H16q.out.cell 1 rfl; have t2 := H06q.out.cell 2 rfl; have u2 := H16q.out.cell 2 rfl; have t3 := H06q.out.cell 3 rfl; have u3 := H16q.out.cell 3 rfl; have t4 := H06q.out.cell 4 rfl; have u4 := H16q.out.cell 4 rfl; clear hb6q)
          | (go_at_call 16; (with_reducible refine (C16q.out _).mono ?_); rintro e w7q ⟨hb7q, rfl⟩; have HB7q := Lib.hid (bnext HB6q.out hb7q); clear hl0 hl1 t0 t1 t2 t3 t4 u0 u1 u2 u3 u4; have H07q := Lib.hid (H06q.out.below hb7q); have H17q := Lib.hid (H16q.out.below hb7q); have hl0 := H07q.out.lt; have hl1 := H17q.out.lt; have t0 := H07q.out.cell 0 rfl; have u0 := H17q.out.cell 0 rfl; have t1 := H07q.out.cell 1 rfl; have u1 := H17q.out.cell 1 rfl; have t2 := H07q.out.cell 2 rfl; have u2 := H17q.out.cell 2 rfl; have t3 := H07q.out.cell 3 rfl; have u3 := H17q.out.cell 3 rfl; have t4 := H07q.out.cell 4 rfl; have u4 := H17q.out.cell 4 rfl; clear hb7q))
        rcases HUI.out with hu2 | ⟨hu2, hu3⟩
        · subst hu2
          go_wp2_with (first
            | (go_at_call 16; (with_reducible refine (C16.out _).mono ?_); rintro e w8q ⟨hb8q, rfl⟩; have HB8q := Lib.hid (bnext HB7q.out hb8q); clear hl0 hl1 t0 t1 t2 t3 t4 u0 u1 u2 u3 u4; have H08q := Lib.hid (H07q.out.below hb8q); have H18q := Lib.hid (H17q.out.below hb8q); have hl0 := H08q.out.lt; have hl1 := H18q.out.lt; have t0 := H08q.out.cell 0 rfl; have u0 := H18q.out.cell 0 rfl; have t1 := H08q.out.cell 1 rfl; have u1 := H18q.out.cell 1 rfl; have t2 := H08q.out.cell 2 rfl; have u2 := H18q.out.cell 2 rfl; have t3 := H08q.out.cell 3 rfl; have u3 := H18q.out.cell 3 rfl; have t4 := H08q.out.cell 4 rfl; have u4 := H18q.out.cell 4 rfl; clear hb8q)
            | (go_at_call 15; (with_reducible refine (C15.out _ HB8q.out).mono ?_); rintro e w9 ⟨rfl, hb9⟩; have HBE := Lib.hid (bnext HB8q.out hb9)))
          go_ret
          exact ⟨rfl, HBE.out⟩
        · subst hu2
          rw [hu3] at C18x
          go_wp2_with (first
            | (go_at_call 16; (with_reducible refine (C16.out _).mono ?_); rintro e w8q ⟨hb8q, rfl⟩; have HB8q := Lib.hid (bnext HB7q.out hb8q); clear hl0 hl1 t0 t1 t2 t3 t4 u0 u1 u2 u3 u4; have H08q := Lib.hid (H07q.out.below hb8q); have H18q := Lib.hid (H17q.out.below hb8q); have hl0 := H08q.out.lt; have hl1 := H18q.out.lt; have t0 := H08q.out.cell 0 rfl; have u0 := H18q.out.cell 0 rfl; have t1 := H08q.out.cell 1 rfl; have u1 := H18q.out.cell 1 rfl; have t2 := H08q.out.cell 2 rfl; have u2 := H18q.out.cell 2 rfl; have t3 := H08q.out.cell 3 rfl; have u3 := H18q.out.cell 3 rfl; have t4 := H08q.out.cell 4 rfl; have u4 := H18q.out.cell 4 rfl; clear hb8q)
            | (go_at_call 18; (with_reducible refine (C18x.out _).mono ?_); rintro e w9q ⟨hb9q, rfl⟩; have HB9q := Lib.hid (bnext HB8q.out hb9q); clear hl0 hl1 t0 t1 t2 t3 t4 u0 u1 u2 u3 u4; have H09q := Lib.hid (H08q.out.below hb9q); have H19q := Lib.hid (H18q.out.below hb9q); have hl0 := H09q.out.lt; have hl1 := H19q.out.lt; have t0 := H09q.out.cell 0 rfl; have u0 := H19q.out.cell 0 rfl; have t1 := H09q.out.cell 1 rfl; have u1 := H19q.out.cell 1 rfl; have t2 := H09q.out.cell 2 rfl; have u2 := H19q.out.cell 2 rfl; have t3 := H09q.out.cell 3 rfl; have u3 := H19q.out.cell 3 rfl; have t4 := H09q.out.cell 4 rfl; have u4 := H19q.out.cell 4 rfl; clear hb9q)
            | (go_at_call 15; (with_reducible refine (C15.out _ HB9q.out).mono ?_); rintro e w9 ⟨rfl, hb9⟩; have HBE := Lib.hid (bnext HB9q.out hb9)))
          go_ret
          exact ⟨rfl, HBE.out⟩
      · subst hr2
        have C24x := Lib.hid (Text_any (B := X3q.heap.size) X3q (HX3qx.out.mono fun b o h => h.lt) (Nat.le_refl _) hr5 (HV.out.tab.on HB3qx.out))
        rw [show textR XS = (textL XS, 0) by unfold textR; rw [hr3]; rfl, hr4] at C24x
        go_upto_region 18 with (first | (go_at_call 24; (with_reducible refine (C24x.out).mono ?_); rintro e w5q ⟨hb5q, rfl⟩; have HB5q := Lib.hid (bnext HB3qx.out hb5q); clear hl0 hl1 t0 t1 t2 t3 t4 u0 u1 u2 u3 u4; have H05q := Lib.hid (H03qx.out.below hb5q); have H15q := Lib.hid (H13qx.out.below hb5q); have hl0 := H05q.out.lt; have hl1 := H15q.out.lt; have t0 := H05q.out.cell 0 rfl; have u0 := H15q.out.cell 0 rfl; have t1 := H05q.out.cell 1 rfl; have u1 := H15q.out.cell 1 rfl; have t2 := H05q.out.cell 2 rfl; have u2 := H15q.out.cell 2 rfl; have t3 := H05q.out.cell 3 rfl; have u3 := H15q.out.cell 3 rfl; have t4 := H05q.out.cell 4 rfl; have u4 := H15q.out.cell 4 rfl; clear hb5q))
        clear c0 c1 c2 c3 c4 hlc
        go_upto_region 21 with (first
          | (go_at_call 18; (with_reducible refine (C18.out _).mono ?_); rintro e w6q ⟨hb6q, rfl⟩; have HB6q := Lib.hid (bnext HB5q.out hb6q); clear hl0 hl1 t0 t1 t2 t3 t4 u0 u1 u2 u3 u4; have H06q := Lib.hid (H05q.out.below hb6q); have H16q := Lib.hid (H15q.out.below hb6q); have hl0 := H06q.out.lt; have hl1 := H16q.out.lt; have t0 := H06q.out.cell 0 rfl; have u0 := H16q.out.cell 0 rfl; have t1 := H06q.out.cell 1 rfl; have u1 := H16q.out.cell 1 rfl; have t2 := H06q.out.cell 2 rfl; have u2 := H16q.out.cell 2 rfl; have t3 := H06q.out.cell 3 rfl; have u3 := H16q.out.cell 3 rfl; have t4 := H06q.out.cell 4 rfl; have u4 := H16q.out.cell 4 rfl; clear hb6q)
          | (go_at_call 16; (with_reducible refine (C16q.out _).mono ?_); rintro e w7q ⟨hb7q, rfl⟩; have HB7q := Lib.hid (bnext HB6q.out hb7q); clear hl0 hl1 t0 t1 t2 t3 t4 u0 u1 u2 u3 u4; have H07q := Lib.hid (H06q.out.below hb7q); have H17q := Lib.hid (H16q.out.below hb7q); have hl0 := H07q.out.lt; have hl1 := H17q.out.lt; have t0 := H07q.out.cell 0 rfl; have u0 := H17q.out.cell 0 rfl; have t1 := H07q.out.cell 1 rfl; have u1 := H17q.out.cell 1 rfl; have t2 := H07q.out.cell 2 rfl; have u2 := H17q.out.cell 2 rfl; have t3 := H07q.out.cell 3 rfl; have u3 := H17q.out.cell 3 rfl; have t4 := H07q.out.cell 4 rfl; have u4 := H17q.out.cell 4 rfl; clear hb7q))
        rcases HUI.out with hu2 | ⟨hu2, hu3⟩
        · subst hu2
          go_wp2_with (first
            | (go_at_call 16; (with_reducible refine (C16.out _).mono ?_); rintro e w8q ⟨hb8q, rfl⟩; have HB8q := Lib.hid (bnext HB7q.out hb8q); clear hl0 hl1 t0 t1 t2 t3 t4 u0 u1 u2 u3 u4; have H08q := Lib.hid (H07q.out.below hb8q); have H18q := Lib.hid (H17q.out.below hb8q); have hl0 := H08q.out.lt; have hl1 := H18q.out.lt; have t0 := H08q.out.cell 0 rfl; have u0 := H18q.out.cell 0 rfl; have t1 := H08q.out.cell 1 rfl; have u1 := H18q.out.cell 1 rfl; have t2 := H08q.out.cell 2 rfl; have u2 := H18q.out.cell 2 rfl; have t3 := H08q.out.cell 3 rfl; have u3 := H18q.out.cell 3 rfl; have t4 := H08q.out.cell 4 rfl; have u4 := H18q.out.cell 4 rfl; clear hb8q)
            | (go_at_call 15; (with_reducible refine (C15.out _ HB8q.out).mono ?_); rintro e w9 ⟨rfl, hb9⟩; have HBE := Lib.hid (bnext HB8q.out hb9)))
          go_ret
          exact ⟨rfl, HBE.out⟩
        · subst hu2
          rw [hu3] at C18x
          go_wp2_with (first
            | (go_at_call 16; (with_reducible refine (C16.out _).mono ?_); rintro e w8q ⟨hb8q, rfl⟩; have HB8q := Lib.hid (bnext HB7q.out hb8q); clear hl0 hl1 t0 t1 t2 t3 t4 u0 u1 u2 u3 u4; have H08q := Lib.hid (H07q.out.below hb8q); have H18q := Lib.hid (H17q.out.below hb8q); have hl0 := H08q.out.lt; have hl1 := H18q.out.lt; have t0 := H08q.out.cell 0 rfl; have u0 := H18q.out.cell 0 rfl; have t1 := H08q.out.cell 1 rfl; have u1 := H18q.out.cell 1 rfl; have t2 := H08q.out.cell 2 rfl; have u2 := H18q.out.cell 2 rfl; have t3 := H08q.out.cell 3 rfl; have u3 := H18q.out.cell 3 rfl; have t4 := H08q.out.cell 4 rfl; have u4 := H18q.out.cell 4 rfl; clear hb8q)
            | (go_at_call 18; (with_reducible refine (C18x.out _).mono ?_); rintro e w9q ⟨hb9q, rfl⟩; have HB9q := Lib.hid (bnext HB8q.out hb9q); clear hl0 hl1 t0 t1 t2 t3 t4 u0 u1 u2 u3 u4; have H09q := Lib.hid (H08q.out.below hb9q); have H19q := Lib.hid (H18q.out.below hb9q); have hl0 := H09q.out.lt; have hl1 := H19q.out.lt; have t0 := H09q.out.cell 0 rfl; have u0 := H19q.out.cell 0 rfl; have t1 := H09q.out.cell 1 rfl; have u1 := H19q.out.cell 1 rfl; have t2 := H09q.out.cell 2 rfl; have u2 := H19q.out.cell 2 rfl; have t3 := H09q.out.cell 3 rfl; have u3 := H19q.out.cell 3 rfl; have t4 := H09q.out.cell 4 rfl; have u4 := H19q.out.cell 4 rfl; clear hb9q)
            | (go_at_call 15; (with_reducible refine (C15.out _ HB9q.out).mono ?_); rintro e w9 ⟨rfl, hb9⟩; have HBE := Lib.hid (bnext HB9q.out hb9)))
          go_ret
          exact ⟨rfl, HBE.out⟩
  | true =>
    cases mb with
    | false =>
      have C24a1 := Lib.hid (fun w' (hb : Below w.heap.size w w') => (C24a.out w' hb).mono fun e w2 h => (show Below w'.heap.size w' w2 ∧ e = .returned (.tuple #[.string TA, .int .i64 0]) from ⟨h.1, by rw [h.2]; unfold textR; rw [← HMAV.out]; rw [HTA.out]; rfl⟩))
      have C24b1 := Lib.hid (fun w' (hb : Below w.heap.size w w') => (C24b.out w' hb).mono fun e w2 h => (show Below w'.heap.size w' w2 ∧ e = .returned (.tuple #[.string ⟨#[]⟩, .int .i64 2]) from ⟨h.1, by rw [h.2]; unfold textR; rw [← HMBV.out]; rfl⟩))
      clear C24a C24b
      go_upto_region 4 with (first | (go_at_call 24; (with_reducible refine (C24a1.out _ HB2.out).mono ?_); rintro e w3 ⟨hb3, rfl⟩; have HB3 := Lib.hid (bnext HB2.out hb3); clear hl0 hl1 t0 t1 t2 t3 t4 u0 u1 u2 u3 u4; have H03 := Lib.hid (H02.out.below hb3); have H13 := Lib.hid (H12.out.below hb3); have hl0 := H03.out.lt; have hl1 := H13.out.lt; have t0 := H03.out.cell 0 rfl; have u0 := H13.out.cell 0 rfl; have t1 := H03.out.cell 1 rfl; have u1 := H13.out.cell 1 rfl; have t2 := H03.out.cell 2 rfl; have u2 := H13.out.cell 2 rfl; have t3 := H03.out.cell 3 rfl; have u3 := H13.out.cell 3 rfl; have t4 := H03.out.cell 4 rfl; have u4 := H13.out.cell 4 rfl; clear hb3))
      go_upto_region 5 with (first | (go_at_call 24; (with_reducible refine (C24b1.out _ HB3.out).mono ?_); rintro e w4 ⟨hb4, rfl⟩; have HB4 := Lib.hid (bnext HB3.out hb4); clear hl0 hl1 t0 t1 t2 t3 t4 u0 u1 u2 u3 u4; have H04 := Lib.hid (H03.out.below hb4); have H14 := Lib.hid (H13.out.below hb4); have hl0 := H04.out.lt; have hl1 := H14.out.lt; have t0 := H04.out.cell 0 rfl; have u0 := H14.out.cell 0 rfl; have t1 := H04.out.cell 1 rfl; have u1 := H14.out.cell 1 rfl; have t2 := H04.out.cell 2 rfl; have u2 := H14.out.cell 2 rfl; have t3 := H04.out.cell 3 rfl; have u3 := H14.out.cell 3 rfl; have t4 := H04.out.cell 4 rfl; have u4 := H14.out.cell 4 rfl; clear hb4))
      go_upto_region 7 with (first
        | (go_at_call 25; (with_reducible refine (C25a.out _ HB4.out).mono ?_); rintro e w5 ⟨rfl, hb5⟩; have HB5 := Lib.hid (bnext HB4.out hb5); clear hl0 hl1 t0 t1 t2 t3 t4 u0 u1 u2 u3 u4; have H05 := Lib.hid (H04.out.below hb5); have H15 := Lib.hid (H14.out.below hb5); have hl0 := H05.out.lt; have hl1 := H15.out.lt; have t0 := H05.out.cell 0 rfl; have u0 := H15.out.cell 0 rfl; have t1 := H05.out.cell 1 rfl; have u1 := H15.out.cell 1 rfl; have t2 := H05.out.cell 2 rfl; have u2 := H15.out.cell 2 rfl; have t3 := H05.out.cell 3 rfl; have u3 := H15.out.cell 3 rfl; have t4 := H05.out.cell 4 rfl; have u4 := H15.out.cell 4 rfl; clear hb5)
        | (go_at_call 25; (with_reducible refine (C25b.out _ HB5.out).mono ?_); rintro e w6 ⟨rfl, hb6⟩; have HB6 := Lib.hid (bnext HB5.out hb6); clear hl0 hl1 t0 t1 t2 t3 t4 u0 u1 u2 u3 u4; have H06 := Lib.hid (H05.out.below hb6); have H16 := Lib.hid (H15.out.below hb6); have hl0 := H06.out.lt; have hl1 := H16.out.lt; have t0 := H06.out.cell 0 rfl; have u0 := H16.out.cell 0 rfl; have t1 := H06.out.cell 1 rfl; have u1 := H16.out.cell 1 rfl; have t2 := H06.out.cell 2 rfl; have u2 := H16.out.cell 2 rfl; have t3 := H06.out.cell 3 rfl; have u3 := H16.out.cell 3 rfl; have t4 := H06.out.cell 4 rfl; have u4 := H16.out.cell 4 rfl; clear hb6))
      have C12a : Hid (∀ w', Calls Tryd.prog 12 #[.string TA] w' fun e w2 => Below w'.heap.size w' w2 ∧ ∃ k n t A len cap r, e = .returned (.tuple #[.agg #[.int .u8 k, .int .i64 n, .string t, .slice A len cap, .int .i64 r], .int .i64 0, .int .i64 0]) ∧ IsVaR w2 (Own34 w2 w'.heap.size) (.agg #[.int .u8 k, .int .i64 n, .string t, .slice A len cap, .int .i64 r]) a) :=
        Lib.hid (fun w' => (read_any TA (HTAS.out HMAV.out.symm) w').mono fun e w2 h => ⟨h.1, by have := h.2.x; rw [HTA.out, readX_text a HMAV.out.symm HFA.out] at this; exact this⟩)
      go_upto_region 9 with (first | (go_at_call 12; (with_reducible refine (C12a.out _).mono ?_); rintro e w7 ⟨hb7, k7, n7, s7, A7, len7, cap7, r7, rfl, hx7⟩; have HB7 := Lib.hid (bnext HB6.out hb7); have HX7 := Lib.hid hx7; clear hl0 hl1 t0 t1 t2 t3 t4 u0 u1 u2 u3 u4; have H07 := Lib.hid (H06.out.below hb7); have H17 := Lib.hid (H16.out.below hb7); have hl0 := H07.out.lt; have hl1 := H17.out.lt; have t0 := H07.out.cell 0 rfl; have u0 := H17.out.cell 0 rfl; have t1 := H07.out.cell 1 rfl; have u1 := H17.out.cell 1 rfl; have t2 := H07.out.cell 2 rfl; have u2 := H17.out.cell 2 rfl; have t3 := H07.out.cell 3 rfl; have u3 := H17.out.cell 3 rfl; have t4 := H07.out.cell 4 rfl; have u4 := H17.out.cell 4 rfl; clear hb7 hx7))
      obtain ⟨X7, hX7⟩ : ∃ X, X = w7.alloc (.cells #[.int .u8 k7, .int .i64 n7, .string s7, .slice A7 len7 cap7, .int .i64 r7] 26) := ⟨_, rfl⟩
      have hb7x : Below w7.heap.size w7 X7 := by rw [hX7]; exact (Below.refl _ _).alloc (Nat.le_refl _) _
      have HC7 : Hid (BlkN X7 w7.heap.size 26 #[.int .u8 k7, .int .i64 n7, .string s7, .slice A7 len7 cap7, .int .i64 r7]) := Lib.hid (by rw [hX7]; exact BlkN.at_ rfl _ _)
      have HX7x := Lib.hid (HX7.out.below hb7x)
      have HB7x := Lib.hid (bnext HB7.out hb7x)
      have H07x := Lib.hid (H07.out.below hb7x)
      have H17x := Lib.hid (H17.out.below hb7x)
      rw [← hX7]
      clear hX7 hb7x hl0 hl1 t0 t1 t2 t3 t4 u0 u1 u2 u3 u4
      have hl0 := H07x.out.lt
      have hl1 := H17x.out.lt
      have hlc := HC7.out.lt
      have t0 := H07x.out.cell 0 rfl
      have u0 := H17x.out.cell 0 rfl
      have c0 := HC7.out.cell 0 rfl
      have t1 := H07x.out.cell 1 rfl
      have u1 := H17x.out.cell 1 rfl
      have c1 := HC7.out.cell 1 rfl
      have t2 := H07x.out.cell 2 rfl
      have u2 := H17x.out.cell 2 rfl
      have c2 := HC7.out.cell 2 rfl
      have t3 := H07x.out.cell 3 rfl
      have u3 := H17x.out.cell 3 rfl
      have c3 := HC7.out.cell 3 rfl
      have t4 := H07x.out.cell 4 rfl
      have u4 := H17x.out.cell 4 rfl
      have c4 := HC7.out.cell 4 rfl
      have C26v := Lib.hid (alike_any a a X7 X7.heap.size w.heap.size _ _ (HX7x.out.mono fun b o h => h.lt) (KA.out X7 HB7x.out) (Nat.le_refl _) HB7x.out.size)
      rw [sameV_refl] at C26v
      go_upto_region 11 with (first | (go_at_call 26; (with_reducible refine (C26v.out).mono ?_); rintro e w8 ⟨rfl, hb8⟩; have HB8 := Lib.hid (bnext HB7x.out hb8); clear hl0 hl1 t0 t1 t2 t3 t4 u0 u1 u2 u3 u4; have H08 := Lib.hid (H07x.out.below hb8); have H18 := Lib.hid (H17x.out.below hb8); have hl0 := H08.out.lt; have hl1 := H18.out.lt; have t0 := H08.out.cell 0 rfl; have u0 := H18.out.cell 0 rfl; have t1 := H08.out.cell 1 rfl; have u1 := H18.out.cell 1 rfl; have t2 := H08.out.cell 2 rfl; have u2 := H18.out.cell 2 rfl; have t3 := H08.out.cell 3 rfl; have u3 := H18.out.cell 3 rfl; have t4 := H08.out.cell 4 rfl; have u4 := H18.out.cell 4 rfl; clear hb8))
      clear c0 c1 c2 c3 c4 hlc
      go_upto_region 14 with (first | (go_at_call 12; (with_reducible refine (C12s.out _).mono ?_); rintro e w3q ⟨hb3q, k3q, n3q, s3q, A3q, len3q, cap3q, r3q, rfl, hx3q⟩; have HB3q := Lib.hid (bnext HB8.out hb3q); have HX3q := Lib.hid hx3q; clear hl0 hl1 t0 t1 t2 t3 t4 u0 u1 u2 u3 u4; have H03q := Lib.hid (H08.out.below hb3q); have H13q := Lib.hid (H18.out.below hb3q); have hl0 := H03q.out.lt; have hl1 := H13q.out.lt; have t0 := H03q.out.cell 0 rfl; have u0 := H13q.out.cell 0 rfl; have t1 := H03q.out.cell 1 rfl; have u1 := H13q.out.cell 1 rfl; have t2 := H03q.out.cell 2 rfl; have u2 := H13q.out.cell 2 rfl; have t3 := H03q.out.cell 3 rfl; have u3 := H13q.out.cell 3 rfl; have t4 := H03q.out.cell 4 rfl; have u4 := H13q.out.cell 4 rfl; clear hb3q hx3q))
      obtain ⟨X3q, hX3q⟩ : ∃ X, X = w3q.alloc (.cells #[.int .u8 k3q, .int .i64 n3q, .string s3q, .slice A3q len3q cap3q, .int .i64 r3q] 26) := ⟨_, rfl⟩
      have hb3qx : Below w3q.heap.size w3q X3q := by rw [hX3q]; exact (Below.refl _ _).alloc (Nat.le_refl _) _
      have HC3q : Hid (BlkN X3q w3q.heap.size 26 #[.int .u8 k3q, .int .i64 n3q, .string s3q, .slice A3q len3q cap3q, .int .i64 r3q]) := Lib.hid (by rw [hX3q]; exact BlkN.at_ rfl _ _)
      have HX3qx := Lib.hid (HX3q.out.below hb3qx)
      have HB3qx := Lib.hid (bnext HB3q.out hb3qx)
      have H03qx := Lib.hid (H03q.out.below hb3qx)
      have H13qx := Lib.hid (H13q.out.below hb3qx)
      rw [← hX3q]
      clear hX3q hb3qx hl0 hl1 t0 t1 t2 t3 t4 u0 u1 u2 u3 u4
      have hl0 := H03qx.out.lt
      have hl1 := H13qx.out.lt
      have hlc := HC3q.out.lt
      have t0 := H03qx.out.cell 0 rfl
      have u0 := H13qx.out.cell 0 rfl
      have c0 := HC3q.out.cell 0 rfl
      have t1 := H03qx.out.cell 1 rfl
      have u1 := H13qx.out.cell 1 rfl
      have c1 := HC3q.out.cell 1 rfl
      have t2 := H03qx.out.cell 2 rfl
      have u2 := H13qx.out.cell 2 rfl
      have c2 := HC3q.out.cell 2 rfl
      have t3 := H03qx.out.cell 3 rfl
      have u3 := H13qx.out.cell 3 rfl
      have c3 := HC3q.out.cell 3 rfl
      have t4 := H03qx.out.cell 4 rfl
      have u4 := H13qx.out.cell 4 rfl
      have c4 := HC3q.out.cell 4 rfl
      rcases HRI.out with hr2 | ⟨hr2, hr3, hr4, hr5⟩
      · subst hr2
        clear c0 c1 c2 c3 c4 hlc
        go_upto_region 21 with (first
          | (go_at_call 18; (with_reducible refine (C18.out _).mono ?_); rintro e w6q ⟨hb6q, rfl⟩; have HB6q := Lib.hid (bnext HB3qx.out hb6q); clear hl0 hl1 t0 t1 t2 t3 t4 u0 u1 u2 u3 u4; have H06q := Lib.hid (H03qx.out.below hb6q); have H16q := Lib.hid (H13qx.out.below hb6q); have hl0 := H06q.out.lt; have hl1 := H16q.out.lt; have t0 := H06q.out.cell 0 rfl; have u0 := H16q.out.cell 0 rfl; have t1 := H06q.out.cell 1 rfl; have u1 := H16q.out.cell 1 rfl; have t2 := H06q.out.cell 2 rfl; have u2 := H16q.out.cell 2 rfl; have t3 := H06q.out.cell 3 rfl; have u3 := H16q.out.cell 3 rfl; have t4 := H06q.out.cell 4 rfl; have u4 := H16q.out.cell 4 rfl; clear hb6q)
          | (go_at_call 16; (with_reducible refine (C16q.out _).mono ?_); rintro e w7q ⟨hb7q, rfl⟩; have HB7q := Lib.hid (bnext HB6q.out hb7q); clear hl0 hl1 t0 t1 t2 t3 t4 u0 u1 u2 u3 u4; have H07q := Lib.hid (H06q.out.below hb7q); have H17q := Lib.hid (H16q.out.below hb7q); have hl0 := H07q.out.lt; have hl1 := H17q.out.lt; have t0 := H07q.out.cell 0 rfl; have u0 := H17q.out.cell 0 rfl; have t1 := H07q.out.cell 1 rfl; have u1 := H17q.out.cell 1 rfl; have t2 := H07q.out.cell 2 rfl; have u2 := H17q.out.cell 2 rfl; have t3 := H07q.out.cell 3 rfl; have u3 := H17q.out.cell 3 rfl; have t4 := H07q.out.cell 4 rfl; have u4 := H17q.out.cell 4 rfl; clear hb7q))
        rcases HUI.out with hu2 | ⟨hu2, hu3⟩
        · subst hu2
          go_wp2_with (first
            | (go_at_call 16; (with_reducible refine (C16.out _).mono ?_); rintro e w8q ⟨hb8q, rfl⟩; have HB8q := Lib.hid (bnext HB7q.out hb8q); clear hl0 hl1 t0 t1 t2 t3 t4 u0 u1 u2 u3 u4; have H08q := Lib.hid (H07q.out.below hb8q); have H18q := Lib.hid (H17q.out.below hb8q); have hl0 := H08q.out.lt; have hl1 := H18q.out.lt; have t0 := H08q.out.cell 0 rfl; have u0 := H18q.out.cell 0 rfl; have t1 := H08q.out.cell 1 rfl; have u1 := H18q.out.cell 1 rfl; have t2 := H08q.out.cell 2 rfl; have u2 := H18q.out.cell 2 rfl; have t3 := H08q.out.cell 3 rfl; have u3 := H18q.out.cell 3 rfl; have t4 := H08q.out.cell 4 rfl; have u4 := H18q.out.cell 4 rfl; clear hb8q)
            | (go_at_call 15; (with_reducible refine (C15.out _ HB8q.out).mono ?_); rintro e w9 ⟨rfl, hb9⟩; have HBE := Lib.hid (bnext HB8q.out hb9)))
          go_ret
          exact ⟨rfl, HBE.out⟩
        · subst hu2
          rw [hu3] at C18x
          go_wp2_with (first
            | (go_at_call 16; (with_reducible refine (C16.out _).mono ?_); rintro e w8q ⟨hb8q, rfl⟩; have HB8q := Lib.hid (bnext HB7q.out hb8q); clear hl0 hl1 t0 t1 t2 t3 t4 u0 u1 u2 u3 u4; have H08q := Lib.hid (H07q.out.below hb8q); have H18q := Lib.hid (H17q.out.below hb8q); have hl0 := H08q.out.lt; have hl1 := H18q.out.lt; have t0 := H08q.out.cell 0 rfl; have u0 := H18q.out.cell 0 rfl; have t1 := H08q.out.cell 1 rfl; have u1 := H18q.out.cell 1 rfl; have t2 := H08q.out.cell 2 rfl; have u2 := H18q.out.cell 2 rfl; have t3 := H08q.out.cell 3 rfl; have u3 := H18q.out.cell 3 rfl; have t4 := H08q.out.cell 4 rfl; have u4 := H18q.out.cell 4 rfl; clear hb8q)
            | (go_at_call 18; (with_reducible refine (C18x.out _).mono ?_); rintro e w9q ⟨hb9q, rfl⟩; have HB9q := Lib.hid (bnext HB8q.out hb9q); clear hl0 hl1 t0 t1 t2 t3 t4 u0 u1 u2 u3 u4; have H09q := Lib.hid (H08q.out.below hb9q); have H19q := Lib.hid (H18q.out.below hb9q); have hl0 := H09q.out.lt; have hl1 := H19q.out.lt; have t0 := H09q.out.cell 0 rfl; have u0 := H19q.out.cell 0 rfl; have t1 := H09q.out.cell 1 rfl; have u1 := H19q.out.cell 1 rfl; have t2 := H09q.out.cell 2 rfl; have u2 := H19q.out.cell 2 rfl; have t3 := H09q.out.cell 3 rfl; have u3 := H19q.out.cell 3 rfl; have t4 := H09q.out.cell 4 rfl; have u4 := H19q.out.cell 4 rfl; clear hb9q)
            | (go_at_call 15; (with_reducible refine (C15.out _ HB9q.out).mono ?_); rintro e w9 ⟨rfl, hb9⟩; have HBE := Lib.hid (bnext HB9q.out hb9)))
          go_ret
          exact ⟨rfl, HBE.out⟩
      · subst hr2
        have C24x := Lib.hid (Text_any (B := X3q.heap.size) X3q (HX3qx.out.mono fun b o h => h.lt) (Nat.le_refl _) hr5 (HV.out.tab.on HB3qx.out))
        rw [show textR XS = (textL XS, 0) by unfold textR; rw [hr3]; rfl, hr4] at C24x
        go_upto_region 18 with (first | (go_at_call 24; (with_reducible refine (C24x.out).mono ?_); rintro e w5q ⟨hb5q, rfl⟩; have HB5q := Lib.hid (bnext HB3qx.out hb5q); clear hl0 hl1 t0 t1 t2 t3 t4 u0 u1 u2 u3 u4; have H05q := Lib.hid (H03qx.out.below hb5q); have H15q := Lib.hid (H13qx.out.below hb5q); have hl0 := H05q.out.lt; have hl1 := H15q.out.lt; have t0 := H05q.out.cell 0 rfl; have u0 := H15q.out.cell 0 rfl; have t1 := H05q.out.cell 1 rfl; have u1 := H15q.out.cell 1 rfl; have t2 := H05q.out.cell 2 rfl; have u2 := H15q.out.cell 2 rfl; have t3 := H05q.out.cell 3 rfl; have u3 := H15q.out.cell 3 rfl; have t4 := H05q.out.cell 4 rfl; have u4 := H15q.out.cell 4 rfl; clear hb5q))
        clear c0 c1 c2 c3 c4 hlc
        go_upto_region 21 with (first
          | (go_at_call 18; (with_reducible refine (C18.out _).mono ?_); rintro e w6q ⟨hb6q, rfl⟩; have HB6q := Lib.hid (bnext HB5q.out hb6q); clear hl0 hl1 t0 t1 t2 t3 t4 u0 u1 u2 u3 u4; have H06q := Lib.hid (H05q.out.below hb6q); have H16q := Lib.hid (H15q.out.below hb6q); have hl0 := H06q.out.lt; have hl1 := H16q.out.lt; have t0 := H06q.out.cell 0 rfl; have u0 := H16q.out.cell 0 rfl; have t1 := H06q.out.cell 1 rfl; have u1 := H16q.out.cell 1 rfl; have t2 := H06q.out.cell 2 rfl; have u2 := H16q.out.cell 2 rfl; have t3 := H06q.out.cell 3 rfl; have u3 := H16q.out.cell 3 rfl; have t4 := H06q.out.cell 4 rfl; have u4 := H16q.out.cell 4 rfl; clear hb6q)
          | (go_at_call 16; (with_reducible refine (C16q.out _).mono ?_); rintro e w7q ⟨hb7q, rfl⟩; have HB7q := Lib.hid (bnext HB6q.out hb7q); clear hl0 hl1 t0 t1 t2 t3 t4 u0 u1 u2 u3 u4; have H07q := Lib.hid (H06q.out.below hb7q); have H17q := Lib.hid (H16q.out.below hb7q); have hl0 := H07q.out.lt; have hl1 := H17q.out.lt; have t0 := H07q.out.cell 0 rfl; have u0 := H17q.out.cell 0 rfl; have t1 := H07q.out.cell 1 rfl; have u1 := H17q.out.cell 1 rfl; have t2 := H07q.out.cell 2 rfl; have u2 := H17q.out.cell 2 rfl; have t3 := H07q.out.cell 3 rfl; have u3 := H17q.out.cell 3 rfl; have t4 := H07q.out.cell 4 rfl; have u4 := H17q.out.cell 4 rfl; clear hb7q))
        rcases HUI.out with hu2 | ⟨hu2, hu3⟩
        · subst hu2
          go_wp2_with (first
            | (go_at_call 16; (with_reducible refine (C16.out _).mono ?_); rintro e w8q ⟨hb8q, rfl⟩; have HB8q := Lib.hid (bnext HB7q.out hb8q); clear hl0 hl1 t0 t1 t2 t3 t4 u0 u1 u2 u3 u4; have H08q := Lib.hid (H07q.out.below hb8q); have H18q := Lib.hid (H17q.out.below hb8q); have hl0 := H08q.out.lt; have hl1 := H18q.out.lt; have t0 := H08q.out.cell 0 rfl; have u0 := H18q.out.cell 0 rfl; have t1 := H08q.out.cell 1 rfl; have u1 := H18q.out.cell 1 rfl; have t2 := H08q.out.cell 2 rfl; have u2 := H18q.out.cell 2 rfl; have t3 := H08q.out.cell 3 rfl; have u3 := H18q.out.cell 3 rfl; have t4 := H08q.out.cell 4 rfl; have u4 := H18q.out.cell 4 rfl; clear hb8q)
            | (go_at_call 15; (with_reducible refine (C15.out _ HB8q.out).mono ?_); rintro e w9 ⟨rfl, hb9⟩; have HBE := Lib.hid (bnext HB8q.out hb9)))
          go_ret
          exact ⟨rfl, HBE.out⟩
        · subst hu2
          rw [hu3] at C18x
          go_wp2_with (first
            | (go_at_call 16; (with_reducible refine (C16.out _).mono ?_); rintro e w8q ⟨hb8q, rfl⟩; have HB8q := Lib.hid (bnext HB7q.out hb8q); clear hl0 hl1 t0 t1 t2 t3 t4 u0 u1 u2 u3 u4; have H08q := Lib.hid (H07q.out.below hb8q); have H18q := Lib.hid (H17q.out.below hb8q); have hl0 := H08q.out.lt; have hl1 := H18q.out.lt; have t0 := H08q.out.cell 0 rfl; have u0 := H18q.out.cell 0 rfl; have t1 := H08q.out.cell 1 rfl; have u1 := H18q.out.cell 1 rfl; have t2 := H08q.out.cell 2 rfl; have u2 := H18q.out.cell 2 rfl; have t3 := H08q.out.cell 3 rfl; have u3 := H18q.out.cell 3 rfl; have t4 := H08q.out.cell 4 rfl; have u4 := H18q.out.cell 4 rfl; clear hb8q)
            | (go_at_call 18; (with_reducible refine (C18x.out _).mono ?_); rintro e w9q ⟨hb9q, rfl⟩; have HB9q := Lib.hid (bnext HB8q.out hb9q); clear hl0 hl1 t0 t1 t2 t3 t4 u0 u1 u2 u3 u4; have H09q := Lib.hid (H08q.out.below hb9q); have H19q := Lib.hid (H18q.out.below hb9q); have hl0 := H09q.out.lt; have hl1 := H19q.out.lt; have t0 := H09q.out.cell 0 rfl; have u0 := H19q.out.cell 0 rfl; have t1 := H09q.out.cell 1 rfl; have u1 := H19q.out.cell 1 rfl; have t2 := H09q.out.cell 2 rfl; have u2 := H19q.out.cell 2 rfl; have t3 := H09q.out.cell 3 rfl; have u3 := H19q.out.cell 3 rfl; have t4 := H09q.out.cell 4 rfl; have u4 := H19q.out.cell 4 rfl; clear hb9q)
            | (go_at_call 15; (with_reducible refine (C15.out _ HB9q.out).mono ?_); rintro e w9 ⟨rfl, hb9⟩; have HBE := Lib.hid (bnext HB9q.out hb9)))
          go_ret
          exact ⟨rfl, HBE.out⟩
    | true =>
      have C24a1 := Lib.hid (fun w' (hb : Below w.heap.size w w') => (C24a.out w' hb).mono fun e w2 h => (show Below w'.heap.size w' w2 ∧ e = .returned (.tuple #[.string TA, .int .i64 0]) from ⟨h.1, by rw [h.2]; unfold textR; rw [← HMAV.out]; rw [HTA.out]; rfl⟩))
      have C24b1 := Lib.hid (fun w' (hb : Below w.heap.size w w') => (C24b.out w' hb).mono fun e w2 h => (show Below w'.heap.size w' w2 ∧ e = .returned (.tuple #[.string TB, .int .i64 0]) from ⟨h.1, by rw [h.2]; unfold textR; rw [← HMBV.out]; rw [HTB.out]; rfl⟩))
      clear C24a C24b
      go_upto_region 4 with (first | (go_at_call 24; (with_reducible refine (C24a1.out _ HB2.out).mono ?_); rintro e w3 ⟨hb3, rfl⟩; have HB3 := Lib.hid (bnext HB2.out hb3); clear hl0 hl1 t0 t1 t2 t3 t4 u0 u1 u2 u3 u4; have H03 := Lib.hid (H02.out.below hb3); have H13 := Lib.hid (H12.out.below hb3); have hl0 := H03.out.lt; have hl1 := H13.out.lt; have t0 := H03.out.cell 0 rfl; have u0 := H13.out.cell 0 rfl; have t1 := H03.out.cell 1 rfl; have u1 := H13.out.cell 1 rfl; have t2 := H03.out.cell 2 rfl; have u2 := H13.out.cell 2 rfl; have t3 := H03.out.cell 3 rfl; have u3 := H13.out.cell 3 rfl; have t4 := H03.out.cell 4 rfl; have u4 := H13.out.cell 4 rfl; clear hb3))
      go_upto_region 5 with (first | (go_at_call 24; (with_reducible refine (C24b1.out _ HB3.out).mono ?_); rintro e w4 ⟨hb4, rfl⟩; have HB4 := Lib.hid (bnext HB3.out hb4); clear hl0 hl1 t0 t1 t2 t3 t4 u0 u1 u2 u3 u4; have H04 := Lib.hid (H03.out.below hb4); have H14 := Lib.hid (H13.out.below hb4); have hl0 := H04.out.lt; have hl1 := H14.out.lt; have t0 := H04.out.cell 0 rfl; have u0 := H14.out.cell 0 rfl; have t1 := H04.out.cell 1 rfl; have u1 := H14.out.cell 1 rfl; have t2 := H04.out.cell 2 rfl; have u2 := H14.out.cell 2 rfl; have t3 := H04.out.cell 3 rfl; have u3 := H14.out.cell 3 rfl; have t4 := H04.out.cell 4 rfl; have u4 := H14.out.cell 4 rfl; clear hb4))
      go_upto_region 7 with (first
        | (go_at_call 25; (with_reducible refine (C25a.out _ HB4.out).mono ?_); rintro e w5 ⟨rfl, hb5⟩; have HB5 := Lib.hid (bnext HB4.out hb5); clear hl0 hl1 t0 t1 t2 t3 t4 u0 u1 u2 u3 u4; have H05 := Lib.hid (H04.out.below hb5); have H15 := Lib.hid (H14.out.below hb5); have hl0 := H05.out.lt; have hl1 := H15.out.lt; have t0 := H05.out.cell 0 rfl; have u0 := H15.out.cell 0 rfl; have t1 := H05.out.cell 1 rfl; have u1 := H15.out.cell 1 rfl; have t2 := H05.out.cell 2 rfl; have u2 := H15.out.cell 2 rfl; have t3 := H05.out.cell 3 rfl; have u3 := H15.out.cell 3 rfl; have t4 := H05.out.cell 4 rfl; have u4 := H15.out.cell 4 rfl; clear hb5)
        | (go_at_call 25; (with_reducible refine (C25b.out _ HB5.out).mono ?_); rintro e w6 ⟨rfl, hb6⟩; have HB6 := Lib.hid (bnext HB5.out hb6); clear hl0 hl1 t0 t1 t2 t3 t4 u0 u1 u2 u3 u4; have H06 := Lib.hid (H05.out.below hb6); have H16 := Lib.hid (H15.out.below hb6); have hl0 := H06.out.lt; have hl1 := H16.out.lt; have t0 := H06.out.cell 0 rfl; have u0 := H16.out.cell 0 rfl; have t1 := H06.out.cell 1 rfl; have u1 := H16.out.cell 1 rfl; have t2 := H06.out.cell 2 rfl; have u2 := H16.out.cell 2 rfl; have t3 := H06.out.cell 3 rfl; have u3 := H16.out.cell 3 rfl; have t4 := H06.out.cell 4 rfl; have u4 := H16.out.cell 4 rfl; clear hb6))
      have C12a : Hid (∀ w', Calls Tryd.prog 12 #[.string TA] w' fun e w2 => Below w'.heap.size w' w2 ∧ ∃ k n t A len cap r, e = .returned (.tuple #[.agg #[.int .u8 k, .int .i64 n, .string t, .slice A len cap, .int .i64 r], .int .i64 0, .int .i64 0]) ∧ IsVaR w2 (Own34 w2 w'.heap.size) (.agg #[.int .u8 k, .int .i64 n, .string t, .slice A len cap, .int .i64 r]) a) :=
        Lib.hid (fun w' => (read_any TA (HTAS.out HMAV.out.symm) w').mono fun e w2 h => ⟨h.1, by have := h.2.x; rw [HTA.out, readX_text a HMAV.out.symm HFA.out] at this; exact this⟩)
      go_upto_region 9 with (first | (go_at_call 12; (with_reducible refine (C12a.out _).mono ?_); rintro e w7 ⟨hb7, k7, n7, s7, A7, len7, cap7, r7, rfl, hx7⟩; have HB7 := Lib.hid (bnext HB6.out hb7); have HX7 := Lib.hid hx7; clear hl0 hl1 t0 t1 t2 t3 t4 u0 u1 u2 u3 u4; have H07 := Lib.hid (H06.out.below hb7); have H17 := Lib.hid (H16.out.below hb7); have hl0 := H07.out.lt; have hl1 := H17.out.lt; have t0 := H07.out.cell 0 rfl; have u0 := H17.out.cell 0 rfl; have t1 := H07.out.cell 1 rfl; have u1 := H17.out.cell 1 rfl; have t2 := H07.out.cell 2 rfl; have u2 := H17.out.cell 2 rfl; have t3 := H07.out.cell 3 rfl; have u3 := H17.out.cell 3 rfl; have t4 := H07.out.cell 4 rfl; have u4 := H17.out.cell 4 rfl; clear hb7 hx7))
      obtain ⟨X7, hX7⟩ : ∃ X, X = w7.alloc (.cells #[.int .u8 k7, .int .i64 n7, .string s7, .slice A7 len7 cap7, .int .i64 r7] 26) := ⟨_, rfl⟩
      have hb7x : Below w7.heap.size w7 X7 := by rw [hX7]; exact (Below.refl _ _).alloc (Nat.le_refl _) _
      have HC7 : Hid (BlkN X7 w7.heap.size 26 #[.int .u8 k7, .int .i64 n7, .string s7, .slice A7 len7 cap7, .int .i64 r7]) := Lib.hid (by rw [hX7]; exact BlkN.at_ rfl _ _)
      have HX7x := Lib.hid (HX7.out.below hb7x)
      have HB7x := Lib.hid (bnext HB7.out hb7x)
      have H07x := Lib.hid (H07.out.below hb7x)
      have H17x := Lib.hid (H17.out.below hb7x)
      rw [← hX7]
      clear hX7 hb7x hl0 hl1 t0 t1 t2 t3 t4 u0 u1 u2 u3 u4
      have hl0 := H07x.out.lt
      have hl1 := H17x.out.lt
      have hlc := HC7.out.lt
      have t0 := H07x.out.cell 0 rfl
      have u0 := H17x.out.cell 0 rfl
      have c0 := HC7.out.cell 0 rfl
      have t1 := H07x.out.cell 1 rfl
      have u1 := H17x.out.cell 1 rfl
      have c1 := HC7.out.cell 1 rfl
      have t2 := H07x.out.cell 2 rfl
      have u2 := H17x.out.cell 2 rfl
      have c2 := HC7.out.cell 2 rfl
      have t3 := H07x.out.cell 3 rfl
      have u3 := H17x.out.cell 3 rfl
      have c3 := HC7.out.cell 3 rfl
      have t4 := H07x.out.cell 4 rfl
      have u4 := H17x.out.cell 4 rfl
      have c4 := HC7.out.cell 4 rfl
      have C26v := Lib.hid (alike_any a a X7 X7.heap.size w.heap.size _ _ (HX7x.out.mono fun b o h => h.lt) (KA.out X7 HB7x.out) (Nat.le_refl _) HB7x.out.size)
      rw [sameV_refl] at C26v
      go_upto_region 11 with (first | (go_at_call 26; (with_reducible refine (C26v.out).mono ?_); rintro e w8 ⟨rfl, hb8⟩; have HB8 := Lib.hid (bnext HB7x.out hb8); clear hl0 hl1 t0 t1 t2 t3 t4 u0 u1 u2 u3 u4; have H08 := Lib.hid (H07x.out.below hb8); have H18 := Lib.hid (H17x.out.below hb8); have hl0 := H08.out.lt; have hl1 := H18.out.lt; have t0 := H08.out.cell 0 rfl; have u0 := H18.out.cell 0 rfl; have t1 := H08.out.cell 1 rfl; have u1 := H18.out.cell 1 rfl; have t2 := H08.out.cell 2 rfl; have u2 := H18.out.cell 2 rfl; have t3 := H08.out.cell 3 rfl; have u3 := H18.out.cell 3 rfl; have t4 := H08.out.cell 4 rfl; have u4 := H18.out.cell 4 rfl; clear hb8))
      clear c0 c1 c2 c3 c4 hlc
      have hS := texts_alike a b HMAV.out.symm HMBV.out.symm HFA.out HFB.out
      rw [← HTA.out, ← HTB.out] at hS
      obtain ⟨S, hS2⟩ : ∃ S, S = sameV a b := ⟨_, rfl⟩
      rw [← hS2] at C26 hS
      clear hS2
      cases S
      all_goals
        go_upto_region 13 with (first | (go_at_call 26; (with_reducible refine (C26.out _ HB8.out).mono ?_); rintro e w9 ⟨rfl, hb9⟩; have HB9 := Lib.hid (bnext HB8.out hb9); clear hl0 hl1 t0 t1 t2 t3 t4 u0 u1 u2 u3 u4; have H09 := Lib.hid (H08.out.below hb9); have H19 := Lib.hid (H18.out.below hb9); have hl0 := H09.out.lt; have hl1 := H19.out.lt; have t0 := H09.out.cell 0 rfl; have u0 := H19.out.cell 0 rfl; have t1 := H09.out.cell 1 rfl; have u1 := H19.out.cell 1 rfl; have t2 := H09.out.cell 2 rfl; have u2 := H19.out.cell 2 rfl; have t3 := H09.out.cell 3 rfl; have u3 := H19.out.cell 3 rfl; have t4 := H09.out.cell 4 rfl; have u4 := H19.out.cell 4 rfl; clear hb9))
        clear hS
        go_upto_region 14 with (first | (go_at_call 12; (with_reducible refine (C12s.out _).mono ?_); rintro e w3q ⟨hb3q, k3q, n3q, s3q, A3q, len3q, cap3q, r3q, rfl, hx3q⟩; have HB3q := Lib.hid (bnext HB9.out hb3q); have HX3q := Lib.hid hx3q; clear hl0 hl1 t0 t1 t2 t3 t4 u0 u1 u2 u3 u4; have H03q := Lib.hid (H09.out.below hb3q); have H13q := Lib.hid (H19.out.below hb3q); have hl0 := H03q.out.lt; have hl1 := H13q.out.lt; have t0 := H03q.out.cell 0 rfl; have u0 := H13q.out.cell 0 rfl; have t1 := H03q.out.cell 1 rfl; have u1 := H13q.out.cell 1 rfl; have t2 := H03q.out.cell 2 rfl; have u2 := H13q.out.cell 2 rfl; have t3 := H03q.out.cell 3 rfl; have u3 := H13q.out.cell 3 rfl; have t4 := H03q.out.cell 4 rfl; have u4 := H13q.out.cell 4 rfl; clear hb3q hx3q))
        obtain ⟨X3q, hX3q⟩ : ∃ X, X = w3q.alloc (.cells #[.int .u8 k3q, .int .i64 n3q, .string s3q, .slice A3q len3q cap3q, .int .i64 r3q] 26) := ⟨_, rfl⟩
        have hb3qx : Below w3q.heap.size w3q X3q := by rw [hX3q]; exact (Below.refl _ _).alloc (Nat.le_refl _) _
        have HC3q : Hid (BlkN X3q w3q.heap.size 26 #[.int .u8 k3q, .int .i64 n3q, .string s3q, .slice A3q len3q cap3q, .int .i64 r3q]) := Lib.hid (by rw [hX3q]; exact BlkN.at_ rfl _ _)
        have HX3qx := Lib.hid (HX3q.out.below hb3qx)
        have HB3qx := Lib.hid (bnext HB3q.out hb3qx)
        have H03qx := Lib.hid (H03q.out.below hb3qx)
        have H13qx := Lib.hid (H13q.out.below hb3qx)
        rw [← hX3q]
        clear hX3q hb3qx hl0 hl1 t0 t1 t2 t3 t4 u0 u1 u2 u3 u4
        have hl0 := H03qx.out.lt
        have hl1 := H13qx.out.lt
        have hlc := HC3q.out.lt
        have t0 := H03qx.out.cell 0 rfl
        have u0 := H13qx.out.cell 0 rfl
        have c0 := HC3q.out.cell 0 rfl
        have t1 := H03qx.out.cell 1 rfl
        have u1 := H13qx.out.cell 1 rfl
        have c1 := HC3q.out.cell 1 rfl
        have t2 := H03qx.out.cell 2 rfl
        have u2 := H13qx.out.cell 2 rfl
        have c2 := HC3q.out.cell 2 rfl
        have t3 := H03qx.out.cell 3 rfl
        have u3 := H13qx.out.cell 3 rfl
        have c3 := HC3q.out.cell 3 rfl
        have t4 := H03qx.out.cell 4 rfl
        have u4 := H13qx.out.cell 4 rfl
        have c4 := HC3q.out.cell 4 rfl
        rcases HRI.out with hr2 | ⟨hr2, hr3, hr4, hr5⟩
        · subst hr2
          clear c0 c1 c2 c3 c4 hlc
          go_upto_region 21 with (first
            | (go_at_call 18; (with_reducible refine (C18.out _).mono ?_); rintro e w6q ⟨hb6q, rfl⟩; have HB6q := Lib.hid (bnext HB3qx.out hb6q); clear hl0 hl1 t0 t1 t2 t3 t4 u0 u1 u2 u3 u4; have H06q := Lib.hid (H03qx.out.below hb6q); have H16q := Lib.hid (H13qx.out.below hb6q); have hl0 := H06q.out.lt; have hl1 := H16q.out.lt; have t0 := H06q.out.cell 0 rfl; have u0 := H16q.out.cell 0 rfl; have t1 := H06q.out.cell 1 rfl; have u1 := H16q.out.cell 1 rfl; have t2 := H06q.out.cell 2 rfl; have u2 := H16q.out.cell 2 rfl; have t3 := H06q.out.cell 3 rfl; have u3 := H16q.out.cell 3 rfl; have t4 := H06q.out.cell 4 rfl; have u4 := H16q.out.cell 4 rfl; clear hb6q)
            | (go_at_call 16; (with_reducible refine (C16q.out _).mono ?_); rintro e w7q ⟨hb7q, rfl⟩; have HB7q := Lib.hid (bnext HB6q.out hb7q); clear hl0 hl1 t0 t1 t2 t3 t4 u0 u1 u2 u3 u4; have H07q := Lib.hid (H06q.out.below hb7q); have H17q := Lib.hid (H16q.out.below hb7q); have hl0 := H07q.out.lt; have hl1 := H17q.out.lt; have t0 := H07q.out.cell 0 rfl; have u0 := H17q.out.cell 0 rfl; have t1 := H07q.out.cell 1 rfl; have u1 := H17q.out.cell 1 rfl; have t2 := H07q.out.cell 2 rfl; have u2 := H17q.out.cell 2 rfl; have t3 := H07q.out.cell 3 rfl; have u3 := H17q.out.cell 3 rfl; have t4 := H07q.out.cell 4 rfl; have u4 := H17q.out.cell 4 rfl; clear hb7q))
          rcases HUI.out with hu2 | ⟨hu2, hu3⟩
          · subst hu2
            go_wp2_with (first
              | (go_at_call 16; (with_reducible refine (C16.out _).mono ?_); rintro e w8q ⟨hb8q, rfl⟩; have HB8q := Lib.hid (bnext HB7q.out hb8q); clear hl0 hl1 t0 t1 t2 t3 t4 u0 u1 u2 u3 u4; have H08q := Lib.hid (H07q.out.below hb8q); have H18q := Lib.hid (H17q.out.below hb8q); have hl0 := H08q.out.lt; have hl1 := H18q.out.lt; have t0 := H08q.out.cell 0 rfl; have u0 := H18q.out.cell 0 rfl; have t1 := H08q.out.cell 1 rfl; have u1 := H18q.out.cell 1 rfl; have t2 := H08q.out.cell 2 rfl; have u2 := H18q.out.cell 2 rfl; have t3 := H08q.out.cell 3 rfl; have u3 := H18q.out.cell 3 rfl; have t4 := H08q.out.cell 4 rfl; have u4 := H18q.out.cell 4 rfl; clear hb8q)
              | (go_at_call 15; (with_reducible refine (C15.out _ HB8q.out).mono ?_); rintro e w9 ⟨rfl, hb9⟩; have HBE := Lib.hid (bnext HB8q.out hb9)))
            go_ret
            exact ⟨rfl, HBE.out⟩
          · subst hu2
            rw [hu3] at C18x
            go_wp2_with (first
              | (go_at_call 16; (with_reducible refine (C16.out _).mono ?_); rintro e w8q ⟨hb8q, rfl⟩; have HB8q := Lib.hid (bnext HB7q.out hb8q); clear hl0 hl1 t0 t1 t2 t3 t4 u0 u1 u2 u3 u4; have H08q := Lib.hid (H07q.out.below hb8q); have H18q := Lib.hid (H17q.out.below hb8q); have hl0 := H08q.out.lt; have hl1 := H18q.out.lt; have t0 := H08q.out.cell 0 rfl; have u0 := H18q.out.cell 0 rfl; have t1 := H08q.out.cell 1 rfl; have u1 := H18q.out.cell 1 rfl; have t2 := H08q.out.cell 2 rfl; have u2 := H18q.out.cell 2 rfl; have t3 := H08q.out.cell 3 rfl; have u3 := H18q.out.cell 3 rfl; have t4 := H08q.out.cell 4 rfl; have u4 := H18q.out.cell 4 rfl; clear hb8q)
              | (go_at_call 18; (with_reducible refine (C18x.out _).mono ?_); rintro e w9q ⟨hb9q, rfl⟩; have HB9q := Lib.hid (bnext HB8q.out hb9q); clear hl0 hl1 t0 t1 t2 t3 t4 u0 u1 u2 u3 u4; have H09q := Lib.hid (H08q.out.below hb9q); have H19q := Lib.hid (H18q.out.below hb9q); have hl0 := H09q.out.lt; have hl1 := H19q.out.lt; have t0 := H09q.out.cell 0 rfl; have u0 := H19q.out.cell 0 rfl; have t1 := H09q.out.cell 1 rfl; have u1 := H19q.out.cell 1 rfl; have t2 := H09q.out.cell 2 rfl; have u2 := H19q.out.cell 2 rfl; have t3 := H09q.out.cell 3 rfl; have u3 := H19q.out.cell 3 rfl; have t4 := H09q.out.cell 4 rfl; have u4 := H19q.out.cell 4 rfl; clear hb9q)
              | (go_at_call 15; (with_reducible refine (C15.out _ HB9q.out).mono ?_); rintro e w9 ⟨rfl, hb9⟩; have HBE := Lib.hid (bnext HB9q.out hb9)))
            go_ret
            exact ⟨rfl, HBE.out⟩
        · subst hr2
          have C24x := Lib.hid (Text_any (B := X3q.heap.size) X3q (HX3qx.out.mono fun b o h => h.lt) (Nat.le_refl _) hr5 (HV.out.tab.on HB3qx.out))
          rw [show textR XS = (textL XS, 0) by unfold textR; rw [hr3]; rfl, hr4] at C24x
          go_upto_region 18 with (first | (go_at_call 24; (with_reducible refine (C24x.out).mono ?_); rintro e w5q ⟨hb5q, rfl⟩; have HB5q := Lib.hid (bnext HB3qx.out hb5q); clear hl0 hl1 t0 t1 t2 t3 t4 u0 u1 u2 u3 u4; have H05q := Lib.hid (H03qx.out.below hb5q); have H15q := Lib.hid (H13qx.out.below hb5q); have hl0 := H05q.out.lt; have hl1 := H15q.out.lt; have t0 := H05q.out.cell 0 rfl; have u0 := H15q.out.cell 0 rfl; have t1 := H05q.out.cell 1 rfl; have u1 := H15q.out.cell 1 rfl; have t2 := H05q.out.cell 2 rfl; have u2 := H15q.out.cell 2 rfl; have t3 := H05q.out.cell 3 rfl; have u3 := H15q.out.cell 3 rfl; have t4 := H05q.out.cell 4 rfl; have u4 := H15q.out.cell 4 rfl; clear hb5q))
          clear c0 c1 c2 c3 c4 hlc
          go_upto_region 21 with (first
            | (go_at_call 18; (with_reducible refine (C18.out _).mono ?_); rintro e w6q ⟨hb6q, rfl⟩; have HB6q := Lib.hid (bnext HB5q.out hb6q); clear hl0 hl1 t0 t1 t2 t3 t4 u0 u1 u2 u3 u4; have H06q := Lib.hid (H05q.out.below hb6q); have H16q := Lib.hid (H15q.out.below hb6q); have hl0 := H06q.out.lt; have hl1 := H16q.out.lt; have t0 := H06q.out.cell 0 rfl; have u0 := H16q.out.cell 0 rfl; have t1 := H06q.out.cell 1 rfl; have u1 := H16q.out.cell 1 rfl; have t2 := H06q.out.cell 2 rfl; have u2 := H16q.out.cell 2 rfl; have t3 := H06q.out.cell 3 rfl; have u3 := H16q.out.cell 3 rfl; have t4 := H06q.out.cell 4 rfl; have u4 := H16q.out.cell 4 rfl; clear hb6q)
            | (go_at_call 16; (with_reducible refine (C16q.out _).mono ?_); rintro e w7q ⟨hb7q, rfl⟩; have HB7q := Lib.hid (bnext HB6q.out hb7q); clear hl0 hl1 t0 t1 t2 t3 t4 u0 u1 u2 u3 u4; have H07q := Lib.hid (H06q.out.below hb7q); have H17q := Lib.hid (H16q.out.below hb7q); have hl0 := H07q.out.lt; have hl1 := H17q.out.lt; have t0 := H07q.out.cell 0 rfl; have u0 := H17q.out.cell 0 rfl; have t1 := H07q.out.cell 1 rfl; have u1 := H17q.out.cell 1 rfl; have t2 := H07q.out.cell 2 rfl; have u2 := H17q.out.cell 2 rfl; have t3 := H07q.out.cell 3 rfl; have u3 := H17q.out.cell 3 rfl; have t4 := H07q.out.cell 4 rfl; have u4 := H17q.out.cell 4 rfl; clear hb7q))
          rcases HUI.out with hu2 | ⟨hu2, hu3⟩
          · subst hu2
            go_wp2_with (first
              | (go_at_call 16; (with_reducible refine (C16.out _).mono ?_); rintro e w8q ⟨hb8q, rfl⟩; have HB8q := Lib.hid (bnext HB7q.out hb8q); clear hl0 hl1 t0 t1 t2 t3 t4 u0 u1 u2 u3 u4; have H08q := Lib.hid (H07q.out.below hb8q); have H18q := Lib.hid (H17q.out.below hb8q); have hl0 := H08q.out.lt; have hl1 := H18q.out.lt; have t0 := H08q.out.cell 0 rfl; have u0 := H18q.out.cell 0 rfl; have t1 := H08q.out.cell 1 rfl; have u1 := H18q.out.cell 1 rfl; have t2 := H08q.out.cell 2 rfl; have u2 := H18q.out.cell 2 rfl; have t3 := H08q.out.cell 3 rfl; have u3 := H18q.out.cell 3 rfl; have t4 := H08q.out.cell 4 rfl; have u4 := H18q.out.cell 4 rfl; clear hb8q)
              | (go_at_call 15; (with_reducible refine (C15.out _ HB8q.out).mono ?_); rintro e w9 ⟨rfl, hb9⟩; have HBE := Lib.hid (bnext HB8q.out hb9)))
            go_ret
            exact ⟨rfl, HBE.out⟩
          · subst hu2
            rw [hu3] at C18x
            go_wp2_with (first
              | (go_at_call 16; (with_reducible refine (C16.out _).mono ?_); rintro e w8q ⟨hb8q, rfl⟩; have HB8q := Lib.hid (bnext HB7q.out hb8q); clear hl0 hl1 t0 t1 t2 t3 t4 u0 u1 u2 u3 u4; have H08q := Lib.hid (H07q.out.below hb8q); have H18q := Lib.hid (H17q.out.below hb8q); have hl0 := H08q.out.lt; have hl1 := H18q.out.lt; have t0 := H08q.out.cell 0 rfl; have u0 := H18q.out.cell 0 rfl; have t1 := H08q.out.cell 1 rfl; have u1 := H18q.out.cell 1 rfl; have t2 := H08q.out.cell 2 rfl; have u2 := H18q.out.cell 2 rfl; have t3 := H08q.out.cell 3 rfl; have u3 := H18q.out.cell 3 rfl; have t4 := H08q.out.cell 4 rfl; have u4 := H18q.out.cell 4 rfl; clear hb8q)
              | (go_at_call 18; (with_reducible refine (C18x.out _).mono ?_); rintro e w9q ⟨hb9q, rfl⟩; have HB9q := Lib.hid (bnext HB8q.out hb9q); clear hl0 hl1 t0 t1 t2 t3 t4 u0 u1 u2 u3 u4; have H09q := Lib.hid (H08q.out.below hb9q); have H19q := Lib.hid (H18q.out.below hb9q); have hl0 := H09q.out.lt; have hl1 := H19q.out.lt; have t0 := H09q.out.cell 0 rfl; have u0 := H19q.out.cell 0 rfl; have t1 := H09q.out.cell 1 rfl; have u1 := H19q.out.cell 1 rfl; have t2 := H09q.out.cell 2 rfl; have u2 := H19q.out.cell 2 rfl; have t3 := H09q.out.cell 3 rfl; have u3 := H19q.out.cell 3 rfl; have t4 := H09q.out.cell 4 rfl; have u4 := H19q.out.cell 4 rfl; clear hb9q)
              | (go_at_call 15; (with_reducible refine (C15.out _ HB9q.out).mono ?_); rintro e w9 ⟨rfl, hb9⟩; have HBE := Lib.hid (bnext HB9q.out hb9)))
            go_ret
            exact ⟨rfl, HBE.out⟩

theorem wordBack_reads (os : Os) {H : Type} (enc : TypeId × Value → H) : ∃ places, DataW.whole enc Tryd.prog ((World.doorLaid Tryd.prog 4000 os).forCall (fun _ _ => 0) ⟨#[], #[.agg #[.int .u8 0, .int .i64 0, .string ⟨#[]⟩, .slice Option.none 0 0, .int .i64 0], .agg #[.int .u8 0, .int .i64 0, .string ⟨#[]⟩, .slice Option.none 0 0, .int .i64 0], .string ⟨#[]⟩], []⟩).memory Tryd.f6.params.toList Rows.wordBackSpec.vars false (#[.agg #[.int .u8 0, .int .i64 0, .string ⟨#[]⟩, .slice Option.none 0 0, .int .i64 0], .agg #[.int .u8 0, .int .i64 0, .string ⟨#[]⟩, .slice Option.none 0 0, .int .i64 0], .string ⟨#[]⟩] : Array Value).toList 8 = some ([.agg [.lit (.int .u8 0), .lit (.int .i64 0), .lit (.string []), .nil, .lit (.int .i64 0)], .agg [.lit (.int .u8 0), .lit (.int .i64 0), .lit (.string []), .nil, .lit (.int .i64 0)], .lit (.string [])], [], places) :=
  ⟨[], by kernel_rfl⟩
set_option maxRecDepth 100000 in
theorem wordBack_lifted (os : Os) (started : os.Started) (H : Type) (enc : TypeId × Value → H) (F : Stop.Interp) :
    ReturnsInHanded {} Tryd.checked os 6 .any ((Rows.OpenSpec.upto Rows.wordBackSpec).preRow enc Tryd.prog Tryd.f6 Rows.wordBackUptoRow.domain false Rows.wordBackUptoRow.laid) (((Rows.OpenSpec.upto Rows.wordBackSpec).at F).post enc Tryd.prog Tryd.f6 false true false false) := by
  obtain ⟨places, hx⟩ := wordBack_reads os enc
  refine returnsInHanded_of_row (C := Tryd.checked) (s := Rows.OpenSpec.upto Rows.wordBackSpec) own started (by kernel_rfl) Tryd.func6
    (witness_row_atRef (enc := enc) (C := Tryd.checked) false (World.doorLaid Tryd.prog 4000 os) #[.agg #[.int .u8 0, .int .i64 0, .string ⟨#[]⟩, .slice Option.none 0 0, .int .i64 0], .agg #[.int .u8 0, .int .i64 0, .string ⟨#[]⟩, .slice Option.none 0 0, .int .i64 0], .string ⟨#[]⟩] rfl (by kernel_rfl) (by kernel_rfl) (by kernel_rfl)
      (OpenSpec.preRow_of_cond 8 hx (by kernel_rfl) (fun k hk => by cases hk; kernel_rfl) (by kernel_rfl) (laidRun_met os _))) ?_
  intro W base args ds gs before hval hW _ hcond hsz hL _ _
  have hv := vars_of_laid hL
  refine LawRow.law_contract (tb := 4) (fn := Tryd.f6) (s := Rows.wordBackSpec) (by kernel_rfl) (by kernel_rfl) rfl rfl Tryd.underlying4 (fun ds h => ?_) hW (fun p hA0 hlt hgs => ?_)
  · match ds, h with
    | [_, _, _], _ => rfl
  · have hA : DataW.TrodAll enc Tryd.prog W 0 (fun _ => true) true Tryd.f6.params.toList args.toList ds p := hA0
    subst hgs
    rw [Tryd.params6] at hA hval
    obtain ⟨v0, v1, v2, d0, d1, d2, p0, p1, p2, rfl, rfl, rfl, h0, h1, h2⟩ := trodAll_three hA
    obtain ⟨a, ha, hfa⟩ := open_arg26F (hval 0 26 v0 rfl rfl) h0 (fun q hq => hlt q (by simp [hq])) (LawRow.weights_at (j := 0) hsz rfl rfl)
    obtain ⟨b, hb, hfb⟩ := open_arg26F (hval 1 26 v1 rfl rfl) h1 (fun q hq => hlt q (by simp [hq])) (LawRow.weights_at (j := 1) hsz rfl rfl)
    obtain ⟨s, rfl, rfl, rfl, hs⟩ := Go.ChangeMaps.open_string Tryd.underlying9 (hval 2 9 v2 rfl rfl) h2
    have hbk := bulk_all (hcond _ rfl) _ (List.mem_cons_of_mem _ (List.mem_cons_of_mem _ (List.mem_singleton.2 rfl)))
    simp only [Rows.uptoBulk] at hbk
    have hsl : s.data.toList.length = s.size := by simp
    exact back_law a b v0 v1 s (by omega) W ha hb hfa hfb hv
theorem wordBack_holds : Rows.WordBackUptoSaid :=
  OpenClaim.holds_of_cond 6 Tryd.f6 rfl rfl rfl rfl rfl rfl rfl ⟨rfl, rfl, rfl, rfl, rfl⟩ rfl rfl rfl rfl rfl (by kernel_rfl) Tryd.func6 (by kernel_rfl)
    (of_decide_eq_true (by kernel_rfl)) (by unfold Func.isWrapper; first | (rw [if_pos (by decide +kernel)]; kernel_rfl) | (rw [if_neg (by decide +kernel)]; exact ⟨rfl, rfl⟩))
    (fun os started H enc _ F => by rw [OpenClaim.pre_eq_preRow]; exact wordBack_lifted os started H enc F)
theorem wordBack_plain (f : FuncId) (fn : Func) (hf : Tryd.pinned.checked.prog.funcNamed "postern/posternlaw03.WordBack" = some f) (hfn : Tryd.pinned.checked.prog.funcs[f]? = some fn) :
    true = Tryd.pinned.checked.prog.looks [] ∧ ∀ (j : Nat) t, fn.params[j]? = some t → Tryd.pinned.checked.prog.wantsStandIn t = false := by
  obtain rfl : f = 6 := Option.some.inj ((show Tryd.prog.funcNamed "postern/posternlaw03.WordBack" = some 6 by kernel_rfl).symm.trans hf) |>.symm
  obtain rfl : fn = Tryd.f6 := (Option.some.inj (Tryd.func6.symm.trans hfn)).symm
  refine ⟨by kernel_rfl, fun j t ht => ?_⟩
  have hall : (Tryd.f6.params.toList.all fun u => !Tryd.prog.wantsStandIn u) = true := by kernel_rfl
  have hm : t ∈ Tryd.f6.params.toList := by simpa using Array.mem_of_getElem? ht
  exact (show Tryd.prog.wantsStandIn t = false by simpa using List.all_eq_true.1 hall t hm)
theorem wordBack_card : Rows.WordBackUptoCardSaid :=
  Claim7.holds_tied_plain_at .later [] _ _ _ _ wordBack_holds (fun _ h => by cases h) (by kernel_rfl) (fun _ h => by cases h) wordBackUpto_row_tie rfl ⟨rfl, rfl⟩ (by kernel_rfl) rfl wordBack_plain (by kernel_rfl)
end Go.Proofs.YtkhpfghehjcfoaaDoor
