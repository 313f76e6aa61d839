/- The document's Fits, walked: it answers something. The document's Fits, walked: it answers something: expressions. The document's Fits, walked: it answers something: codes. The document's Fits of a code, walked: it answers something. The document's copy of a What that is a code alone; the law's own, walked. -/
import Derived.Test.YtnknefdpglnbnaaZb
import Derived.Test.YtnknefdpglnbnaaLf
import Derived.Deep.Cut
import Derived.Test.YtnknefdpglnbnaaLn
import Derived.Test.YtnknefdpglnbnaaCh
import Derived.Test.YtnknefdpglnbnaaCp
namespace Go.Proofs.Ytnknefdpglnbnaa
open Go.RowKit

def SizeC (l : List St) : Prop := ∀ (w : World) (B : Nat) (A : Option Addr) (len cap : Nat), LR (fun b _ => b < B) 256 A len cap l (fun b o => IsSts w B b o l) → B ≤ w.heap.size →
  Calls Try.prog 114 #[.slice A len cap] w fun e w' => (∃ n : Int, e = .returned (.int .i64 n)) ∧ Below w.heap.size w w'
set_option maxRecDepth 100000 in
set_option maxHeartbeats 1000000 in
theorem size114_step (l : List St) (IH : ∀ x ∈ l, ∀ op nm sec ab wh a b t e c ws, x = .mk op nm sec ab wh a b t e c ws → SizeC t ∧ SizeC e ∧ SizeC c) : SizeC l := by
  intro w B A len cap hl hB
  obtain ⟨rfl, hcap, hsz, h7⟩ := hl
  have H7 := Lib.hid h7
  have HI := Lib.hid IH
  have hlen : l.length ≤ 140737488351232 := by omega
  clear h7 IH hsz
  go_enter Try.func114, Try.ntmps114
  go_wp2_with fail
  go_loopw [3, 4] (fun n i wr => ∃ j : Nat, j ≤ l.length ∧ i = .int .i64 j ∧ (∃ m : Int, n = .int .i64 m) ∧ Below w.heap.size w wr) (fun _ i _ => l.length - (intOf i).toNat)
  case atStart => exact ⟨0, by omega, rfl, ⟨_, rfl⟩, Below.refl _ _⟩
  case round =>
    obtain ⟨j, hj, rfl, ⟨m, rfl⟩, hb⟩ := hrel
    have HB := Lib.hid hb
    clear hb
    by_cases hlt : j < l.length
    rotate_left
    · obtain rfl : j = l.length := by omega
      go_wp2_with fail
      go_ret
      exact ⟨⟨_, rfl⟩, HB.out⟩
    by_cases hm : m ≤ 512
    rotate_left
    · go_wp2_with fail
      go_ret
      exact ⟨⟨_, rfl⟩, HB.out⟩
    obtain ⟨b, o, hbB, hA, hx⟩ := H7.out (by rintro rfl; simp at hlt)
    subst hA
    obtain ⟨s, hat, hs⟩ := hx.at j hlt
    have HI3 := HI.out _ (List.getElem_mem hlt)
    obtain ⟨x, hxe⟩ : ∃ x, x = l[j] := ⟨_, rfl⟩
    rw [← hxe] at HI3 hs
    obtain ⟨op, nm, sec, ab, wh, xa, xb, t, e, c, ws⟩ := x
    obtain ⟨it, ie, ic⟩ := HI3 _ _ _ _ _ _ _ _ _ _ _ rfl
    have hf := hs.form
    have HAT := Lib.hid hat
    have cell : ∀ (W : World) (k : Nat) (v : Value), Below w.heap.size w W → s.arr[k]? = some v → W.cell? ⟨b, o + j * 17 + k, Option.none⟩ = some v := fun W k v hb hv =>
      (World.cell?_of_block (w := w) (a := ⟨b, o + j * 17 + k, Option.none⟩) (hb.block b (by omega))).trans (hat k v (by simpa using hv))
    have HCELL := Lib.hid cell
    have ct := fun w' (hb : Below w.heap.size w w') => it w' B s.tA s.tl s.tc (hf.2.2.2.2.1.imp fun b o hr hp => ⟨hr, IsSts.keep (fun b hb' => hb.block b (by omega)) hr hp⟩) (Nat.le_trans hB hb.size)
    have ce := fun w' (hb : Below w.heap.size w w') => ie w' B s.eA s.el s.ec (hf.2.2.2.2.2.1.imp fun b o hr hp => ⟨hr, IsSts.keep (fun b hb' => hb.block b (by omega)) hr hp⟩) (Nat.le_trans hB hb.size)
    have cc := fun w' (hb : Below w.heap.size w w') => ic w' B s.cA s.cl s.cc (hf.2.2.2.2.2.2.1.imp fun b o hr hp => ⟨hr, IsSts.keep (fun b hb' => hb.block b (by omega)) hr hp⟩) (Nat.le_trans hB hb.size)
    have HT := Lib.hid ct
    have HE := Lib.hid ce
    have HC := Lib.hid cc
    have hr1 : b < wr.heap.size := by have := HB.out.size; omega
    have q13 := HCELL.out wr 13 _ HB.out s.at13
    clear hx hat hs hf hxe it ie ic HI3 cell ct ce cc HI H7
    go_upto_region 7 with (go_at_call 114; refine (HT.out _ HB.out).mono ?_; rintro e4 w4 ⟨⟨n4, rfl⟩, hb4⟩)
    have HB4 := Lib.hid (bnext HB.out hb4)
    have hr4 : b < w4.heap.size := by have := hb4.size; omega
    have q14 := HCELL.out w4 14 _ HB4.out s.at14
    obtain ⟨m4, hm4⟩ : ∃ m4, m4 = wrap64 (wrap64 (m + 1) + n4) := ⟨_, rfl⟩
    rw [← hm4]
    clear hm4 hb4 q13 HT
    by_cases h4 : m4 ≤ 512
    rotate_left
    · go_upto_region 9 with (fail)
      go_wp2_with fail
      go_roundw
      case rel => exact ⟨j + 1, by omega, by go_num, ⟨_, rfl⟩, HB4.out⟩
      case measure => simp [intOf]; omega
    go_upto_region 9 with (go_at_call 114; refine (HE.out _ HB4.out).mono ?_; rintro e5 w5 ⟨⟨n5, rfl⟩, hb5⟩)
    have HB5 := Lib.hid (bnext HB4.out hb5)
    have hr5 : b < w5.heap.size := by have := hb5.size; omega
    have q15 := HCELL.out w5 15 _ HB5.out s.at15
    obtain ⟨m5, hm5⟩ : ∃ m5, m5 = wrap64 (m4 + n5) := ⟨_, rfl⟩
    rw [← hm5]
    clear hm5 hb5 q14 HE
    by_cases h5 : m5 ≤ 512
    rotate_left
    · go_wp2_with fail
      go_roundw
      case rel => exact ⟨j + 1, by omega, by go_num, ⟨_, rfl⟩, HB5.out⟩
      case measure => simp [intOf]; omega
    go_wp2_with (go_at_call 114; refine (HC.out _ HB5.out).mono ?_; rintro e6 w6 ⟨⟨n6, rfl⟩, hb6⟩)
    go_roundw
    case rel => exact ⟨j + 1, by omega, by go_num, ⟨_, rfl⟩, bnext HB5.out hb6⟩
    case measure => simp [intOf]; omega
theorem size114_any : ∀ l : List St, SizeC l := by
  have h : ∀ x : St, ∀ op nm sec ab wh a b t e c ws, x = .mk op nm sec ab wh a b t e c ws → SizeC t ∧ SizeC e ∧ SizeC c := fun x => by
    induction x using St.ind with
    | h op nm sec ab wh a b t e c ws IHt IHe IHc =>
      intro op' nm' sec' ab' wh' a' b' t' e' c' ws' heq
      obtain ⟨_, _, _, _, _, _, _, rfl, rfl, rfl, _⟩ := St.mk.inj heq
      exact ⟨size114_step _ fun x hx => IHt x hx, size114_step _ fun x hx => IHe x hx, size114_step _ fun x hx => IHc x hx⟩
  exact fun l => size114_step l fun x _ => h x
end Go.Proofs.Ytnknefdpglnbnaa
namespace Go.Proofs.Ytnknefdpglnbnaa
open Go.RowKit

def Parts7C (x : Ex) : Prop := ∀ (w : World) (B : Nat) (v : Value) (d : Int), IsEx w B v x → B ≤ w.heap.size → 0 ≤ d →
  Calls Try.prog 153 #[v, .int .i64 d] w fun e w' => (∃ n : Int, e = .returned (.int .i64 n)) ∧ Below w.heap.size w w'
def Deep7C (x : Ex) : Prop := ∀ (w : World) (B : Nat) (v : Value), IsEx w B v x → B ≤ w.heap.size →
  Calls Try.prog 154 #[v] w fun e w' => (∃ n : Int, e = .returned (.int .i64 n)) ∧ Below w.heap.size w w'
set_option maxRecDepth 100000 in
set_option maxHeartbeats 1000000 in
theorem parts153_any (x : Ex) : Parts7C x := by
  induction x using Ex.ind with
  | h k n s l IH =>
  intro w B v d h hB hd0
  obtain ⟨h1, h2, h3, h4, A, cap, h5, rfl, h7⟩ := h.form
  have H7 := Lib.hid h7
  have HI := Lib.hid IH
  have HB0 : Hid (Below w.heap.size w (w.alloc (.cells #[.int .u8 k, .int .i64 n, .string s, .slice A l.length cap] 26))) := Lib.hid ((Below.refl _ _).alloc (Nat.le_refl _) _)
  have HQ : Hid (BlkN (w.alloc (.cells #[.int .u8 k, .int .i64 n, .string s, .slice A l.length cap] 26)) w.heap.size 26 #[.int .u8 k, .int .i64 n, .string s, .slice A l.length cap]) := Lib.hid (BlkN.at_ rfl _ _)
  clear h h7 IH
  go_enter Try.func153, Try.ntmps153
  by_cases hd : 16 < d
  · go_wp2_with fail
    go_ret
    exact ⟨⟨_, rfl⟩, HB0.out⟩
  go_wp2_with fail
  go_loopw [5, 6] (fun m i wr => ∃ j : Nat, j ≤ l.length ∧ i = .int .i64 j ∧ (∃ m' : Int, m = .int .i64 m') ∧ Below w.heap.size w wr ∧ BlkN wr w.heap.size 26 #[.int .u8 k, .int .i64 n, .string s, .slice A l.length cap]) (fun _ i _ => l.length - (intOf i).toNat)
  case atStart => exact ⟨0, by omega, rfl, ⟨_, rfl⟩, HB0.out, HQ.out⟩
  case round =>
    obtain ⟨j, hj, rfl, ⟨m, rfl⟩, hb, hq⟩ := hrel
    have HB := Lib.hid hb
    have HBQ := Lib.hid hq
    have q3 := hq.cell 3 rfl
    have hql := hq.lt
    clear hb hq
    by_cases hlt : j < l.length
    rotate_left
    · obtain rfl : j = l.length := by omega
      go_wp2_with fail
      go_ret
      exact ⟨⟨_, rfl⟩, HB.out⟩
    by_cases hm : m ≤ 512
    rotate_left
    · go_wp2_with fail
      go_ret
      exact ⟨⟨_, rfl⟩, HB.out⟩
    obtain ⟨b, o, hbB, hA, hx⟩ := H7.out (by rintro rfl; simp at hlt)
    subst hA
    obtain ⟨k', n', s', A', len', cap', hat, hx1⟩ := hx.at2 j hlt
    have hat' := hat.keep hbB (fun b hb => HB.out.block b (by omega))
    obtain ⟨e0, e1, e2, e3⟩ := hat'.four
    have HC := Lib.hid (HI.out _ (List.getElem_mem hlt) wr B _ (d + 1) (IsEx.keep (fun b hb => HB.out.block b (by omega)) hx1) (Nat.le_trans hB HB.out.size) (by omega))
    clear hat hat' hx hx1
    go_wp2_with (go_at_call 153; refine HC.out.mono ?_; rintro e4 w4 ⟨⟨n4, rfl⟩, hb4⟩)
    go_roundw
    case rel => exact ⟨j + 1, by omega, by go_num, ⟨_, rfl⟩, bnext HB.out hb4, HBQ.out.below hb4⟩
    case measure => simp [intOf]; omega
set_option maxRecDepth 100000 in
set_option maxHeartbeats 1000000 in
theorem deep154_any (x : Ex) : Deep7C x := by
  induction x using Ex.ind with
  | h k n s l IH =>
  intro w B v h hB
  obtain ⟨h1, h2, h3, h4, A, cap, h5, rfl, h7⟩ := h.form
  (
    have H7 := Lib.hid h7
    have HI := Lib.hid IH
    have HB0 : Hid (Below w.heap.size w (w.alloc (.cells #[.int .u8 k, .int .i64 n, .string s, .slice A l.length cap] 26))) := Lib.hid ((Below.refl _ _).alloc (Nat.le_refl _) _)
    have HQ : Hid (BlkN (w.alloc (.cells #[.int .u8 k, .int .i64 n, .string s, .slice A l.length cap] 26)) w.heap.size 26 #[.int .u8 k, .int .i64 n, .string s, .slice A l.length cap]) := Lib.hid (BlkN.at_ rfl _ _)
    clear h h7 IH
    go_enter Try.func154, Try.ntmps154
    go_upto_region 1 with (fail)
    obtain ⟨w0, hw0⟩ : ∃ w0, w0 = w.alloc (.cells #[.int .u8 k, .int .i64 n, .string s, .slice A l.length cap] 26) := ⟨_, rfl⟩
    rw [← hw0] at HB0 HQ ⊢
    have q0 := HQ.out.cell 0 rfl
    have qq := HQ.out.cell 3 rfl
    have qlt := HQ.out.lt
    clear hw0
    go_upto_region 3 with (fail)
    all_goals first | (go_ret; exact ⟨⟨_, rfl⟩, HB0.out⟩) | (
      go_wp2_with fail
      go_loopw [3, 4] (fun m i wr => ∃ j : Nat, j ≤ l.length ∧ i = .int .i64 j ∧ (∃ m' : Int, m = .int .i64 m') ∧ Below w.heap.size w wr ∧ BlkN wr w.heap.size 26 #[.int .u8 k, .int .i64 n, .string s, .slice A l.length cap]) (fun _ i _ => l.length - (intOf i).toNat)
      case atStart => exact ⟨0, by omega, rfl, ⟨_, rfl⟩, HB0.out, HQ.out⟩
      case round =>
        obtain ⟨j, hj, rfl, ⟨m, rfl⟩, hb, hq⟩ := hrel
        have HB := Lib.hid hb
        have HBQ := Lib.hid hq
        have q3 := hq.cell 3 rfl
        have hql := hq.lt
        clear hb hq
        by_cases hlt : j < l.length
        rotate_left
        · obtain rfl : j = l.length := by omega
          go_wp2_with fail
          go_ret
          exact ⟨⟨_, rfl⟩, HB.out⟩
        obtain ⟨b, o, hbB, hA, hx⟩ := H7.out (by rintro rfl; simp at hlt)
        subst hA
        obtain ⟨k', n', s', A', len', cap', hat, hx1⟩ := hx.at2 j hlt
        have hat' := hat.keep hbB (fun b hb => HB.out.block b (by omega))
        obtain ⟨e0, e1, e2, e3⟩ := hat'.four
        have HC := Lib.hid (HI.out _ (List.getElem_mem hlt) wr B _ (IsEx.keep (fun b hb => HB.out.block b (by omega)) hx1) (Nat.le_trans hB HB.out.size))
        clear hat hat' hx hx1
        go_wp2_with (go_at_call 154; refine HC.out.mono ?_; rintro e4 w4 ⟨⟨n4, rfl⟩, hb4⟩)
        exact ⟨⟨j + 1, by omega, by go_num, ⟨_, rfl⟩, bnext HB.out hb4, HBQ.out.below hb4⟩, by simp [intOf]; omega⟩))
end Go.Proofs.Ytnknefdpglnbnaa
namespace Go.Proofs.Ytnknefdpglnbnaa
open Go.RowKit

/-- A Boolean, whichever. -/
def IsB (e : Ending) : Prop := ∃ b : Bool, e = .returned (.bool b)
theorem IsB.is {e : Ending} (h : IsB e) : ∃ b : Bool, e = .returned (.bool b) := h
set_option maxRecDepth 100000 in
set_option maxHeartbeats 1000000 in
theorem exprFits137_any {x : Ex} {B : Nat} {v : Value} (w : World) (h : IsEx w B v x) (hB : B ≤ w.heap.size) :
    Calls Try.prog 137 #[v] w fun e w' => IsB e ∧ Below w.heap.size w w' := by
  have HX := Lib.hid h
  obtain ⟨k, n, s, A, len, cap, rfl⟩ : ∃ k n s A len cap, v = .agg #[.int .u8 k, .int .i64 n, .string s, .slice A len cap] := by
    obtain ⟨k, n, s, l⟩ := x
    obtain ⟨_, _, _, _, A, cap, _, h6, _⟩ := h.form
    exact ⟨k, n, s, A, _, cap, h6⟩
  clear h
  have C153 := Lib.hid (fun w' (hb : Below w.heap.size w w') => parts153_any x w' B _ 0 (HX.out.keep fun b hl => hb.block b (by omega)) (by have := hb.size; omega) (by omega))
  have C154 := Lib.hid (fun w' (hb : Below w.heap.size w w') => deep154_any x w' B _ (HX.out.keep fun b hl => hb.block b (by omega)) (by have := hb.size; omega))
  have HB0 : Hid (Below w.heap.size w (w.alloc (.cells #[.int .u8 k, .int .i64 n, .string s, .slice A len cap] 26))) := Lib.hid ((Below.refl _ _).alloc (Nat.le_refl _) _)
  have HQ : Hid (BlkN (w.alloc (.cells #[.int .u8 k, .int .i64 n, .string s, .slice A len cap] 26)) w.heap.size 26 #[.int .u8 k, .int .i64 n, .string s, .slice A len cap]) := Lib.hid (BlkN.at_ rfl _ _)
  go_enter Try.func137, Try.ntmps137
  go_wp2_with (first | (go_at_call 153; refine (C153.out _ HB0.out).mono ?_; rintro e w1 ⟨⟨n1, rfl⟩, hb1⟩; have hB1 := bnext HB0.out hb1; have hq1 := HQ.out.below hb1; have q0 := hq1.cell 0 rfl; have q1 := hq1.cell 1 rfl; have q2 := hq1.cell 2 rfl; have q3 := hq1.cell 3 rfl) | (go_at_call 154; refine (C154.out _ hB1).mono ?_; rintro e w2 ⟨⟨n2, rfl⟩, hb2⟩; have hB2 := bnext hB1 hb2))
  all_goals (go_ret; first | exact ⟨⟨_, rfl⟩, hB2⟩ | exact ⟨⟨_, rfl⟩, hB1⟩)
def FitsC (l : List St) : Prop := ∀ (w : World) (B : Nat) (A : Option Addr) (len cap : Nat), LR (fun b _ => b < B) 256 A len cap l (fun b o => IsSts w B b o l) → B ≤ w.heap.size →
  Calls Try.prog 115 #[.slice A len cap] w fun e w' => IsB e ∧ Below w.heap.size w w'
set_option maxRecDepth 100000 in
set_option maxHeartbeats 4000000 in
theorem codeFits115_step (l : List St) (IH : ∀ x ∈ l, ∀ op nm sec ab wh a b t e c ws, x = .mk op nm sec ab wh a b t e c ws → FitsC t ∧ FitsC e ∧ FitsC c) : FitsC l := by
  intro w B A len cap hl hB
  obtain ⟨rfl, hcap, hsz, h7⟩ := hl
  have H7 := Lib.hid h7
  have HI := Lib.hid IH
  have hlen : l.length ≤ 140737488351232 := by omega
  clear h7 IH hsz
  go_enter Try.func115, Try.ntmps115
  go_wp2_with fail
  go_loopw [3] (fun i wr => ∃ j : Nat, j ≤ l.length ∧ i = .int .i64 j ∧ Below w.heap.size w wr) (fun i _ => l.length - (intOf i).toNat)
  case atStart => exact ⟨0, by omega, rfl, Below.refl _ _⟩
  case round =>
    obtain ⟨j, hj, rfl, hb⟩ := hrel
    have HB := Lib.hid hb
    clear hb
    by_cases hlt : j < l.length
    rotate_left
    · obtain rfl : j = l.length := by omega
      go_wp2_with fail
      go_ret
      exact ⟨⟨_, rfl⟩, HB.out⟩
    obtain ⟨b, o, hbB, hA, hx⟩ := H7.out (by rintro rfl; simp at hlt)
    subst hA
    obtain ⟨s, hat, hs⟩ := hx.at j hlt
    have HI3 := HI.out _ (List.getElem_mem hlt)
    obtain ⟨x, hxe⟩ : ∃ x, x = l[j] := ⟨_, rfl⟩
    rw [← hxe] at HI3 hs
    obtain ⟨op, nm, sec, ab, wh, xa, xb, t, e, c, ws⟩ := x
    obtain ⟨it, ie, ic⟩ := HI3 _ _ _ _ _ _ _ _ _ _ _ rfl
    have hf := hs.form
    have HFM := Lib.hid hf
    have cell : ∀ (W : World) (k : Nat) (v : Value), Below w.heap.size w W → s.arr[k]? = some v → W.cell? ⟨b, o + j * 17 + k, Option.none⟩ = some v := fun W k v hb hv =>
      (World.cell?_of_block (w := w) (a := ⟨b, o + j * 17 + k, Option.none⟩) (hb.block b (by omega))).trans (hat k v (by simpa using hv))
    have HCELL := Lib.hid cell
    have ca : ∀ w', Below w.heap.size w w' → Calls Try.prog 137 #[.agg #[.int .u8 s.a0, .int .i64 s.a1, .string s.a2, .slice s.aA s.al s.ac]] w' fun e w'' => IsB e ∧ Below w'.heap.size w' w'' := fun w' hb => exprFits137_any (x := xa) w' (IsEx.keep (B := B) (fun b hb' => hb.block b (by omega)) hf.2.2.1) (Nat.le_trans hB hb.size)
    have cb : ∀ w', Below w.heap.size w w' → Calls Try.prog 137 #[.agg #[.int .u8 s.b0, .int .i64 s.b1, .string s.b2, .slice s.bA s.bl s.bc]] w' fun e w'' => IsB e ∧ Below w'.heap.size w' w'' := fun w' hb => exprFits137_any (x := xb) w' (IsEx.keep (B := B) (fun b hb' => hb.block b (by omega)) hf.2.2.2.1) (Nat.le_trans hB hb.size)
    have ct := fun w' (hb : Below w.heap.size w w') => it w' B s.tA s.tl s.tc (hf.2.2.2.2.1.imp fun b o hr hp => ⟨hr, IsSts.keep (fun b hb' => hb.block b (by omega)) hr hp⟩) (Nat.le_trans hB hb.size)
    have ce := fun w' (hb : Below w.heap.size w w') => ie w' B s.eA s.el s.ec (hf.2.2.2.2.2.1.imp fun b o hr hp => ⟨hr, IsSts.keep (fun b hb' => hb.block b (by omega)) hr hp⟩) (Nat.le_trans hB hb.size)
    have cc := fun w' (hb : Below w.heap.size w w') => ic w' B s.cA s.cl s.cc (hf.2.2.2.2.2.2.1.imp fun b o hr hp => ⟨hr, IsSts.keep (fun b hb' => hb.block b (by omega)) hr hp⟩) (Nat.le_trans hB hb.size)
    have hwl : s.wl ≤ 140737488351232 := by
      obtain ⟨h1, h2, A, cap, h3, h4, h5⟩ := hf.2.2.2.2.2.2.2
      simp only [Value.slice.injEq] at h4
      omega
    have HA := Lib.hid ca
    have HBB := Lib.hid cb
    have HT := Lib.hid ct
    have HE := Lib.hid ce
    have HC := Lib.hid cc
    have hr1 : b < wr.heap.size := by have := HB.out.size; omega
    have q16 := HCELL.out wr 16 _ HB.out s.at16
    have q5 := HCELL.out wr 5 _ HB.out s.at5
    have q6 := HCELL.out wr 6 _ HB.out s.at6
    have q7 := HCELL.out wr 7 _ HB.out s.at7
    have q8 := HCELL.out wr 8 _ HB.out s.at8
    clear hx hat hs hf hxe it ie ic HI3 cell ca cb ct ce cc HI H7 HFM
    go_wp2_with (first
      | (go_at_call 137; with_reducible refine (HA.out _ HB.out).mono ?_; rintro e4 w4 ⟨hi4, hb4⟩; obtain ⟨b4, rfl⟩ := hi4.is; have HB4 := Lib.hid (bnext HB.out hb4); have r9 := HCELL.out w4 9 _ HB4.out s.at9; have r10 := HCELL.out w4 10 _ HB4.out s.at10; have r11 := HCELL.out w4 11 _ HB4.out s.at11; have r12 := HCELL.out w4 12 _ HB4.out s.at12; have hr4 : b < w4.heap.size := (by have := hb4.size; omega); clear hb4; cases b4)
      | (go_at_call 137; with_reducible refine (HBB.out _ HB4.out).mono ?_; rintro e5 w5 ⟨hi5, hb5⟩; obtain ⟨b5, rfl⟩ := hi5.is; have HB5 := Lib.hid (bnext HB4.out hb5); have r13 := HCELL.out w5 13 _ HB5.out s.at13; have hr5 : b < w5.heap.size := (by have := hb5.size; omega); clear hb5; cases b5)
      | (go_at_call 115; with_reducible refine (HT.out _ HB5.out).mono ?_; rintro e6 w6 ⟨hi6, hb6⟩; obtain ⟨b6, rfl⟩ := hi6.is; have HB6 := Lib.hid (bnext HB5.out hb6); have r14 := HCELL.out w6 14 _ HB6.out s.at14; have hr6 : b < w6.heap.size := (by have := hb6.size; omega); clear hb6; cases b6)
      | (go_at_call 115; with_reducible refine (HE.out _ HB6.out).mono ?_; rintro e7 w7 ⟨hi7, hb7⟩; obtain ⟨b7, rfl⟩ := hi7.is; have HB7 := Lib.hid (bnext HB6.out hb7); have r15 := HCELL.out w7 15 _ HB7.out s.at15; have hr7 : b < w7.heap.size := (by have := hb7.size; omega); clear hb7; cases b7)
      | (go_at_call 115; with_reducible refine (HC.out _ HB7.out).mono ?_; rintro e8 w8 ⟨hi8, hb8⟩; obtain ⟨b8, rfl⟩ := hi8.is; have HB8 := Lib.hid (bnext HB7.out hb8); clear hb8; cases b8))
    all_goals first
      | (go_ret; first | exact ⟨⟨_, rfl⟩, HB8.out⟩ | exact ⟨⟨_, rfl⟩, HB7.out⟩ | exact ⟨⟨_, rfl⟩, HB6.out⟩ | exact ⟨⟨_, rfl⟩, HB5.out⟩ | exact ⟨⟨_, rfl⟩, HB4.out⟩ | exact ⟨⟨_, rfl⟩, HB.out⟩)
      | exact ⟨⟨j + 1, by omega, by go_num, HB8.out⟩, by simp [intOf]; omega⟩
      | (go_roundw <;> first | exact ⟨j + 1, by omega, by go_num, HB8.out⟩ | (simp [intOf]; omega))
theorem codeFits115_any : ∀ l : List St, FitsC l := by
  have h : ∀ x : St, ∀ op nm sec ab wh a b t e c ws, x = .mk op nm sec ab wh a b t e c ws → FitsC t ∧ FitsC e ∧ FitsC c := fun x => by
    induction x using St.ind with
    | h op nm sec ab wh a b t e c ws IHt IHe IHc =>
      intro op' nm' sec' ab' wh' a' b' t' e' c' ws' heq
      obtain ⟨_, _, _, _, _, _, _, rfl, rfl, rfl, _⟩ := St.mk.inj heq
      exact ⟨codeFits115_step _ fun x hx => IHt x hx, codeFits115_step _ fun x hx => IHe x hx, codeFits115_step _ fun x hx => IHc x hx⟩
  exact fun l => codeFits115_step l fun x _ => h x
end Go.Proofs.Ytnknefdpglnbnaa
namespace Go.Proofs.Ytnknefdpglnbnaa
open Go.RowKit

/-- A What that is a code alone. -/
def whatC (v : Value) : Array Value := #[.int .u8 0, .int .i64 0, .int .u8 0, .int .i64 0, .string ⟨#[]⟩, .slice Option.none 0 0, .int .i64 0, .slice Option.none 0 0, .int .i64 0, .int .i64 0, .int .i64 0, .int .i64 0, .int .u8 0, .bool false, v, .slice Option.none 0 0]
set_option maxRecDepth 100000 in
set_option maxHeartbeats 1000000 in
theorem Values116_code (A : Option Addr) (len cap : Nat) (w : World) :
    Calls Try.prog 116 #[.agg (whatC (.slice A len cap))] w fun e w' => ∃ g cap', e = .returned (.slice (some ⟨g, 0, Option.none⟩) 1 cap') ∧ 1 ≤ cap' ∧ At w' g 0 [.int .u8 0, .int .i64 0, .string ⟨#[]⟩, .slice Option.none 0 0, .int .i64 0] ∧ g < w'.heap.size ∧ Below w.heap.size w w' := by
  unfold whatC
  go_enter Try.func116, Try.ntmps116
  go_upto_region 2 with (fail)
  obtain ⟨w1, hw1⟩ : ∃ w1, w1 = (w.alloc (.cells (whatC (.slice A len cap)) 93)).alloc (.cells #[.int .u8 0, .int .i64 0, .string ⟨#[]⟩, .slice Option.none 0 0, .int .i64 0] 34) := ⟨_, rfl⟩
  have hw1' := hw1.symm
  unfold whatC at hw1'
  rw [hw1']
  have hA : BlkN w1 w.heap.size 93 (whatC (.slice A len cap)) := by rw [hw1]; exact (BlkN.at_ rfl _ _).alloc _
  have hV : BlkN w1 (w.heap.size + 1) 34 #[.int .u8 0, .int .i64 0, .string ⟨#[]⟩, .slice Option.none 0 0, .int .i64 0] := by rw [hw1]; exact BlkN.at_ (by simp) _ _
  have HB : Hid (Below w.heap.size w w1) := Lib.hid (by rw [hw1]; exact ((Below.refl _ _).alloc (Nat.le_refl _) _).alloc (by simp) _)
  clear hw1 hw1'
  have c3 : w1.cell? ⟨w.heap.size, 7, Option.none⟩ = some (.slice Option.none 0 0) := hA.cell 7 rfl
  have c11 : w1.cell? ⟨w.heap.size, 15, Option.none⟩ = some (.slice Option.none 0 0) := hA.cell 15 rfl
  have hl := hV.lt
  have HV := Lib.hid hV
  have hrow : w1.ownsRow (w.heap.size + 1) 34 5 (.slice (some ⟨w.heap.size + 1, 0, Option.none⟩) 1 1) 1 [.int .u8 0, .int .i64 0, .string ⟨#[]⟩, .slice Option.none 0 0, .int .i64 0] := ⟨rfl, .inr ⟨w.heap.size + 1, 1, _, rfl, Nat.le_refl _, hV, by omega, by unfold maxLen; omega, rfl, rfl⟩⟩
  have HROW := Lib.hid hrow
  obtain ⟨i34, hi34, _, _, _⟩ := info_parts info34'
  clear hA hV hrow
  go_upto_region 3 with (refine wpList_append_own_none rfl (.tmp 8) (.tmp 10) 31 rfl (w.heap.size + 1) 34 i34 5 Try.underlying31 hi34 _ 1 _ rfl HROW.out rfl ?_)
  go_wp2_with fail
  go_loop [3, 4] (fun v i => v = .slice (some ⟨w.heap.size + 1, 0, Option.none⟩) 1 1 ∧ i = .int .i64 0) (fun _ _ => 0)
  case atStart => exact ⟨rfl, rfl⟩
  case round =>
    obtain ⟨rfl, rfl⟩ := hrel
    go_wp2_with fail
    go_ret
    exact ⟨_, 1, rfl, by omega, fun j v hv => by rw [HV.out.cell_eq]; simpa using hv, by omega, HB.out⟩
set_option maxRecDepth 100000 in
set_option maxHeartbeats 1000000 in
theorem Fits73_code (l : List St) (A : Option Addr) (len cap : Nat) (w : World) (B : Nat) (hB : B ≤ w.heap.size) (h : LR (fun b _ => b < B) 256 A len cap l (fun b o => IsSts w B b o l)) :
    Calls Try.prog 73 #[.agg (whatC (.slice A len cap))] w fun e w' => IsB e ∧ Below w.heap.size w w' := by
  have hk : ∀ w', Below w.heap.size w w' → LR (fun b _ => b < B) 256 A len cap l (fun b o => IsSts w' B b o l) := fun w' hb => h.imp fun b o hr hp => ⟨hr, IsSts.keep (fun b hb' => hb.block b (Nat.lt_of_lt_of_le hb' hB)) hr hp⟩
  have C114 := Lib.hid (fun w' (hb : Below w.heap.size w w') => size114_any l w' B A len cap (hk w' hb) (Nat.le_trans hB hb.size))
  have C115 := Lib.hid (fun w' (hb : Below w.heap.size w w') => codeFits115_any l w' B A len cap (hk w' hb) (Nat.le_trans hB hb.size))
  have C116 := Lib.hid (fun w' => Values116_code A len cap w')
  have hB0 : Below w.heap.size w (w.alloc (.cells (whatC (.slice A len cap)) 93)) := (Below.refl _ _).alloc (Nat.le_refl _) _
  have HQ : Hid (BlkN (w.alloc (.cells (whatC (.slice A len cap)) 93)) w.heap.size 93 (whatC (.slice A len cap))) := Lib.hid (BlkN.at_ rfl _ _)
  have HB0 := Lib.hid hB0
  obtain ⟨i1, hi1, hzz1⟩ := info93
  have HI1 := Lib.hid hi1
  clear h hk hB0 hi1
  unfold whatC at *
  go_enter Try.func73, Try.ntmps73
  go_upto_region 3 with (first
    | (go_at_call 114; refine (C114.out _ HB0.out).mono ?_; rintro e w1 ⟨⟨n1, rfl⟩, hb1⟩; have HB1 := Lib.hid (bnext HB0.out hb1); have hq1 := HQ.out.below hb1; have q10 := hq1.cell 14 rfl; have ql := hq1.lt; have HQ1 := Lib.hid hq1; clear hb1 hq1)
    | (go_at_call 115; refine (C115.out _ HB1.out).mono ?_; rintro e w2 ⟨hi2, hb2⟩; obtain ⟨b2, rfl⟩ := hi2.is; have HB2 := Lib.hid (bnext HB1.out hb2); have HQ2 := Lib.hid (HQ1.out.below hb2); clear hb2; cases b2))
  all_goals first | (go_ret; first | exact ⟨⟨_, rfl⟩, HB2.out⟩ | exact ⟨⟨_, rfl⟩, HB1.out⟩) | skip
  go_upto_region 4 with (first | (refine wpList_load_blk rfl 93 (.tmp 1) rfl ⟨w.heap.size, 0, Option.none⟩ rfl (.agg (whatC (.slice A len cap))) (run_loadVar_blk Try.underlying93 HI1.out HQ2.out (by rw [hzz1]; rfl)) ?_) | (go_at_call 116; refine (C116.out _).mono ?_; rintro e w3 ⟨g, cap', rfl, hcap', hat, hg, hb3⟩))
  have HB3 := Lib.hid (bnext HB2.out hb3)
  have HAT := Lib.hid hat
  have HV := Lib.hid (fun w' (hb : Below w3.heap.size w3 w') => May67_any (B := w3.heap.size) w' (IsVaR.zero w' (fun b _ => b < w3.heap.size)) hb.size)
  clear hat hb3 C116 C115 C114 HQ HQ1 HQ2 q10 ql
  go_wp2_with fail
  go_loopw [4] (fun i wr => ∃ j : Nat, j ≤ 1 ∧ i = .int .i64 j ∧ Below w3.heap.size w3 wr) (fun i _ => 1 - (intOf i).toNat)
  case atStart => exact ⟨0, by omega, rfl, Below.refl _ _⟩
  case round =>
    obtain ⟨j, hj, rfl, hb⟩ := hrel
    have HB := Lib.hid hb
    have hbs := hb.size
    clear hb
    by_cases hlt : j < 1
    rotate_left
    · obtain rfl : j = 1 := by omega
      go_wp2_with fail
      go_ret
      exact ⟨⟨_, rfl⟩, bnext HB3.out HB.out⟩
    obtain rfl : j = 0 := by omega
    have hat2 := HAT.out.keep (w' := wr) hg (fun b hb => HB.out.block b hb)
    have e0 := hat2 0 _ rfl
    have e1 := hat2 1 _ rfl
    have e2 := hat2 2 _ rfl
    have e3 := hat2 3 _ rfl
    have e4 := hat2 4 _ rfl
    have hgr : g < wr.heap.size := by omega
    have C67 := Lib.hid (HV.out wr HB.out)
    clear hat2
    rw [zeroVa_may] at C67
    go_wp2_with (go_at_call 67; refine C67.out.mono ?_; rintro e w4 ⟨rfl, hb4⟩)
    go_roundw
    case rel => exact ⟨1, by omega, by go_num, bnext HB.out hb4⟩
    case measure => simp [intOf]
theorem build93 (v : Value) (A : Option Addr) (len cap : Nat) (w : World) (hv : v = .slice A len cap) : (Instr.build 93 #[(10, v)]).run Try.prog w = .ok (.agg (whatC v)) w := by subst hv; kernel_rfl
set_option maxRecDepth 100000 in
set_option maxHeartbeats 1000000 in
theorem fits26_any (l : List St) (A : Option Addr) (len cap : Nat) (w : World) (B : Nat) (hB : B ≤ w.heap.size) (h : LR (fun b _ => b < B) 256 A len cap l (fun b o => IsSts w B b o l)) :
    Calls Try.prog 26 #[.slice A len cap] w fun e w' => IsB e ∧ Below w.heap.size w w' := by
  have HC := Lib.hid (Fits73_code l A len cap w B hB h)
  clear h
  go_enter Try.func26, Try.ntmps26
  go_wp2_with (first | (refine wpList_build rfl 93 _ rfl #[(10, .slice A len cap)] rfl _ (build93 _ A len cap _ rfl) ?_) | (go_at_call 73; refine HC.out.mono ?_; rintro e w1 ⟨hi1, hb1⟩; obtain ⟨b1, rfl⟩ := hi1.is))
  go_ret
  exact ⟨⟨_, rfl⟩, hb1⟩
end Go.Proofs.Ytnknefdpglnbnaa
namespace Go.Proofs.Ytnknefdpglnbnaa
open Go.RowKit

theorem what_oneC (k n : Int) (s : ByteArray) (A : Option Addr) (len cap : Nat) (r : Int) (Ac : Option Addr) (lc cc : Nat) : ∀ u ∈ (#[.int .u8 0, .int .i64 0, .int .u8 k, .int .i64 n, .string s, .slice A len cap, .int .i64 r, .slice Option.none 0 0, .int .i64 0, .int .i64 0, .int .i64 0, .int .i64 0, .int .u8 0, .bool false, .slice Ac lc cc, .slice Option.none 0 0] : Array Value).toList, u.oneCell' = true := by
  intro u hu
  simp only [List.mem_cons, List.not_mem_nil, or_false] at hu
  rcases hu with rfl | rfl | rfl | rfl | rfl | rfl | rfl | rfl | rfl | rfl | rfl | rfl | rfl | rfl | rfl | rfl <;> rfl
set_option maxRecDepth 100000 in
set_option maxHeartbeats 2000000 in
theorem Own61_code (l : List St) (A : Option Addr) (len cap : Nat) (w : World) (B : Nat) (hB : B ≤ w.heap.size) (h : LR (fun b _ => b < B) 256 A len cap l (fun b o => IsSts w B b o l)) :
    Calls Try.prog 61 #[.agg #[.int .u8 0, .int .i64 0, .int .u8 0, .int .i64 0, .string ⟨#[]⟩, .slice Option.none 0 0, .int .i64 0, .slice Option.none 0 0, .int .i64 0, .int .i64 0, .int .i64 0, .int .i64 0, .int .u8 0, .bool false, .slice A len cap, .slice Option.none 0 0]] w fun e w' =>
      ∃ k n s A2 len2 cap2 r A' cap', e = .returned (.agg #[.int .u8 0, .int .i64 0, .int .u8 k, .int .i64 n, .string s, .slice A2 len2 cap2, .int .i64 r, .slice Option.none 0 0, .int .i64 0, .int .i64 0, .int .i64 0, .int .i64 0, .int .u8 0, .bool false, .slice A' l.length cap', .slice Option.none 0 0]) ∧ LR (OwnU w.heap.size w') 256 A' l.length cap' l (fun b o => IsStsR w' (OwnU w.heap.size w') b o l) ∧ Below w.heap.size w w' := by
  have HC105 := Lib.hid (fun w' (hb : Below w.heap.size w w') => code105_any l w' B A len cap (h.imp fun b o hr hp => ⟨hr, IsSts.keep (fun b hb' => hb.block b (Nat.lt_of_lt_of_le hb' hB)) hr hp⟩) (Nat.le_trans hB hb.size))
  obtain ⟨i1, hi1, hzz1⟩ := info93
  have HI1 := Lib.hid hi1
  have HB0 := Lib.hid (((Below.refl w.heap.size w).alloc (Nat.le_refl _) (.cells #[.int .u8 0, .int .i64 0, .int .u8 0, .int .i64 0, .string ⟨#[]⟩, .slice Option.none 0 0, .int .i64 0, .slice Option.none 0 0, .int .i64 0, .int .i64 0, .int .i64 0, .int .i64 0, .int .u8 0, .bool false, .slice A len cap, .slice Option.none 0 0] 93)).alloc (by simp) (.cells #[.int .u8 0, .int .i64 0, .int .u8 0, .int .i64 0, .string ⟨#[]⟩, .slice Option.none 0 0, .int .i64 0, .slice Option.none 0 0, .int .i64 0, .int .i64 0, .int .i64 0, .int .i64 0, .int .u8 0, .bool false, .slice Option.none 0 0, .slice Option.none 0 0] 93))
  have HA : Hid (BlkN ((w.alloc (.cells #[.int .u8 0, .int .i64 0, .int .u8 0, .int .i64 0, .string ⟨#[]⟩, .slice Option.none 0 0, .int .i64 0, .slice Option.none 0 0, .int .i64 0, .int .i64 0, .int .i64 0, .int .i64 0, .int .u8 0, .bool false, .slice A len cap, .slice Option.none 0 0] 93)).alloc (.cells #[.int .u8 0, .int .i64 0, .int .u8 0, .int .i64 0, .string ⟨#[]⟩, .slice Option.none 0 0, .int .i64 0, .slice Option.none 0 0, .int .i64 0, .int .i64 0, .int .i64 0, .int .i64 0, .int .u8 0, .bool false, .slice Option.none 0 0, .slice Option.none 0 0] 93)) w.heap.size 93 #[.int .u8 0, .int .i64 0, .int .u8 0, .int .i64 0, .string ⟨#[]⟩, .slice Option.none 0 0, .int .i64 0, .slice Option.none 0 0, .int .i64 0, .int .i64 0, .int .i64 0, .int .i64 0, .int .u8 0, .bool false, .slice A len cap, .slice Option.none 0 0]) := Lib.hid ((BlkN.at_ rfl _ _).alloc _)
  have HZ : Hid (BlkN ((w.alloc (.cells #[.int .u8 0, .int .i64 0, .int .u8 0, .int .i64 0, .string ⟨#[]⟩, .slice Option.none 0 0, .int .i64 0, .slice Option.none 0 0, .int .i64 0, .int .i64 0, .int .i64 0, .int .i64 0, .int .u8 0, .bool false, .slice A len cap, .slice Option.none 0 0] 93)).alloc (.cells #[.int .u8 0, .int .i64 0, .int .u8 0, .int .i64 0, .string ⟨#[]⟩, .slice Option.none 0 0, .int .i64 0, .slice Option.none 0 0, .int .i64 0, .int .i64 0, .int .i64 0, .int .i64 0, .int .u8 0, .bool false, .slice Option.none 0 0, .slice Option.none 0 0] 93)) (w.heap.size + 1) 93 #[.int .u8 0, .int .i64 0, .int .u8 0, .int .i64 0, .string ⟨#[]⟩, .slice Option.none 0 0, .int .i64 0, .slice Option.none 0 0, .int .i64 0, .int .i64 0, .int .i64 0, .int .i64 0, .int .u8 0, .bool false, .slice Option.none 0 0, .slice Option.none 0 0]) := Lib.hid (BlkN.at_ (by simp) _ _)
  clear h hi1
  go_enter Try.func61, Try.ntmps61
  go_upto_region 2 with (go_at_call 104; refine (value104_any zeroVa _ 0 _ (IsVaR.zero _ _) (Nat.zero_le _)).mono ?_; rintro e w1 ⟨v', rfl, hv', hb1⟩; obtain ⟨k2, n2, s2, A2, len2, cap2, r2, rfl⟩ := hv'.shape; have hA1 := HA.out.below hb1; have hZ1 := HZ.out.below hb1; have hB1 := bnext HB0.out hb1; have c2 := hA1.cell 2 rfl; have c3 := hA1.cell 3 rfl; have c4 := hA1.cell 4 rfl; have c5 := hA1.cell 5 rfl; have c6 := hA1.cell 6 rfl; have f2 := hA1.free 2; have f3 := hA1.free 3; have f4 := hA1.free 4; have f5 := hA1.free 5; have f6 := hA1.free 6)
  obtain ⟨W2, hW2⟩ : ∃ W2, W2 = ((((w1.setCell ⟨w.heap.size, 2, Option.none⟩ (.int .u8 k2)).setCell ⟨w.heap.size, 3, Option.none⟩ (.int .i64 n2)).setCell ⟨w.heap.size, 4, Option.none⟩ (.string s2)).setCell ⟨w.heap.size, 5, Option.none⟩ (.slice A2 len2 cap2)).setCell ⟨w.heap.size, 6, Option.none⟩ (.int .i64 r2) := ⟨_, rfl⟩
  rw [← hW2]
  have hA2 : BlkN W2 w.heap.size 93 #[.int .u8 0, .int .i64 0, .int .u8 k2, .int .i64 n2, .string s2, .slice A2 len2 cap2, .int .i64 r2, .slice Option.none 0 0, .int .i64 0, .int .i64 0, .int .i64 0, .int .i64 0, .int .u8 0, .bool false, .slice A len cap, .slice Option.none 0 0] := by rw [hW2]; exact ((((hA1.set 2 _).set 3 _).set 4 _).set 5 _).set 6 _
  have hZ2 : BlkN W2 (w.heap.size + 1) 93 #[.int .u8 0, .int .i64 0, .int .u8 0, .int .i64 0, .string ⟨#[]⟩, .slice Option.none 0 0, .int .i64 0, .slice Option.none 0 0, .int .i64 0, .int .i64 0, .int .i64 0, .int .i64 0, .int .u8 0, .bool false, .slice Option.none 0 0, .slice Option.none 0 0] := by rw [hW2]; exact ((((hZ1.setOther (by simp) _).setOther (by simp) _).setOther (by simp) _).setOther (by simp) _).setOther (by simp) _
  have hB2 : Below w.heap.size w W2 := by rw [hW2]; exact ((((hB1.setCell (Nat.le_refl _) _).setCell (Nat.le_refl _) _).setCell (Nat.le_refl _) _).setCell (Nat.le_refl _) _).setCell (Nat.le_refl _) _
  have HA2 := Lib.hid hA2
  have HZ2 := Lib.hid hZ2
  have HB2 := Lib.hid hB2
  clear hW2 hA1 hZ1 hB1 hb1 hv' c2 c3 c4 c5 c6 f2 f3 f4 f5 f6 hA2 hZ2 hB2
  go_wp2_with fail
  go_loopw [3, 4] (fun v i wr => v = .slice Option.none 0 0 ∧ i = .int .i64 0 ∧ wr = W2) (fun _ _ _ => 0)
  case atStart => exact ⟨rfl, rfl, rfl⟩
  case round =>
    obtain ⟨rfl, rfl, rfl⟩ := hrel
    have c7 := HA2.out.cell 7 rfl
    have f7 := HA2.out.free 7
    go_upto_region 8 with (fail)
    obtain ⟨W3, hW3⟩ : ∃ W3, W3 = wr.setCell ⟨w.heap.size, 7, Option.none⟩ (.slice Option.none 0 0) := ⟨_, rfl⟩
    rw [← hW3]
    have hA3 : BlkN W3 w.heap.size 93 #[.int .u8 0, .int .i64 0, .int .u8 k2, .int .i64 n2, .string s2, .slice A2 len2 cap2, .int .i64 r2, .slice Option.none 0 0, .int .i64 0, .int .i64 0, .int .i64 0, .int .i64 0, .int .u8 0, .bool false, .slice A len cap, .slice Option.none 0 0] := by rw [hW3]; exact HA2.out.set 7 _
    have hZ3 : BlkN W3 (w.heap.size + 1) 93 #[.int .u8 0, .int .i64 0, .int .u8 0, .int .i64 0, .string ⟨#[]⟩, .slice Option.none 0 0, .int .i64 0, .slice Option.none 0 0, .int .i64 0, .int .i64 0, .int .i64 0, .int .i64 0, .int .u8 0, .bool false, .slice Option.none 0 0, .slice Option.none 0 0] := by rw [hW3]; exact HZ2.out.setOther (by simp) _
    have hB3 : Below w.heap.size w W3 := by rw [hW3]; exact HB2.out.setCell (Nat.le_refl _) _
    have HA3 := Lib.hid hA3
    have HZ3 := Lib.hid hZ3
    have HB3 := Lib.hid hB3
    have c14 := hA3.cell 14 rfl
    have hlt3 := hZ3.lt
    clear hW3 c7 f7 hA3 hZ3 hB3 HA2 HZ2 HB2 HA HZ HB0
    go_upto_region 9 with (go_at_call 105; refine (HC105.out _ HB3.out).mono ?_; rintro e w4 ⟨A4, cap4, rfl, hx4, hb4⟩; have hA4 := HA3.out.below hb4; have hZ4 := HZ3.out.below hb4; have f14 := hA4.free 14; have d14 := hA4.cell 14 rfl; have hlt4 := hZ4.lt)
    obtain ⟨W5, hW5⟩ : ∃ W5, W5 = w4.setCell ⟨w.heap.size, 14, Option.none⟩ (.slice A4 l.length cap4) := ⟨_, rfl⟩
    rw [← hW5]
    have hA5 : BlkN W5 w.heap.size 93 #[.int .u8 0, .int .i64 0, .int .u8 k2, .int .i64 n2, .string s2, .slice A2 len2 cap2, .int .i64 r2, .slice Option.none 0 0, .int .i64 0, .int .i64 0, .int .i64 0, .int .i64 0, .int .u8 0, .bool false, .slice A4 l.length cap4, .slice Option.none 0 0] := by rw [hW5]; exact hA4.set 14 _
    have hZ5 : BlkN W5 (w.heap.size + 1) 93 #[.int .u8 0, .int .i64 0, .int .u8 0, .int .i64 0, .string ⟨#[]⟩, .slice Option.none 0 0, .int .i64 0, .slice Option.none 0 0, .int .i64 0, .int .i64 0, .int .i64 0, .int .i64 0, .int .u8 0, .bool false, .slice Option.none 0 0, .slice Option.none 0 0] := by rw [hW5]; exact hZ4.setOther (by simp) _
    have hB5 : Below w.heap.size w W5 := by rw [hW5]; exact (bnext HB3.out hb4).setCell (Nat.le_refl _) _
    have hx5 : LR (OwnU W3.heap.size W5) 256 A4 l.length cap4 l (fun b o => IsStsR W5 (OwnU W3.heap.size W5) b o l) := by rw [hW5]; exact lrU hx4 ((Upd.refl w.heap.size w4).set 14 _) (by omega)
    have HA5 := Lib.hid hA5
    have HZ5 := Lib.hid hZ5
    have HB5 := Lib.hid hB5
    have HX5 := Lib.hid hx5
    clear hW5 f14 d14 c14 hA4 hZ4 hA5 hZ5 hB5 hx4 hx5 hb4 HA3 HZ3 HB3
    go_wp2_with fail
    go_loopw [5, 6] (fun v i wr => v = .slice Option.none 0 0 ∧ i = .int .i64 0 ∧ wr = W5) (fun _ _ _ => 0)
    case atStart => exact ⟨rfl, rfl, rfl⟩
    case round =>
      obtain ⟨rfl, rfl, rfl⟩ := hrel
      have c15 := HA5.out.cell 15 rfl
      have f15 := HA5.out.free 15
      go_upto_region 15 with (fail)
      obtain ⟨W6, hW6⟩ : ∃ W6, W6 = wr.setCell ⟨w.heap.size, 15, Option.none⟩ (.slice Option.none 0 0) := ⟨_, rfl⟩
      rw [← hW6]
      have hA6 : BlkN W6 w.heap.size 93 #[.int .u8 0, .int .i64 0, .int .u8 k2, .int .i64 n2, .string s2, .slice A2 len2 cap2, .int .i64 r2, .slice Option.none 0 0, .int .i64 0, .int .i64 0, .int .i64 0, .int .i64 0, .int .u8 0, .bool false, .slice A4 l.length cap4, .slice Option.none 0 0] := by rw [hW6]; exact HA5.out.set 15 _
      have hZ6 : BlkN W6 (w.heap.size + 1) 93 #[.int .u8 0, .int .i64 0, .int .u8 0, .int .i64 0, .string ⟨#[]⟩, .slice Option.none 0 0, .int .i64 0, .slice Option.none 0 0, .int .i64 0, .int .i64 0, .int .i64 0, .int .i64 0, .int .u8 0, .bool false, .slice Option.none 0 0, .slice Option.none 0 0] := by rw [hW6]; exact HZ5.out.setOther (by simp) _
      have hB6 : Below w.heap.size w W6 := by rw [hW6]; exact HB5.out.setCell (Nat.le_refl _) _
      have hx6 := by have h := lrU HX5.out ((Upd.refl w.heap.size wr).set 15 (.slice Option.none 0 0)) (by omega); rw [← hW6] at h; exact h
      clear hW6 c15 f15
      refine wp_region_lit ?_
      refine wpList_load_blk rfl 93 (.tmp 1) rfl ⟨w.heap.size, 0, Option.none⟩ rfl (.agg #[.int .u8 0, .int .i64 0, .int .u8 k2, .int .i64 n2, .string s2, .slice A2 len2 cap2, .int .i64 r2, .slice Option.none 0 0, .int .i64 0, .int .i64 0, .int .i64 0, .int .i64 0, .int .u8 0, .bool false, .slice A4 l.length cap4, .slice Option.none 0 0]) (run_loadVar_blk Try.underlying93 HI1.out hA6 (by rw [hzz1]; rfl)) ?_
      refine wpList_store_blk rfl 93 (.tmp 2) (.tmp 59) rfl i1 HI1.out (w.heap.size + 1) #[.int .u8 0, .int .i64 0, .int .u8 k2, .int .i64 n2, .string s2, .slice A2 len2 cap2, .int .i64 r2, .slice Option.none 0 0, .int .i64 0, .int .i64 0, .int .i64 0, .int .i64 0, .int .u8 0, .bool false, .slice A4 l.length cap4, .slice Option.none 0 0] rfl rfl 93 _ hZ6 (by rw [hzz1]; rfl) rfl (what_oneC _ _ _ _ _ _ _ _ _ _) ?_
      intro W7 hB7 hbut
      go_wp2_with fail
      refine bodyPost_ret (results_cell1 (s := 2) (b := w.heap.size + 1) rfl Try.underlying93 HI1.out rfl hB7 (by rw [hzz1]; rfl)) rfl ⟨_, _, _, _, _, _, _, _, _, rfl, lrU.low (lrU hx6 hbut.toUpd (by omega)) (by omega), hbut.below (by omega) hB6⟩
theorem field93c (w : World) (vc : Value) (k n r : Int) (s : ByteArray) (A : Option Addr) (len cap : Nat) : (Instr.field 93 (.agg #[.int .u8 0, .int .i64 0, .int .u8 k, .int .i64 n, .string s, .slice A len cap, .int .i64 r, .slice Option.none 0 0, .int .i64 0, .int .i64 0, .int .i64 0, .int .i64 0, .int .u8 0, .bool false, vc, .slice Option.none 0 0]) 10).run Try.prog w = .ok vc w := by kernel_rfl
set_option maxRecDepth 100000 in
set_option maxHeartbeats 1000000 in
theorem own27_any (l : List St) (A : Option Addr) (len cap : Nat) (w : World) (B : Nat) (hB : B ≤ w.heap.size) (h : LR (fun b _ => b < B) 256 A len cap l (fun b o => IsSts w B b o l)) :
    Calls Try.prog 27 #[.slice A len cap] w fun e w' => ∃ A' cap', e = .returned (.slice A' l.length cap') ∧ LR (OwnU w.heap.size w') 256 A' l.length cap' l (fun b o => IsStsR w' (OwnU w.heap.size w') b o l) ∧ Below w.heap.size w w' := by
  have HC := Lib.hid (Own61_code l A len cap w B hB h)
  clear h
  go_enter Try.func27, Try.ntmps27
  go_wp2_with (first | (refine wpList_build rfl 93 _ rfl #[(10, .slice A len cap)] rfl _ (build93 _ A len cap _ rfl) ?_) | (go_at_call 61; refine HC.out.mono ?_; rintro e w2 ⟨k, n, s, A2, len2, cap2, r, A', cap', rfl, hx, hb2⟩; have hfld := fun w => field93c w (.slice A' l.length cap') k n r s A2 len2 cap2))
  go_ret
  exact ⟨_, _, rfl, hx, hb2⟩
end Go.Proofs.Ytnknefdpglnbnaa
