/- sound. -/
import Derived.Test.YthafojadcodkoaaUc
namespace Go.Proofs.Ythafojadcodkoaa
open Go.RowKit Go.ChangeMaps

theorem Wd.reface {w w' : World} {hi p tm fm : Nat} {ps cs ms : Value} {L : List Ent} {FL FL' : List ((Int × Nat) × Int)} {lt : Int} (h : Wd w hi p tm fm ps cs ms L FL lt) (hu : Upd fm w w') (hf : MapG kF w' fm (FL'.map fun f => (f.1, .int .i64 f.2))) (hpf : p ≠ fm) : Wd w' hi p tm fm ps cs ms L FL' lt := by
  obtain ⟨h1, h2, h3, h4, h5⟩ := h
  refine ⟨(hu.block p h1.lt hpf).trans h1, h2.keep (hu.block _ h2.lt h5.2.2.2.1), hf, fun e he => ?_, ⟨h5.1, h5.2.1, h5.2.2.1, h5.2.2.2.1, Nat.le_trans h5.2.2.2.2 hu.size⟩⟩
  obtain ⟨k1, k2, x, k3⟩ := h4 e he
  exact ⟨k1, (hu.block _ k2.lt (by omega)).trans k2, x, (k3.keep fun b o hr => hu.block b hr.2 (by have := hr.1; omega)).mono fun b o hr => ⟨hr.1, Nat.lt_of_lt_of_le hr.2 hu.size⟩⟩
/-- The facets that were found so far. -/
def FcR (L : List Ent) (es : Array MapEntry) (seen : Array Nat) (FL : List ((Int × Nat) × Int)) : Prop :=
  ∀ o s f, fc FL o s = some f ↔ ∃ e ∈ es.toList, seen.contains e.born = true ∧ ∃ E ∈ L, e.key = .int .i64 E.r ∧ E.r = f ∧ E.s.k = 14 ∧ E.s.of_ = o ∧ E.s.set = s
theorem FcR.nil (L : List Ent) (es : Array MapEntry) : FcR L es #[] [] := fun o s f => ⟨fun h => (by cases h), fun ⟨e, _, h, _⟩ => (by simp at h)⟩
theorem key_inj {e : MapEntry} {a b : Int} (h : e.key = .int .i64 a) (k : e.key = .int .i64 b) : a = b := by
  rw [h] at k; simpa using k
theorem ent_eq {L : List Ent} (hn : (L.map (·.r)).Nodup) {E F : Ent} (hE : E ∈ L) (hF : F ∈ L) (h : E.r = F.r) : E = F := by
  have h1 := entE_of hn hE
  rw [h, entE_of hn hF] at h1
  exact (Option.some.inj h1).symm
theorem FcR.skip {L : List Ent} {es : Array MapEntry} {seen : Array Nat} {FL : List ((Int × Nat) × Int)} (h : FcR L es seen FL) (hn : (L.map (·.r)).Nodup) {e : MapEntry} {E : Ent} (hE : E ∈ L) (hk : e.key = .int .i64 E.r) (h14 : E.s.k ≠ 14)
    (hs : ∀ x ∈ es.toList, (seen.push e.born).contains x.born = true → seen.contains x.born = true ∨ x = e) : FcR L es (seen.push e.born) FL := fun o s f => by
  rw [h o s f]
  constructor
  · rintro ⟨x, hx, hc, r⟩
    exact ⟨x, hx, by rw [contains_push, hc]; rfl, r⟩
  · rintro ⟨x, hx, hc, F, hF, hk2, r⟩
    rcases hs x hx hc with h1 | rfl
    · exact ⟨x, hx, h1, F, hF, hk2, r⟩
    · have := ent_eq hn hE hF (key_inj hk hk2)
      subst this
      exact absurd r.2.1 h14
theorem fc_app (FL : List ((Int × Nat) × Int)) (a : Int) (b : Nat) (r : Int) (o : Int) (s : Nat) : fc (FL ++ [((a, b), r)]) o s = (fc FL o s).or (if a = o ∧ b = s then some r else none) := by
  unfold fc
  rw [List.find?_append, Option.map_or]
  congr 1
  by_cases h : a = o ∧ b = s
  · rw [if_pos h]; simp [h.1, h.2]
  · rw [if_neg h]
    have : decide ((a, b) = (o, s)) = false := by simpa using h
    rw [List.find?_cons]
    simp only [this]
    rfl
theorem FcR.add {L : List Ent} {es : Array MapEntry} {seen : Array Nat} {FL : List ((Int × Nat) × Int)} (h : FcR L es seen FL) (hn : (L.map (·.r)).Nodup) {e : MapEntry} {E : Ent} (he : e ∈ es.toList) (hE : E ∈ L) (hk : e.key = .int .i64 E.r) (h14 : E.s.k = 14) (hno : fc FL E.s.of_ E.s.set = none)
    (hs : ∀ x ∈ es.toList, (seen.push e.born).contains x.born = true → seen.contains x.born = true ∨ x = e) : FcR L es (seen.push e.born) (FL ++ [((E.s.of_, E.s.set), E.r)]) := fun o s f => by
  rw [fc_app]
  constructor
  · intro h1
    cases hf : fc FL o s with
    | some g =>
      rw [hf] at h1
      obtain ⟨x, hx, hc, r⟩ := (h o s g).1 hf
      simp only [Option.some_or, Option.some.injEq] at h1
      subst h1
      exact ⟨x, hx, by rw [contains_push, hc]; rfl, r⟩
    | none =>
      rw [hf, Option.none_or] at h1
      split at h1
      · rename_i hh
        simp only [Option.some.injEq] at h1
        exact ⟨e, he, by rw [contains_push]; simp, E, hE, hk, h1, h14, hh.1, hh.2⟩
      · cases h1
  · rintro ⟨x, hx, hc, F, hF, hk2, rfl, hk14, rfl, rfl⟩
    rcases hs x hx hc with h1 | rfl
    · rw [(h _ _ _).2 ⟨x, hx, h1, F, hF, hk2, rfl, hk14, rfl, rfl⟩]; rfl
    · have := ent_eq hn hE hF (key_inj hk hk2)
      subst this
      rw [hno, if_pos ⟨rfl, rfl⟩]; rfl
theorem can_of {L : List Ent} {E : Ent} {n : Nat} (hE : entE L E.r = some E) (h : endsF (gr L) (n + 1) E.r = true) (hk : E.s.k = 14) : ∃ a, Can (gr L) E.s.of_ a := by
  rw [endsF, gr_ent hE] at h
  simp only [wrap14 hk, if_true] at h
  exact ⟨_, n, h, rfl⟩
theorem sound_of {L : List Ent} {FL : List ((Int × Nat) × Int)} {n : Nat} (hn : (L.map (·.r)).Nodup) (hall : ∀ E ∈ L, endsF (gr L) n E.r = true) (hfac : ∀ E ∈ L, E.s.k = 14 → FacO L E.s)
    (hfc : ∀ o s f, fc FL o s = some f ↔ ∃ E ∈ L, E.r = f ∧ E.s.k = 14 ∧ E.s.of_ = o ∧ E.s.set = s) : Sound (gr L) (fc FL) := by
  refine ⟨fun r t ht => ?_, fun f t ht hk => ?_, fun f t a ht hk hc => ?_, fun o s f => ?_⟩
  · obtain ⟨E, hE, rfl⟩ := gr_some ht
    have h1 := entE_mem hE
    exact ⟨n, h1.2 ▸ hall E h1.1⟩
  · obtain ⟨E, hE, rfl⟩ := gr_some ht
    obtain ⟨a, F, hF, hk2, -⟩ := hfac E (entE_mem hE).1 hk
    exact ⟨_, gr_ent hF, hk2⟩
  · obtain ⟨E, hE, rfl⟩ := gr_some ht
    obtain ⟨b, F, hF, hk2, hc2, h3, h4⟩ := hfac E (entE_mem hE).1 hk
    have := hc.one hc2
    subst this
    exact ⟨h3, h4⟩
  · rw [hfc]
    constructor
    · rintro ⟨E, hE, rfl, hk, rfl, rfl⟩
      exact ⟨_, gr_ent (entE_of hn hE), hk, rfl, rfl⟩
    · rintro ⟨t, ht, hk, rfl, rfl⟩
      obtain ⟨E, hE, rfl⟩ := gr_some ht
      have h1 := entE_mem hE
      exact ⟨E, h1.1, h1.2, hk, rfl, rfl⟩
theorem wpList_nextT (w : World) {L : List Ent} {ops : Array Oper} {rest : List Oper} {o : Oper} {a : Act} {Q : Exit → Act → World → Prop} (hgd : o.guard = Option.none) (x : Operand) (ho : o.op = .next x false) (r tm : Nat) (hx : a.eval x = .pointer (some ⟨r, 0, Option.none⟩))
    {es : Array MapEntry} {clock : Nat} {seen : Array Nat} (hr : It w r tm clock seen) (hb : w.heap[tm]? = some (.map es clock)) (hold : ∀ e ∈ es.toList, e.born < clock) (hm : es.toList.map (fun e => (e.key, e.val)) = (L.map Ent.pair).map (fun p => (kI p.1, p.2)))
    (h0 : (leftOf es seen).size = 0 → wpList Try.prog ops Q rest (a.put o.dst (.tuple #[.bool false])) w)
    (h1 : ∀ e ∈ (leftOf es seen).toList, ∀ E ∈ L, e.key = .int .i64 E.r → e.val = .pointer (some ⟨E.b, 0, Option.none⟩) → ∀ w', Upd r w w' → It w' r tm clock (seen.push e.born) → wpList Try.prog ops Q rest (a.put o.dst (.tuple #[.bool true, .int .i64 E.r, .pointer (some ⟨E.b, 0, Option.none⟩)])) w') : wpList Try.prog ops Q (o :: rest) a w :=
  wpList_next w hgd x ho r tm hx hr hb hold h0 fun e he w' hu hi => by
    obtain ⟨E, hE, hk, hv⟩ := ent_of hm (mem_left he).1
    have h2 := h1 e he E hE hk hv w' hu hi
    rw [← hk, ← hv] at h2
    exact h2
theorem wpList_entryT (w : World) {E : Ent} {ops : Array Oper} {rest : List Oper} {o : Oper} {a : Act} {Q : Exit → Act → World → Prop} (hgd : o.guard = Option.none) (x : Operand) (ho : o.op = .entry x) (r tm : Nat) (hx : a.eval x = .pointer (some ⟨r, 0, Option.none⟩))
    {es : Array MapEntry} {clock : Nat} {seen : Array Nat} {e : MapEntry} (hr : It w r tm clock (seen.push e.born)) (hb : w.heap[tm]? = some (.map es clock)) (he : e ∈ es.toList) (hn : (es.toList.map (·.born)).Nodup) (hk : e.key = .int .i64 E.r) (hv : e.val = .pointer (some ⟨E.b, 0, Option.none⟩))
    (h : wpList Try.prog ops Q rest (a.put o.dst (.tuple #[.int .i64 E.r, .pointer (some ⟨E.b, 0, Option.none⟩)])) w) : wpList Try.prog ops Q (o :: rest) a w :=
  wpList_entry w hgd x ho r tm hx hr hb he hn (by rw [hk, hv]; exact h)
section
variable {w : World} {hi p tm fm : Nat} {ps cs : Value} {mA : Option Addr} {ml mc : Nat} {L : List Ent} {lt : Int}
attribute [local irreducible] wpList RegT.seqM
/-- What sound answers. -/
def SoundP (w : World) (hi p tm fm : Nat) (ps cs ms : Value) (L : List Ent) (lt : Int) (e : Ending) (w' : World) : Prop :=
  Upd fm w w' ∧ ∃ β : Bool, e = .returned (.bool β) ∧ (β = true → ∃ FL, Wd w' hi p tm fm ps cs ms L FL lt ∧ Sound (gr L) (fc FL) ∧ ∀ e ∈ L, endsF (gr L) (L.length + 1) e.r = true)
set_option maxRecDepth 100000 in
set_option maxHeartbeats 64000000 in
theorem sound_any (h : Wd w hi p tm fm ps cs (.slice mA ml mc) L [] lt) (hnd : (L.map (·.r)).Nodup) (hl : L.length ≤ 600000) (hset : ∀ e ∈ L, e.s.k = 14 → e.s.set < 64) (hs5 : ∀ e ∈ L, e.s.sl ≤ 512 ∧ e.s.nl ≤ 64) :
    Calls Try.prog 17 #[.pointer (some ⟨p, 0, Option.none⟩)] w fun e w' => SoundP w hi p tm fm ps cs (.slice mA ml mc) L lt e w' := by
  obtain ⟨P, hP1, hP2⟩ : ∃ P : Ending → World → Prop, (∀ (w' : World) (β : Bool), Upd fm w w' → (β = true → ∃ FL, Wd w' hi p tm fm ps cs (.slice mA ml mc) L FL lt ∧ Sound (gr L) (fc FL) ∧ ∀ e ∈ L, endsF (gr L) (L.length + 1) e.r = true) → P (.returned (.bool β)) w') ∧ (∀ e w', P e w' → SoundP w hi p tm fm ps cs (.slice mA ml mc) L lt e w') := ⟨_, fun w' β h1 h2 => ⟨h1, β, rfl, h2⟩, fun e w' h => h⟩
  refine Calls.mono (R := P) ?_ hP2
  have HP := Lib.hid hP1
  clear hP1 hP2
  have c2 := h.blk.cell (v := .map (some tm)) 2 rfl
  have HW := Lib.hid h
  obtain ⟨es, clock, hb, hm, hnb, hold⟩ := h.things
  have htl := h.things.lt
  have hfl := h.facets.lt
  have htf := h.low.2.2.2.1
  have hhi := h.low.2.2.2.2
  have hesz : es.size = L.length := by have := congrArg List.length hm; simpa using this
  have HMB := Lib.hid hb
  have HM := Lib.hid hm
  have HNB := Lib.hid hnb
  have HOLD := Lib.hid hold
  have HND := Lib.hid hnd
  have HSET := Lib.hid hset
  have HS5 := Lib.hid hs5
  have HSZ := Lib.hid hesz
  clear h hb hm hnb hold hnd hset hs5 hesz
  go_enter Try.func17, Try.ntmps17
  go_wp2_with (refine wpList_range _ rfl (.tmp 16) rfl tm rfl HMB.out ?_; intro w1 hb1 hi1; have HB1 := Lib.hid hb1; have HI1 := Lib.hid hi1; clear hb1 hi1)
  go_simp
  go_loopw [2] (fun c wr => c = .bool false ∧ ∃ seen, It wr w.heap.size tm clock seen ∧ Below w.heap.size w wr ∧ ∀ e ∈ es.toList, seen.contains e.born = true → ∀ E ∈ L, e.key = .int .i64 E.r → endsF (gr L) (L.length + 1) E.r = true) (fun _ wr => (leftOf es (wr.iterSeen w.heap.size)).size)
  case atStart => exact ⟨rfl, _, HI1.out, HB1.out, fun e he h => by simp at h⟩
  case round =>
    obtain ⟨rfl, seen, hit, hbr, hdone⟩ := hrel
    have HIT := Lib.hid hit
    have HBR := Lib.hid hbr
    have HDO := Lib.hid hdone
    have hrl := hit.lt
    clear hit hbr hdone HI1 HB1 c2
    have htb : wr.heap[tm]? = some (.map es clock) := (HBR.out.block tm htl).trans HMB.out
    have HTB := Lib.hid htb
    clear htb
    go_upto_region 2 with fail
    refine wp_region_lit ?_
    refine wpList_nextT wr rfl (.tmp 17) rfl w.heap.size tm rfl HIT.out HTB.out HOLD.out HM.out (fun hs => ?_) (fun e he E hE hk hv w2 hu hit2 => ?_)
    · have HLEFT := Lib.hid hs
      clear hs
      have hall : ∀ E ∈ L, endsF (gr L) (L.length + 1) E.r = true := fun E hE => by
        obtain ⟨e, he, hk⟩ := ent_to HM.out hE
        exact HDO.out e he (all_seen es seen HLEFT.out e he) E hE hk
      have HALL := Lib.hid hall
      obtain ⟨V, hV⟩ : ∃ V, V = wr := ⟨_, rfl⟩
      rw [← hV] at HBR HTB ⊢
      clear hV HIT hrl HDO HLEFT hall
      have HWV := Lib.hid (HW.out.below HBR.out)
      have c2 := HWV.out.blk.cell (v := .map (some tm)) 2 rfl
      have hpf : p ≠ fm := fun e => by
        obtain ⟨es2, cl2, hb2, -⟩ := HWV.out.facets
        have h1 := HWV.out.blk
        unfold BlkN at h1
        rw [e, hb2] at h1
        cases h1
      have hVs := HBR.out.size
      go_wp2_with (refine wpList_range V rfl (.tmp 130) rfl tm rfl HTB.out ?_; intro w3 hb3 hi3; have HB3 := Lib.hid hb3; have HI3 := Lib.hid hi3; clear hb3 hi3)
      go_simp
      go_loopw [2] (fun c wr => c = .bool false ∧ ∃ seen FL, It wr V.heap.size tm clock seen ∧ Upd fm w wr ∧ MapG kF wr fm (FL.map fun f => (f.1, .int .i64 f.2)) ∧ FcR L es seen FL) (fun _ wr => (leftOf es (wr.iterSeen V.heap.size)).size)
      case atStart => exact ⟨rfl, _, [], HI3.out, Upd.ofBelow (bnext HBR.out HB3.out) fm, (HWV.out.below HB3.out).facets, FcR.nil _ _⟩
      case round =>
        obtain ⟨rfl, seen, FL, hit, hur, hmf, hfr⟩ := hrel
        have HIT := Lib.hid hit
        have HUR := Lib.hid hur
        have HMF := Lib.hid hmf
        have HFR := Lib.hid hfr
        have hrl := hit.lt
        have hwr := hur.size
        clear hit hur hmf hfr HI3 HB3 c2 HBR HTB HWV
        have htb : wr.heap[tm]? = some (.map es clock) := (HUR.out.block tm htl htf).trans HMB.out
        have HTB := Lib.hid htb
        clear htb
        go_upto_region 14 with fail
        refine wp_region_lit ?_
        refine wpList_nextT wr rfl (.tmp 131) rfl V.heap.size tm rfl HIT.out HTB.out HOLD.out HM.out (fun hs => ?_) (fun e he E hE hk hv w2 hu hit2 => ?_)
        · have hfc : ∀ o s f, fc FL o s = some f ↔ ∃ E ∈ L, E.r = f ∧ E.s.k = 14 ∧ E.s.of_ = o ∧ E.s.set = s := fun o s f => by
            rw [HFR.out o s f]
            constructor
            · rintro ⟨x, hx, hc, F, hF, hk, r⟩
              exact ⟨F, hF, r⟩
            · rintro ⟨F, hF, r⟩
              obtain ⟨x, hx, hk⟩ := ent_to HM.out hF
              exact ⟨x, hx, all_seen es seen hs x hx, F, hF, hk, r⟩
          have HFC := Lib.hid hfc
          obtain ⟨U, hU⟩ : ∃ U, U = wr := ⟨_, rfl⟩
          have HWU : Hid (Wd wr hi p tm fm ps cs (.slice mA ml mc) L FL lt) := Lib.hid (HW.out.reface HUR.out HMF.out hpf)
          rw [← hU] at HUR HTB HWU hwr ⊢
          clear hU HIT hrl HFR hs hfc HMF
          have c2 := HWU.out.blk.cell (v := .map (some tm)) 2 rfl
          go_wp2_with (refine wpList_range U rfl (.tmp 166) rfl tm rfl HTB.out ?_; intro w3 hb3 hi3; have HB3 := Lib.hid hb3; have HI3 := Lib.hid hi3; clear hb3 hi3)
          go_simp
          go_loopw [2] (fun c wr => c = .bool false ∧ ∃ seen, It wr U.heap.size tm clock seen ∧ Below U.heap.size U wr ∧ ∀ e ∈ es.toList, seen.contains e.born = true → ∀ E ∈ L, e.key = .int .i64 E.r → E.s.k = 14 → FacO L E.s) (fun _ wr => (leftOf es (wr.iterSeen U.heap.size)).size)
          case atStart => exact ⟨rfl, _, HI3.out, HB3.out, fun e he h => by simp at h⟩
          case round =>
            obtain ⟨rfl, seen, hit, hbr, hdone⟩ := hrel
            have HIT := Lib.hid hit
            have HBR := Lib.hid hbr
            have HDO := Lib.hid hdone
            have hrl := hit.lt
            clear hit hbr hdone HI3 HB3 c2
            have htu := HWU.out.things.lt
            have htb2 : wr.heap[tm]? = some (.map es clock) := (HBR.out.block tm htu).trans HTB.out
            have HTB2 := Lib.hid htb2
            clear htb2
            go_upto_region 22 with fail
            refine wp_region_lit ?_
            refine wpList_nextT wr rfl (.tmp 167) rfl U.heap.size tm rfl HIT.out HTB2.out HOLD.out HM.out (fun hs => ?_) (fun e he E hE hk hv w2 hu hit2 => ?_)
            · have HLEFT := Lib.hid hs
              clear hs
              have hfac : ∀ E ∈ L, E.s.k = 14 → FacO L E.s := fun E hE h14 => by
                obtain ⟨e, he, hk⟩ := ent_to HM.out hE
                exact HDO.out e he (all_seen es seen HLEFT.out e he) E hE hk h14
              have HFIN : Hid (∃ FL, Wd wr hi p tm fm ps cs (.slice mA ml mc) L FL lt ∧ Sound (gr L) (fc FL) ∧ ∀ e ∈ L, endsF (gr L) (L.length + 1) e.r = true) := Lib.hid ⟨FL, HWU.out.below HBR.out, sound_of HND.out HALL.out hfac HFC.out, HALL.out⟩
              have HUF := Lib.hid (HUR.out.below HBR.out)
              clear hfac
              go_wp2_with fail
              exact HP.out _ true HUF.out (fun _ => HFIN.out)
            · have hem := (mem_left he).1
              have HEM := Lib.hid hem
              have HB2 := Lib.hid (below_upd HBR.out hu (Nat.le_refl _) HBR.out.size)
              have HT2 : Hid (w2.heap[tm]? = some (.map es clock)) := Lib.hid ((HB2.out.block tm htu).trans HTB.out)
              have HIT2 := Lib.hid hit2
              have HW2 := Lib.hid (HWU.out.below HB2.out)
              have HK := Lib.hid hk
              have HV := Lib.hid hv
              have HEL := Lib.hid hE
              have hw2 := HB2.out.size
              have HLT := Lib.hid (left_shrinks es seen e he)
              have hseen : ∀ x ∈ es.toList, (seen.push e.born).contains x.born = true → seen.contains x.born = true ∨ x = e := fun x hx h => by
                rw [contains_push, Bool.or_eq_true, beq_iff_eq] at h
                exact h.imp id fun h => born_inj HNB.out hx hem h
              have HSEEN := Lib.hid hseen
              have hblk := (HW2.out.each _ hE).2.1
              have k0 := hblk.cell (v := .int .u8 E.s.k) 0 E.s.at0
              have k1 := hblk.cell (v := .int .i64 E.s.home) 1 E.s.at1
              have k2 := hblk.cell (v := .int .u8 E.s.v0) 2 E.s.at2
              have k3 := hblk.cell (v := .int .i64 E.s.v1) 3 E.s.at3
              have k4 := hblk.cell (v := .string E.s.v2) 4 E.s.at4
              have k5 := hblk.cell (v := .slice E.s.vA E.s.vl E.s.vc) 5 E.s.at5
              have k6 := hblk.cell (v := .int .i64 E.s.v4) 6 E.s.at6
              have k7 := hblk.cell (v := .slice E.s.sA E.s.sl E.s.sc) 7 E.s.at7
              have k8 := hblk.cell (v := .int .i64 E.s.n) 8 E.s.at8
              have k9 := hblk.cell (v := .int .i64 E.s.lost) 9 E.s.at9
              have k10 := hblk.cell (v := .int .i64 E.s.of_) 10 E.s.at10
              have k11 := hblk.cell (v := .int .i64 E.s.by_) 11 E.s.at11
              have k12 := hblk.cell (v := .int .u8 E.s.set) 12 E.s.at12
              have k13 := hblk.cell (v := .bool E.s.full) 13 E.s.at13
              have k14 := hblk.cell (v := .slice E.s.cA E.s.cl E.s.cc) 14 E.s.at14
              have k15 := hblk.cell (v := .slice E.s.nA E.s.nl E.s.nc) 15 E.s.at15
              have C30 := Lib.hid (fits_any HW2.out E.r E.s (HSET.out E hE) (fun h14 => can_of (entE_of HND.out hE) (HALL.out E hE) h14))
              clear he hem hE hk hv hu hit2 hblk hseen
              go_upto_region 23 with fail
              refine wp_region_lit ?_
              refine wpList_entryT (E := E) w2 rfl (.tmp 167) rfl U.heap.size tm rfl HIT2.out HT2.out HEM.out HNB.out HK.out HV.out ?_
              go_wp2_with (go_at_call 30; refine C30.out.mono ?_; rintro e3 w3 ⟨hb3, β3, rfl, hβ3, -⟩; have HB3 := Lib.hid (bnext HB2.out hb3); have HIT3 := Lib.hid (HIT2.out.keep (hb3.block _ HIT2.out.lt)); have HBT := Lib.hid hβ3; clear hb3 hβ3)
              · exact HP.out _ false (HUR.out.below HB3.out) (fun h => by cases h)
              · have hbb : β3 = true := by
                  have h3 : (!β3) = false := by assumption
                  simpa using h3
                have hdone' : ∀ e' ∈ es.toList, (seen.push e.born).contains e'.born = true → ∀ E' ∈ L, e'.key = .int .i64 E'.r → E'.s.k = 14 → FacO L E'.s := fun e' he' hc E' hE' hk' h14 => by
                  rcases HSEEN.out e' he' hc with h | rfl
                  · exact HDO.out e' he' h E' hE' hk' h14
                  · have h2 := ent_eq HND.out HEL.out hE' (key_inj HK.out hk')
                    subst h2
                    exact HBT.out hbb h14
                go_roundw
                case rel => first | exact ⟨rfl, _, HIT3.out, HB3.out, hdone'⟩ | exact ⟨_, HIT3.out, HB3.out, hdone'⟩
                case measure => rw [HIT3.out.seen, HIT.out.seen]; exact HLT.out
        · have hem := (mem_left he).1
          have HEM := Lib.hid hem
          have hvf : V.heap.size ≠ fm := by omega
          have HU2 := Lib.hid (HUR.out.new hu (by omega))
          have HT2 : Hid (w2.heap[tm]? = some (.map es clock)) := Lib.hid ((HU2.out.block tm htl htf).trans HMB.out)
          have HIT2 := Lib.hid hit2
          have HMF2 := Lib.hid (HMF.out.keep (hu.block fm HMF.out.lt (Ne.symm hvf)))
          have HW2 := Lib.hid (HW.out.reface HU2.out HMF2.out hpf)
          have HK := Lib.hid hk
          have HV := Lib.hid hv
          have HEL := Lib.hid hE
          have HEE := Lib.hid (entE_of HND.out hE)
          have hw2 := HU2.out.size
          have HLT := Lib.hid (left_shrinks es seen e he)
          have hseen : ∀ x ∈ es.toList, (seen.push e.born).contains x.born = true → seen.contains x.born = true ∨ x = e := fun x hx h => by
            rw [contains_push, Bool.or_eq_true, beq_iff_eq] at h
            exact h.imp id fun h => born_inj HNB.out hx hem h
          have HSEEN := Lib.hid hseen
          have hblk := (HW2.out.each _ hE).2.1
          have k0 := hblk.cell (v := .int .u8 E.s.k) 0 E.s.at0
          have k10 := hblk.cell (v := .int .i64 E.s.of_) 10 E.s.at10
          have k12 := hblk.cell (v := .int .u8 E.s.set) 12 E.s.at12
          have c3 := HW2.out.blk.cell (v := .map (some fm)) 3 rfl
          clear he hem hE hk hv hu hit2 hblk hseen
          go_upto_region 15 with fail
          refine wp_region_lit ?_
          refine wpList_entryT (E := E) w2 rfl (.tmp 131) rfl V.heap.size tm rfl HIT2.out HT2.out HEM.out HNB.out HK.out HV.out ?_
          cases h14 : (E.s.k == 14) with
          | false =>
            have HN14 : Hid (E.s.k ≠ 14) := Lib.hid (ne_of_beq_false h14)
            go_wp2_with fail
            go_roundw
            case rel => first | exact ⟨rfl, _, FL, HIT2.out, HU2.out, HMF2.out, HFR.out.skip HND.out HEL.out HK.out HN14.out HSEEN.out⟩ | exact ⟨_, FL, HIT2.out, HU2.out, HMF2.out, HFR.out.skip HND.out HEL.out HK.out HN14.out HSEEN.out⟩
            case measure => rw [HIT2.out.seen, HIT.out.seen]; exact HLT.out
          | true =>
            have H14 : Hid (E.s.k = 14) := Lib.hid (eq_of_beq h14)
            have hlk : ∀ n, (Instr.lookup 62 (.map (some fm)) (.agg #[.int .i64 E.s.of_, .int .u8 E.s.set]) true).run Try.prog (w2.drewN n) = .ok (.tuple #[.int .i64 ((fc FL E.s.of_ E.s.set).getD 0), .bool (fc FL E.s.of_ E.s.set).isSome]) (w2.drewN n) := fun n => by
              have h1 := (HW2.out.below (belowD w2 n)).facets.look facets62 (zero25 _) (E.s.of_, E.s.set) true
              rw [look_fc] at h1
              simp only [if_true] at h1
              refine h1.trans ?_
              cases fc FL E.s.of_ E.s.set <;> rfl
            cases hF : fc FL E.s.of_ E.s.set with
            | some g =>
              rw [hF] at hlk
              clear hF
              go_upto_region 17 with fail
              go_quiet (fail)
              go_wp2_with fail
              exact HP.out _ false (HU2.out.below (belowD w2 _)) (fun h => by cases h)
            | none =>
              rw [hF] at hlk
              have HNO := Lib.hid hF
              clear hF
              go_upto_region 17 with fail
              go_quiet (fail)
              have C45 := Lib.hid (index_any (HW2.out.below (belowD w2 nq)) E.r E HEE.out H14.out HNO.out)
              go_wp2_with (go_at_call 45; with_reducible refine C45.out.mono ?_; rintro e3 w3 ⟨rfl, hbut, hwd3⟩; have HBUT := Lib.hid hbut; have HWD3 := Lib.hid hwd3; clear hbut hwd3)
              have hu3 : Upd fm w w3 := (HU2.out.below (belowD w2 nq)).trans HBUT.out.toUpd
              have hit3 : It w3 V.heap.size tm clock (seen.push e.born) := (HIT2.out.keep (w' := w2.drewN nq) rfl).keep (HBUT.out.other _ hvf)
              have HU3 := Lib.hid hu3
              have HIT3 := Lib.hid hit3
              clear hu3 hit3
              go_roundw
              case rel => first | exact ⟨rfl, _, _, HIT3.out, HU3.out, HWD3.out.facets, HFR.out.add HND.out HEM.out HEL.out HK.out H14.out HNO.out HSEEN.out⟩ | exact ⟨_, _, HIT3.out, HU3.out, HWD3.out.facets, HFR.out.add HND.out HEM.out HEL.out HK.out H14.out HNO.out HSEEN.out⟩
              case measure => rw [HIT3.out.seen, HIT.out.seen]; exact HLT.out
    · have hem := (mem_left he).1
      have HEM := Lib.hid hem
      have HB2 := Lib.hid (below_upd HBR.out hu (Nat.le_refl _) HBR.out.size)
      have HT2 : Hid (w2.heap[tm]? = some (.map es clock)) := Lib.hid ((HB2.out.block tm htl).trans HMB.out)
      have HIT2 := Lib.hid hit2
      have HW2 := Lib.hid (HW.out.below HB2.out)
      have HK := Lib.hid hk
      have HV := Lib.hid hv
      have HEL := Lib.hid hE
      have HEE := Lib.hid (entE_of HND.out hE)
      have hs6 := HS5.out E hE
      have hw2 := HB2.out.size
      have HLT := Lib.hid (left_shrinks es seen e he)
      have hseen : ∀ x ∈ es.toList, (seen.push e.born).contains x.born = true → seen.contains x.born = true ∨ x = e := fun x hx h => by
        rw [contains_push, Bool.or_eq_true, beq_iff_eq] at h
        exact h.imp id fun h => born_inj HNB.out hx hem h
      have HSEEN := Lib.hid hseen
      obtain ⟨-, hblk, x, hwh⟩ := HW2.out.each _ hE
      have HBLK := Lib.hid hblk
      have HWH := Lib.hid hwh
      clear he hem hE hk hv hu hit2 hblk hwh hseen
      go_upto_region 3 with fail
      refine wp_region_lit ?_
      refine wpList_entryT (E := E) w2 rfl (.tmp 17) rfl w.heap.size tm rfl HIT2.out HT2.out HEM.out HNB.out HK.out HV.out ?_
      go_upto_region 4 with fail
      obtain ⟨W2, hW2⟩ : ∃ W2, W2 = w2 := ⟨_, rfl⟩
      rw [← hW2] at HB2 HT2 HIT2 HW2 HBLK HWH hw2 ⊢
      clear hW2
      have k0 := HBLK.out.cell (v := .int .u8 E.s.k) 0 E.s.at0
      have k1 := HBLK.out.cell (v := .int .i64 E.s.home) 1 E.s.at1
      have k2 := HBLK.out.cell (v := .int .u8 E.s.v0) 2 E.s.at2
      have k3 := HBLK.out.cell (v := .int .i64 E.s.v1) 3 E.s.at3
      have k4 := HBLK.out.cell (v := .string E.s.v2) 4 E.s.at4
      have k5 := HBLK.out.cell (v := .slice E.s.vA E.s.vl E.s.vc) 5 E.s.at5
      have k6 := HBLK.out.cell (v := .int .i64 E.s.v4) 6 E.s.at6
      have k7 := HBLK.out.cell (v := .slice E.s.sA E.s.sl E.s.sc) 7 E.s.at7
      have k8 := HBLK.out.cell (v := .int .i64 E.s.n) 8 E.s.at8
      have k9 := HBLK.out.cell (v := .int .i64 E.s.lost) 9 E.s.at9
      have k10 := HBLK.out.cell (v := .int .i64 E.s.of_) 10 E.s.at10
      have k11 := HBLK.out.cell (v := .int .i64 E.s.by_) 11 E.s.at11
      have k12 := HBLK.out.cell (v := .int .u8 E.s.set) 12 E.s.at12
      have k13 := HBLK.out.cell (v := .bool E.s.full) 13 E.s.at13
      have k14 := HBLK.out.cell (v := .slice E.s.cA E.s.cl E.s.cc) 14 E.s.at14
      have k15 := HBLK.out.cell (v := .slice E.s.nA E.s.nl E.s.nc) 15 E.s.at15
      have C27 := Lib.hid (names27_any HW2.out E.s x (B := W2.heap.size) (HWH.out.mono fun b o hb => hb.2) (Nat.le_refl _) hs6.1 hs6.2)
      refine wp_region_lit ?_
      obtain ⟨R, hR1, hR2⟩ : ∃ R : Act → World → Prop, (∀ (β28 : Bool) (x23 x24 x25 x26 x27 : Value) (w2 : World), (True) → (Below W2.heap.size W2 w2) → R ⟨#[.pointer (some ⟨p, 0, Option.none⟩), undef, .bool false, .int .i64 E.r, .pointer (some ⟨E.b, 0, Option.none⟩), u5, u6, undef, undef, undef, undef, undef, undef, .pointer (some ⟨p, 0, Option.none⟩), .pointer (some ⟨p, 0, Option.none⟩), .pointer (some ⟨p, 2, Option.none⟩), .map (some tm), .pointer (some ⟨w.heap.size, 0, Option.none⟩), .tuple #[.bool true, .int .i64 E.r, .pointer (some ⟨E.b, 0, Option.none⟩)], .bool true, .tuple #[.int .i64 E.r, .pointer (some ⟨E.b, 0, Option.none⟩)], .int .i64 E.r, .pointer (some ⟨E.b, 0, Option.none⟩), x23, x24, x25, x26, x27, .bool β28, u29, u30, u31, u32, u33, u34, u35, u36, u37, u38, u39, u40, u41, u42, u43, u44, u45, u46, u47, u48, u49, u50, u51, u52, u53, u54, u55, u56, u57, u58, u59, u60, u61, u62, u63, u64, u65, u66, u67, u68, u69, u70, u71, u72, u73, u74, u75, u76, u77, u78, u79, u80, u81, u82, u83, u84, u85, u86, u87, u88, u89, u90, u91, u92, u93, u94, u95, u96, u97, u98, u99, u100, u101, u102, u103, u104, u105, u106, u107, u108, u109, u110, u111, u112, u113, u114, u115, u116, u117, u118, u119, u120, u121, u122, u123, u124, u125, u126, undef, undef, undef, undef, undef, undef, undef, undef, undef, undef, undef, undef, undef, undef, undef, undef, undef, undef, undef, undef, undef, undef, undef, undef, undef, undef, undef, undef, undef, undef, undef, undef, undef, undef, undef, undef, undef, undef, undef, undef, undef, undef, undef, undef, undef, undef, undef, undef, undef, undef, undef, undef, undef], []⟩ w2) ∧ (∀ a w2, R a w2 → ∃ (β28 : Bool) (x23 x24 x25 x26 x27 : Value), (True) ∧ (Below W2.heap.size W2 w2) ∧ a = ⟨#[.pointer (some ⟨p, 0, Option.none⟩), undef, .bool false, .int .i64 E.r, .pointer (some ⟨E.b, 0, Option.none⟩), u5, u6, undef, undef, undef, undef, undef, undef, .pointer (some ⟨p, 0, Option.none⟩), .pointer (some ⟨p, 0, Option.none⟩), .pointer (some ⟨p, 2, Option.none⟩), .map (some tm), .pointer (some ⟨w.heap.size, 0, Option.none⟩), .tuple #[.bool true, .int .i64 E.r, .pointer (some ⟨E.b, 0, Option.none⟩)], .bool true, .tuple #[.int .i64 E.r, .pointer (some ⟨E.b, 0, Option.none⟩)], .int .i64 E.r, .pointer (some ⟨E.b, 0, Option.none⟩), x23, x24, x25, x26, x27, .bool β28, u29, u30, u31, u32, u33, u34, u35, u36, u37, u38, u39, u40, u41, u42, u43, u44, u45, u46, u47, u48, u49, u50, u51, u52, u53, u54, u55, u56, u57, u58, u59, u60, u61, u62, u63, u64, u65, u66, u67, u68, u69, u70, u71, u72, u73, u74, u75, u76, u77, u78, u79, u80, u81, u82, u83, u84, u85, u86, u87, u88, u89, u90, u91, u92, u93, u94, u95, u96, u97, u98, u99, u100, u101, u102, u103, u104, u105, u106, u107, u108, u109, u110, u111, u112, u113, u114, u115, u116, u117, u118, u119, u120, u121, u122, u123, u124, u125, u126, undef, undef, undef, undef, undef, undef, undef, undef, undef, undef, undef, undef, undef, undef, undef, undef, undef, undef, undef, undef, undef, undef, undef, undef, undef, undef, undef, undef, undef, undef, undef, undef, undef, undef, undef, undef, undef, undef, undef, undef, undef, undef, undef, undef, undef, undef, undef, undef, undef, undef, undef, undef, undef], []⟩) := ⟨fun a w2 => ∃ (β28 : Bool) (x23 x24 x25 x26 x27 : Value), (True) ∧ (Below W2.heap.size W2 w2) ∧ a = ⟨#[.pointer (some ⟨p, 0, Option.none⟩), undef, .bool false, .int .i64 E.r, .pointer (some ⟨E.b, 0, Option.none⟩), u5, u6, undef, undef, undef, undef, undef, undef, .pointer (some ⟨p, 0, Option.none⟩), .pointer (some ⟨p, 0, Option.none⟩), .pointer (some ⟨p, 2, Option.none⟩), .map (some tm), .pointer (some ⟨w.heap.size, 0, Option.none⟩), .tuple #[.bool true, .int .i64 E.r, .pointer (some ⟨E.b, 0, Option.none⟩)], .bool true, .tuple #[.int .i64 E.r, .pointer (some ⟨E.b, 0, Option.none⟩)], .int .i64 E.r, .pointer (some ⟨E.b, 0, Option.none⟩), x23, x24, x25, x26, x27, .bool β28, u29, u30, u31, u32, u33, u34, u35, u36, u37, u38, u39, u40, u41, u42, u43, u44, u45, u46, u47, u48, u49, u50, u51, u52, u53, u54, u55, u56, u57, u58, u59, u60, u61, u62, u63, u64, u65, u66, u67, u68, u69, u70, u71, u72, u73, u74, u75, u76, u77, u78, u79, u80, u81, u82, u83, u84, u85, u86, u87, u88, u89, u90, u91, u92, u93, u94, u95, u96, u97, u98, u99, u100, u101, u102, u103, u104, u105, u106, u107, u108, u109, u110, u111, u112, u113, u114, u115, u116, u117, u118, u119, u120, u121, u122, u123, u124, u125, u126, undef, undef, undef, undef, undef, undef, undef, undef, undef, undef, undef, undef, undef, undef, undef, undef, undef, undef, undef, undef, undef, undef, undef, undef, undef, undef, undef, undef, undef, undef, undef, undef, undef, undef, undef, undef, undef, undef, undef, undef, undef, undef, undef, undef, undef, undef, undef, undef, undef, undef, undef, undef, undef], []⟩, fun β28 x23 x24 x25 x26 x27 w2 h h2 => ⟨β28, x23, x24, x25, x26, x27, h, h2, rfl⟩, fun a w2 h => h⟩
      have HR1 := Lib.hid hR1
      clear hR1
      refine wpList_cut (R := R) 6 _ _ _ ?_ ?_
      · clear hR2
        simp only [List.take_succ_cons, List.take_zero]
        go_wp2_with (go_at_call 27; refine C27.out.mono ?_; rintro e w3 ⟨hb3, β3, rfl, -⟩)
        refine HR1.out _ _ _ _ _ _ _ ?_ ?_
        · trivial
        · exact hb3
      intro a w2 h
      obtain ⟨β28, x23, x24, x25, x26, x27, hC28, hW28, rfl⟩ := hR2 a w2 h
      clear hR2 HR1 h R
      simp only [List.drop_succ_cons, List.drop_zero]
      clear k0 k1 k2 k3 k4 k5 k6 k7 k8 k9 k10 k11 k12 k13 k14 k15 C27
      obtain ⟨W3, hW3⟩ : ∃ W3, W3 = w2 := ⟨_, rfl⟩
      rw [← hW3] at hW28 ⊢
      clear hW3
      have HB3 := Lib.hid (bnext HB2.out hW28)
      have HIT3 := Lib.hid (HIT2.out.keep (hW28.block _ HIT2.out.lt))
      have HW3 := Lib.hid (HW.out.below HB3.out)
      have HBLK3 := Lib.hid (HBLK.out.below hW28)
      have hw3 := HB3.out.size
      clear HB2 HT2 HIT2 HW2 HBLK HWH hw2 hW28 hC28
      have k0 := HBLK3.out.cell (v := .int .u8 E.s.k) 0 E.s.at0
      have k10 := HBLK3.out.cell (v := .int .i64 E.s.of_) 10 E.s.at10
      have k11 := HBLK3.out.cell (v := .int .i64 E.s.by_) 11 E.s.at11
      have C28 := Lib.hid (asksOf_any E.s.k W3)
      have C29 := Lib.hid (asksBy_any E.s.k W3)
      have C6 := Lib.hid (is_any HW3.out)
      obtain ⟨R, hR1, hR2⟩ : ∃ R : Act → World → Prop, (∀ (β44 : Bool) (x29 x30 x31 x32 x33 x34 x35 x36 x37 x38 x39 x40 x41 x42 x43 : Value) (w2 : World), (True) → (W3 = w2) → R ⟨#[.pointer (some ⟨p, 0, Option.none⟩), undef, .bool false, .int .i64 E.r, .pointer (some ⟨E.b, 0, Option.none⟩), u5, u6, undef, undef, undef, undef, undef, undef, .pointer (some ⟨p, 0, Option.none⟩), .pointer (some ⟨p, 0, Option.none⟩), .pointer (some ⟨p, 2, Option.none⟩), .map (some tm), .pointer (some ⟨w.heap.size, 0, Option.none⟩), .tuple #[.bool true, .int .i64 E.r, .pointer (some ⟨E.b, 0, Option.none⟩)], .bool true, .tuple #[.int .i64 E.r, .pointer (some ⟨E.b, 0, Option.none⟩)], .int .i64 E.r, .pointer (some ⟨E.b, 0, Option.none⟩), x23, x24, x25, x26, x27, .bool β28, x29, x30, x31, x32, x33, x34, x35, x36, x37, x38, x39, x40, x41, x42, x43, .bool β44, u45, u46, u47, u48, u49, u50, u51, u52, u53, u54, u55, u56, u57, u58, u59, u60, u61, u62, u63, u64, u65, u66, u67, u68, u69, u70, u71, u72, u73, u74, u75, u76, u77, u78, u79, u80, u81, u82, u83, u84, u85, u86, u87, u88, u89, u90, u91, u92, u93, u94, u95, u96, u97, u98, u99, u100, u101, u102, u103, u104, u105, u106, u107, u108, u109, u110, u111, u112, u113, u114, u115, u116, u117, u118, u119, u120, u121, u122, u123, u124, u125, u126, undef, undef, undef, undef, undef, undef, undef, undef, undef, undef, undef, undef, undef, undef, undef, undef, undef, undef, undef, undef, undef, undef, undef, undef, undef, undef, undef, undef, undef, undef, undef, undef, undef, undef, undef, undef, undef, undef, undef, undef, undef, undef, undef, undef, undef, undef, undef, undef, undef, undef, undef, undef, undef], []⟩ w2) ∧ (∀ a w2, R a w2 → ∃ (β44 : Bool) (x29 x30 x31 x32 x33 x34 x35 x36 x37 x38 x39 x40 x41 x42 x43 : Value), (True) ∧ (W3 = w2) ∧ a = ⟨#[.pointer (some ⟨p, 0, Option.none⟩), undef, .bool false, .int .i64 E.r, .pointer (some ⟨E.b, 0, Option.none⟩), u5, u6, undef, undef, undef, undef, undef, undef, .pointer (some ⟨p, 0, Option.none⟩), .pointer (some ⟨p, 0, Option.none⟩), .pointer (some ⟨p, 2, Option.none⟩), .map (some tm), .pointer (some ⟨w.heap.size, 0, Option.none⟩), .tuple #[.bool true, .int .i64 E.r, .pointer (some ⟨E.b, 0, Option.none⟩)], .bool true, .tuple #[.int .i64 E.r, .pointer (some ⟨E.b, 0, Option.none⟩)], .int .i64 E.r, .pointer (some ⟨E.b, 0, Option.none⟩), x23, x24, x25, x26, x27, .bool β28, x29, x30, x31, x32, x33, x34, x35, x36, x37, x38, x39, x40, x41, x42, x43, .bool β44, u45, u46, u47, u48, u49, u50, u51, u52, u53, u54, u55, u56, u57, u58, u59, u60, u61, u62, u63, u64, u65, u66, u67, u68, u69, u70, u71, u72, u73, u74, u75, u76, u77, u78, u79, u80, u81, u82, u83, u84, u85, u86, u87, u88, u89, u90, u91, u92, u93, u94, u95, u96, u97, u98, u99, u100, u101, u102, u103, u104, u105, u106, u107, u108, u109, u110, u111, u112, u113, u114, u115, u116, u117, u118, u119, u120, u121, u122, u123, u124, u125, u126, undef, undef, undef, undef, undef, undef, undef, undef, undef, undef, undef, undef, undef, undef, undef, undef, undef, undef, undef, undef, undef, undef, undef, undef, undef, undef, undef, undef, undef, undef, undef, undef, undef, undef, undef, undef, undef, undef, undef, undef, undef, undef, undef, undef, undef, undef, undef, undef, undef, undef, undef, undef, undef], []⟩) := ⟨fun a w2 => ∃ (β44 : Bool) (x29 x30 x31 x32 x33 x34 x35 x36 x37 x38 x39 x40 x41 x42 x43 : Value), (True) ∧ (W3 = w2) ∧ a = ⟨#[.pointer (some ⟨p, 0, Option.none⟩), undef, .bool false, .int .i64 E.r, .pointer (some ⟨E.b, 0, Option.none⟩), u5, u6, undef, undef, undef, undef, undef, undef, .pointer (some ⟨p, 0, Option.none⟩), .pointer (some ⟨p, 0, Option.none⟩), .pointer (some ⟨p, 2, Option.none⟩), .map (some tm), .pointer (some ⟨w.heap.size, 0, Option.none⟩), .tuple #[.bool true, .int .i64 E.r, .pointer (some ⟨E.b, 0, Option.none⟩)], .bool true, .tuple #[.int .i64 E.r, .pointer (some ⟨E.b, 0, Option.none⟩)], .int .i64 E.r, .pointer (some ⟨E.b, 0, Option.none⟩), x23, x24, x25, x26, x27, .bool β28, x29, x30, x31, x32, x33, x34, x35, x36, x37, x38, x39, x40, x41, x42, x43, .bool β44, u45, u46, u47, u48, u49, u50, u51, u52, u53, u54, u55, u56, u57, u58, u59, u60, u61, u62, u63, u64, u65, u66, u67, u68, u69, u70, u71, u72, u73, u74, u75, u76, u77, u78, u79, u80, u81, u82, u83, u84, u85, u86, u87, u88, u89, u90, u91, u92, u93, u94, u95, u96, u97, u98, u99, u100, u101, u102, u103, u104, u105, u106, u107, u108, u109, u110, u111, u112, u113, u114, u115, u116, u117, u118, u119, u120, u121, u122, u123, u124, u125, u126, undef, undef, undef, undef, undef, undef, undef, undef, undef, undef, undef, undef, undef, undef, undef, undef, undef, undef, undef, undef, undef, undef, undef, undef, undef, undef, undef, undef, undef, undef, undef, undef, undef, undef, undef, undef, undef, undef, undef, undef, undef, undef, undef, undef, undef, undef, undef, undef, undef, undef, undef, undef, undef], []⟩, fun β44 x29 x30 x31 x32 x33 x34 x35 x36 x37 x38 x39 x40 x41 x42 x43 w2 h h2 => ⟨β44, x29, x30, x31, x32, x33, x34, x35, x36, x37, x38, x39, x40, x41, x42, x43, h, h2, rfl⟩, fun a w2 h => h⟩
      have HR1 := Lib.hid hR1
      clear hR1
      refine wpList_cut (R := R) 16 _ _ _ ?_ ?_
      · clear hR2
        simp only [List.take_succ_cons, List.take_zero]
        cases β28
        all_goals go_wp2_with (first | (go_at_call 28; with_reducible refine C28.out.mono ?_; rintro e w3 ⟨rfl, rfl⟩) | (go_at_call 29; with_reducible refine C29.out.mono ?_; rintro e w3 ⟨rfl, rfl⟩) | (go_at_call 6; with_reducible refine (C6.out _).mono ?_; rintro e w3 ⟨rfl, rfl⟩))
        all_goals (refine HR1.out _ _ _ _ _ _ _ _ _ _ _ _ _ _ _ _ _ ?_ ?_ <;> first | trivial | rfl)
      intro a w2 h
      obtain ⟨β44, x29, x30, x31, x32, x33, x34, x35, x36, x37, x38, x39, x40, x41, x42, x43, hC44, hW44, rfl⟩ := hR2 a w2 h
      clear hR2 HR1 h R
      simp only [List.drop_succ_cons, List.drop_zero]
      subst hW44
      clear hC44
      obtain ⟨R, hR1, hR2⟩ : ∃ R : Act → World → Prop, (∀ (β60 : Bool) (x45 x46 x47 x48 x49 x50 x51 x52 x53 x54 x55 x56 x57 x58 x59 : Value) (w2 : World), (True) → (W3 = w2) → R ⟨#[.pointer (some ⟨p, 0, Option.none⟩), undef, .bool false, .int .i64 E.r, .pointer (some ⟨E.b, 0, Option.none⟩), u5, u6, undef, undef, undef, undef, undef, undef, .pointer (some ⟨p, 0, Option.none⟩), .pointer (some ⟨p, 0, Option.none⟩), .pointer (some ⟨p, 2, Option.none⟩), .map (some tm), .pointer (some ⟨w.heap.size, 0, Option.none⟩), .tuple #[.bool true, .int .i64 E.r, .pointer (some ⟨E.b, 0, Option.none⟩)], .bool true, .tuple #[.int .i64 E.r, .pointer (some ⟨E.b, 0, Option.none⟩)], .int .i64 E.r, .pointer (some ⟨E.b, 0, Option.none⟩), x23, x24, x25, x26, x27, .bool β28, x29, x30, x31, x32, x33, x34, x35, x36, x37, x38, x39, x40, x41, x42, x43, .bool β44, x45, x46, x47, x48, x49, x50, x51, x52, x53, x54, x55, x56, x57, x58, x59, .bool β60, u61, u62, u63, u64, u65, u66, u67, u68, u69, u70, u71, u72, u73, u74, u75, u76, u77, u78, u79, u80, u81, u82, u83, u84, u85, u86, u87, u88, u89, u90, u91, u92, u93, u94, u95, u96, u97, u98, u99, u100, u101, u102, u103, u104, u105, u106, u107, u108, u109, u110, u111, u112, u113, u114, u115, u116, u117, u118, u119, u120, u121, u122, u123, u124, u125, u126, undef, undef, undef, undef, undef, undef, undef, undef, undef, undef, undef, undef, undef, undef, undef, undef, undef, undef, undef, undef, undef, undef, undef, undef, undef, undef, undef, undef, undef, undef, undef, undef, undef, undef, undef, undef, undef, undef, undef, undef, undef, undef, undef, undef, undef, undef, undef, undef, undef, undef, undef, undef, undef], []⟩ w2) ∧ (∀ a w2, R a w2 → ∃ (β60 : Bool) (x45 x46 x47 x48 x49 x50 x51 x52 x53 x54 x55 x56 x57 x58 x59 : Value), (True) ∧ (W3 = w2) ∧ a = ⟨#[.pointer (some ⟨p, 0, Option.none⟩), undef, .bool false, .int .i64 E.r, .pointer (some ⟨E.b, 0, Option.none⟩), u5, u6, undef, undef, undef, undef, undef, undef, .pointer (some ⟨p, 0, Option.none⟩), .pointer (some ⟨p, 0, Option.none⟩), .pointer (some ⟨p, 2, Option.none⟩), .map (some tm), .pointer (some ⟨w.heap.size, 0, Option.none⟩), .tuple #[.bool true, .int .i64 E.r, .pointer (some ⟨E.b, 0, Option.none⟩)], .bool true, .tuple #[.int .i64 E.r, .pointer (some ⟨E.b, 0, Option.none⟩)], .int .i64 E.r, .pointer (some ⟨E.b, 0, Option.none⟩), x23, x24, x25, x26, x27, .bool β28, x29, x30, x31, x32, x33, x34, x35, x36, x37, x38, x39, x40, x41, x42, x43, .bool β44, x45, x46, x47, x48, x49, x50, x51, x52, x53, x54, x55, x56, x57, x58, x59, .bool β60, u61, u62, u63, u64, u65, u66, u67, u68, u69, u70, u71, u72, u73, u74, u75, u76, u77, u78, u79, u80, u81, u82, u83, u84, u85, u86, u87, u88, u89, u90, u91, u92, u93, u94, u95, u96, u97, u98, u99, u100, u101, u102, u103, u104, u105, u106, u107, u108, u109, u110, u111, u112, u113, u114, u115, u116, u117, u118, u119, u120, u121, u122, u123, u124, u125, u126, undef, undef, undef, undef, undef, undef, undef, undef, undef, undef, undef, undef, undef, undef, undef, undef, undef, undef, undef, undef, undef, undef, undef, undef, undef, undef, undef, undef, undef, undef, undef, undef, undef, undef, undef, undef, undef, undef, undef, undef, undef, undef, undef, undef, undef, undef, undef, undef, undef, undef, undef, undef, undef], []⟩) := ⟨fun a w2 => ∃ (β60 : Bool) (x45 x46 x47 x48 x49 x50 x51 x52 x53 x54 x55 x56 x57 x58 x59 : Value), (True) ∧ (W3 = w2) ∧ a = ⟨#[.pointer (some ⟨p, 0, Option.none⟩), undef, .bool false, .int .i64 E.r, .pointer (some ⟨E.b, 0, Option.none⟩), u5, u6, undef, undef, undef, undef, undef, undef, .pointer (some ⟨p, 0, Option.none⟩), .pointer (some ⟨p, 0, Option.none⟩), .pointer (some ⟨p, 2, Option.none⟩), .map (some tm), .pointer (some ⟨w.heap.size, 0, Option.none⟩), .tuple #[.bool true, .int .i64 E.r, .pointer (some ⟨E.b, 0, Option.none⟩)], .bool true, .tuple #[.int .i64 E.r, .pointer (some ⟨E.b, 0, Option.none⟩)], .int .i64 E.r, .pointer (some ⟨E.b, 0, Option.none⟩), x23, x24, x25, x26, x27, .bool β28, x29, x30, x31, x32, x33, x34, x35, x36, x37, x38, x39, x40, x41, x42, x43, .bool β44, x45, x46, x47, x48, x49, x50, x51, x52, x53, x54, x55, x56, x57, x58, x59, .bool β60, u61, u62, u63, u64, u65, u66, u67, u68, u69, u70, u71, u72, u73, u74, u75, u76, u77, u78, u79, u80, u81, u82, u83, u84, u85, u86, u87, u88, u89, u90, u91, u92, u93, u94, u95, u96, u97, u98, u99, u100, u101, u102, u103, u104, u105, u106, u107, u108, u109, u110, u111, u112, u113, u114, u115, u116, u117, u118, u119, u120, u121, u122, u123, u124, u125, u126, undef, undef, undef, undef, undef, undef, undef, undef, undef, undef, undef, undef, undef, undef, undef, undef, undef, undef, undef, undef, undef, undef, undef, undef, undef, undef, undef, undef, undef, undef, undef, undef, undef, undef, undef, undef, undef, undef, undef, undef, undef, undef, undef, undef, undef, undef, undef, undef, undef, undef, undef, undef, undef], []⟩, fun β60 x45 x46 x47 x48 x49 x50 x51 x52 x53 x54 x55 x56 x57 x58 x59 w2 h h2 => ⟨β60, x45, x46, x47, x48, x49, x50, x51, x52, x53, x54, x55, x56, x57, x58, x59, h, h2, rfl⟩, fun a w2 h => h⟩
      have HR1 := Lib.hid hR1
      clear hR1
      refine wpList_cut (R := R) 16 _ _ _ ?_ ?_
      · clear hR2
        simp only [List.take_succ_cons, List.take_zero]
        cases β44
        all_goals go_wp2_with (first | (go_at_call 28; with_reducible refine C28.out.mono ?_; rintro e w3 ⟨rfl, rfl⟩) | (go_at_call 29; with_reducible refine C29.out.mono ?_; rintro e w3 ⟨rfl, rfl⟩) | (go_at_call 6; with_reducible refine (C6.out _).mono ?_; rintro e w3 ⟨rfl, rfl⟩))
        all_goals (refine HR1.out _ _ _ _ _ _ _ _ _ _ _ _ _ _ _ _ _ ?_ ?_ <;> first | trivial | rfl)
      intro a w2 h
      obtain ⟨β60, x45, x46, x47, x48, x49, x50, x51, x52, x53, x54, x55, x56, x57, x58, x59, hC60, hW60, rfl⟩ := hR2 a w2 h
      clear hR2 HR1 h R
      simp only [List.drop_succ_cons, List.drop_zero]
      subst hW60
      clear hC60
      obtain ⟨R, hR1, hR2⟩ : ∃ R : Act → World → Prop, (∀ (β83 : Bool) (x61 x62 x63 x64 x65 x66 x67 x68 x69 x70 x71 x72 x73 x74 x75 x76 x77 x78 x79 x80 x81 x82 : Value) (w2 : World), (True) → (W3 = w2) → R ⟨#[.pointer (some ⟨p, 0, Option.none⟩), undef, .bool false, .int .i64 E.r, .pointer (some ⟨E.b, 0, Option.none⟩), u5, u6, undef, undef, undef, undef, undef, undef, .pointer (some ⟨p, 0, Option.none⟩), .pointer (some ⟨p, 0, Option.none⟩), .pointer (some ⟨p, 2, Option.none⟩), .map (some tm), .pointer (some ⟨w.heap.size, 0, Option.none⟩), .tuple #[.bool true, .int .i64 E.r, .pointer (some ⟨E.b, 0, Option.none⟩)], .bool true, .tuple #[.int .i64 E.r, .pointer (some ⟨E.b, 0, Option.none⟩)], .int .i64 E.r, .pointer (some ⟨E.b, 0, Option.none⟩), x23, x24, x25, x26, x27, .bool β28, x29, x30, x31, x32, x33, x34, x35, x36, x37, x38, x39, x40, x41, x42, x43, .bool β44, x45, x46, x47, x48, x49, x50, x51, x52, x53, x54, x55, x56, x57, x58, x59, .bool β60, x61, x62, x63, x64, x65, x66, x67, x68, x69, x70, x71, x72, x73, x74, x75, x76, x77, x78, x79, x80, x81, x82, .bool β83, u84, u85, u86, u87, u88, u89, u90, u91, u92, u93, u94, u95, u96, u97, u98, u99, u100, u101, u102, u103, u104, u105, u106, u107, u108, u109, u110, u111, u112, u113, u114, u115, u116, u117, u118, u119, u120, u121, u122, u123, u124, u125, u126, undef, undef, undef, undef, undef, undef, undef, undef, undef, undef, undef, undef, undef, undef, undef, undef, undef, undef, undef, undef, undef, undef, undef, undef, undef, undef, undef, undef, undef, undef, undef, undef, undef, undef, undef, undef, undef, undef, undef, undef, undef, undef, undef, undef, undef, undef, undef, undef, undef, undef, undef, undef, undef], []⟩ w2) ∧ (∀ a w2, R a w2 → ∃ (β83 : Bool) (x61 x62 x63 x64 x65 x66 x67 x68 x69 x70 x71 x72 x73 x74 x75 x76 x77 x78 x79 x80 x81 x82 : Value), (True) ∧ (W3 = w2) ∧ a = ⟨#[.pointer (some ⟨p, 0, Option.none⟩), undef, .bool false, .int .i64 E.r, .pointer (some ⟨E.b, 0, Option.none⟩), u5, u6, undef, undef, undef, undef, undef, undef, .pointer (some ⟨p, 0, Option.none⟩), .pointer (some ⟨p, 0, Option.none⟩), .pointer (some ⟨p, 2, Option.none⟩), .map (some tm), .pointer (some ⟨w.heap.size, 0, Option.none⟩), .tuple #[.bool true, .int .i64 E.r, .pointer (some ⟨E.b, 0, Option.none⟩)], .bool true, .tuple #[.int .i64 E.r, .pointer (some ⟨E.b, 0, Option.none⟩)], .int .i64 E.r, .pointer (some ⟨E.b, 0, Option.none⟩), x23, x24, x25, x26, x27, .bool β28, x29, x30, x31, x32, x33, x34, x35, x36, x37, x38, x39, x40, x41, x42, x43, .bool β44, x45, x46, x47, x48, x49, x50, x51, x52, x53, x54, x55, x56, x57, x58, x59, .bool β60, x61, x62, x63, x64, x65, x66, x67, x68, x69, x70, x71, x72, x73, x74, x75, x76, x77, x78, x79, x80, x81, x82, .bool β83, u84, u85, u86, u87, u88, u89, u90, u91, u92, u93, u94, u95, u96, u97, u98, u99, u100, u101, u102, u103, u104, u105, u106, u107, u108, u109, u110, u111, u112, u113, u114, u115, u116, u117, u118, u119, u120, u121, u122, u123, u124, u125, u126, undef, undef, undef, undef, undef, undef, undef, undef, undef, undef, undef, undef, undef, undef, undef, undef, undef, undef, undef, undef, undef, undef, undef, undef, undef, undef, undef, undef, undef, undef, undef, undef, undef, undef, undef, undef, undef, undef, undef, undef, undef, undef, undef, undef, undef, undef, undef, undef, undef, undef, undef, undef, undef], []⟩) := ⟨fun a w2 => ∃ (β83 : Bool) (x61 x62 x63 x64 x65 x66 x67 x68 x69 x70 x71 x72 x73 x74 x75 x76 x77 x78 x79 x80 x81 x82 : Value), (True) ∧ (W3 = w2) ∧ a = ⟨#[.pointer (some ⟨p, 0, Option.none⟩), undef, .bool false, .int .i64 E.r, .pointer (some ⟨E.b, 0, Option.none⟩), u5, u6, undef, undef, undef, undef, undef, undef, .pointer (some ⟨p, 0, Option.none⟩), .pointer (some ⟨p, 0, Option.none⟩), .pointer (some ⟨p, 2, Option.none⟩), .map (some tm), .pointer (some ⟨w.heap.size, 0, Option.none⟩), .tuple #[.bool true, .int .i64 E.r, .pointer (some ⟨E.b, 0, Option.none⟩)], .bool true, .tuple #[.int .i64 E.r, .pointer (some ⟨E.b, 0, Option.none⟩)], .int .i64 E.r, .pointer (some ⟨E.b, 0, Option.none⟩), x23, x24, x25, x26, x27, .bool β28, x29, x30, x31, x32, x33, x34, x35, x36, x37, x38, x39, x40, x41, x42, x43, .bool β44, x45, x46, x47, x48, x49, x50, x51, x52, x53, x54, x55, x56, x57, x58, x59, .bool β60, x61, x62, x63, x64, x65, x66, x67, x68, x69, x70, x71, x72, x73, x74, x75, x76, x77, x78, x79, x80, x81, x82, .bool β83, u84, u85, u86, u87, u88, u89, u90, u91, u92, u93, u94, u95, u96, u97, u98, u99, u100, u101, u102, u103, u104, u105, u106, u107, u108, u109, u110, u111, u112, u113, u114, u115, u116, u117, u118, u119, u120, u121, u122, u123, u124, u125, u126, undef, undef, undef, undef, undef, undef, undef, undef, undef, undef, undef, undef, undef, undef, undef, undef, undef, undef, undef, undef, undef, undef, undef, undef, undef, undef, undef, undef, undef, undef, undef, undef, undef, undef, undef, undef, undef, undef, undef, undef, undef, undef, undef, undef, undef, undef, undef, undef, undef, undef, undef, undef, undef], []⟩, fun β83 x61 x62 x63 x64 x65 x66 x67 x68 x69 x70 x71 x72 x73 x74 x75 x76 x77 x78 x79 x80 x81 x82 w2 h h2 => ⟨β83, x61, x62, x63, x64, x65, x66, x67, x68, x69, x70, x71, x72, x73, x74, x75, x76, x77, x78, x79, x80, x81, x82, h, h2, rfl⟩, fun a w2 h => h⟩
      have HR1 := Lib.hid hR1
      clear hR1
      refine wpList_cut (R := R) 23 _ _ _ ?_ ?_
      · clear hR2
        simp only [List.take_succ_cons, List.take_zero]
        cases β60
        all_goals go_wp2_with (first | (go_at_call 28; with_reducible refine C28.out.mono ?_; rintro e w3 ⟨rfl, rfl⟩) | (go_at_call 29; with_reducible refine C29.out.mono ?_; rintro e w3 ⟨rfl, rfl⟩) | (go_at_call 6; with_reducible refine (C6.out _).mono ?_; rintro e w3 ⟨rfl, rfl⟩))
        all_goals (refine HR1.out _ _ _ _ _ _ _ _ _ _ _ _ _ _ _ _ _ _ _ _ _ _ _ _ ?_ ?_ <;> first | trivial | rfl)
      intro a w2 h
      obtain ⟨β83, x61, x62, x63, x64, x65, x66, x67, x68, x69, x70, x71, x72, x73, x74, x75, x76, x77, x78, x79, x80, x81, x82, hC83, hW83, rfl⟩ := hR2 a w2 h
      clear hR2 HR1 h R
      simp only [List.drop_succ_cons, List.drop_zero]
      subst hW83
      clear hC83
      clear C28 C29
      refine RegT.wpList_end ?_
      simp only [Exit.then]
      go_upto_region 8 with fail
      · exact HP.out _ false (Upd.ofBelow HB3.out fm) (fun h => by cases h)
      have hbb : β83 = false := by assumption
      subst hbb
      have hlen := len61 (w := W3) (b := tm) ((HB3.out.block tm htl).trans HMB.out)
      rw [HSZ.out] at hlen
      go_loopw [2, 5, 6] (fun c nv qv wr2 => c = .bool false ∧ ∃ (j : Nat) (q : Int), nv = .int .i64 j ∧ qv = .int .i64 q ∧ j ≤ L.length ∧ (entE L q).isSome = true ∧ (∀ m, endsF (gr L) m q = true → endsF (gr L) (m + j) E.r = true) ∧ W3 = wr2) (fun _ nv _ _ => L.length + 1 - (intOf nv).toNat)
      case atStart => exact ⟨rfl, 0, E.r, rfl, rfl, Nat.zero_le _, by rw [HEE.out]; rfl, fun m h => h, by trivial⟩
      case round =>
        obtain ⟨rfl, j, q, rfl, rfl, hj, hq, hend, rfl⟩ := hrel
        have HEND := Lib.hid hend
        clear hend
        obtain ⟨F, hF⟩ := Option.isSome_iff_exists.1 hq
        have HFF := Lib.hid hF
        have hl := HW3.out.look q
        rw [hF] at hl
        obtain ⟨-, hblkF, -⟩ := HW3.out.each _ (entE_mem hF).1
        have f0 := hblkF.cell (v := .int .u8 F.s.k) 0 F.s.at0
        have f10 := hblkF.cell (v := .int .i64 F.s.of_) 10 F.s.at10
        have c2 := HW3.out.blk.cell (v := .map (some tm)) 2 rfl
        have C44 := wraps_any F.s.k W3
        simp only at hl
        clear hF hq hblkF k0 k10 k11
        cases hw : wrapK F.s.k with
        | false =>
          rw [hw] at C44
          have C44 := Lib.hid C44
          have HWF := Lib.hid hw
          clear hw
          go_wp2_with (go_at_call 44; with_reducible refine C44.out.mono ?_; rintro e w3 ⟨rfl, rfl⟩)
          have hone : endsF (gr L) 1 q = true := by
            rw [endsF, gr_ent HFF.out]
            simp only [HWF.out, Bool.false_eq_true, if_false]
          have hfin : endsF (gr L) (L.length + 1) E.r = true := (ends_le (HEND.out 1 hone) (by omega)).1
          have hdone' : ∀ e' ∈ es.toList, (seen.push e.born).contains e'.born = true → ∀ E' ∈ L, e'.key = .int .i64 E'.r → endsF (gr L) (L.length + 1) E'.r = true := fun e' he' hc E' hE' hk' => by
            rcases HSEEN.out e' he' hc with h | rfl
            · exact HDO.out e' he' h E' hE' hk'
            · have h2 := HK.out.symm.trans hk'
              simp only [Value.int.injEq, true_and] at h2
              rw [← h2]; exact hfin
          go_roundw
          case rel => first | exact ⟨rfl, _, HIT3.out, HB3.out, hdone'⟩ | exact ⟨_, HIT3.out, HB3.out, hdone'⟩
          case measure => rw [HIT3.out.seen, HIT.out.seen]; exact HLT.out
        | true =>
          rw [hw] at C44
          have C44 := Lib.hid C44
          have HWF := Lib.hid hw
          clear hw
          by_cases hj1 : j + 1 ≤ L.length
          · cases hof : (entE L F.s.of_).isSome with
            | false =>
              have C6b : Hid (Calls Try.prog 6 #[.pointer (some ⟨p, 0, Option.none⟩), .int .i64 F.s.of_] W3 fun e w' => e = .returned (.bool false) ∧ W3 = w') := Lib.hid (by have := C6.out F.s.of_; rw [hof] at this; exact this)
              clear hof
              go_wp2_with (first | (go_at_call 44; with_reducible refine C44.out.mono ?_; rintro e w3 ⟨rfl, rfl⟩) | (go_at_call 6; with_reducible refine C6b.out.mono ?_; rintro e w3 ⟨rfl, rfl⟩))
              exact HP.out _ false (Upd.ofBelow HB3.out fm) (fun h => by cases h)
            | true =>
              have C6b : Hid (Calls Try.prog 6 #[.pointer (some ⟨p, 0, Option.none⟩), .int .i64 F.s.of_] W3 fun e w' => e = .returned (.bool true) ∧ W3 = w') := Lib.hid (by have := C6.out F.s.of_; rw [hof] at this; exact this)
              have HOF := Lib.hid hof
              clear hof
              go_wp2_with (first | (go_at_call 44; with_reducible refine C44.out.mono ?_; rintro e w3 ⟨rfl, rfl⟩) | (go_at_call 6; with_reducible refine C6b.out.mono ?_; rintro e w3 ⟨rfl, rfl⟩))
              go_roundw
              case rel =>
                refine ⟨rfl, j + 1, F.s.of_, by go_num, rfl, hj1, HOF.out, fun m hm => ?_, by trivial⟩
                have h1 : endsF (gr L) (m + 1) q = true := by
                  rw [endsF, gr_ent HFF.out]
                  simp only [HWF.out, if_true]
                  exact hm
                have h2 := HEND.out (m + 1) h1
                rw [show m + (j + 1) = m + 1 + j by omega]
                exact h2
              case measure => simp [intOf]; omega
          · have hj2 : (L.length : Int) < (j : Int) + 1 := by omega
            go_wp2_with (first | (go_at_call 44; with_reducible refine C44.out.mono ?_; rintro e w3 ⟨rfl, rfl⟩) | (go_at_call 6; with_reducible refine (C6.out _).mono ?_; rintro e w3 ⟨rfl, rfl⟩))
            exact HP.out _ false (Upd.ofBelow HB3.out fm) (fun h => by cases h)
end
end Go.Proofs.Ythafojadcodkoaa
