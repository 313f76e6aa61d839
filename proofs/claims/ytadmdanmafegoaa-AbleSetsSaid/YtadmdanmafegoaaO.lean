/- A slice of bytes of an argument, opened; general over its length and capacity. -/
import Derived.Test.YtadmdanmafegoaaE
import Derived.Test.YtadmdanmafegoaaH
import Derived.Test.YtadmdanmafegoaaLaw
import Derived.Test.YtadmdanmafegoaaNat
import Derived.OpenShut
namespace Go.Proofs.Ytadmdanmafegoaa
open Go.ChangeShapes Go.WideShapes Go.ChangeAt Go.RowKit
theorem Try.cells22 : Try.prog.cellsOf 22 = 1 := by kernel_rfl
theorem open_u8s {H : Type} {enc : TypeId × Value → H} {W : World} {base : Nat} {v : Value} {d : DataW H} {p : List MemPlace} (hv : Value.okWide Try.prog W .any base 33 v) (h : DataW.Trod enc Try.prog W 0 (fun _ => true) true 33 v d p)
   (hs : (DataW.weightsEach Try.prog [33] [d]).all (· ≤ reachBytes) = true) :
    ∃ xs : List Nat, IsU8 W v xs ∧ xs.length ≤ 140737488351232 := by
  obtain ⟨a0, len, cap, rfl⟩ := okWide_slice Try.underlying33 hv
  obtain ⟨fuel, hf⟩ := h
  rcases open_ints Try.underlying33 Try.underlying22 Try.cells22 hf with ⟨hcs, hx⟩ | ⟨a, len', cap', zs, hcs, hk, hl, hm, hz, hx, hcell, hwz⟩
  · have e : Value.slice a0 len cap = .slice Option.none 0 0 := by simpa [Value.cells] using hcs
    rw [e]
    exact ⟨[], ⟨by simp, by simp, .inl ⟨rfl, _, _, rfl, fun _ => rfl⟩⟩, by simp⟩
  · have e : Value.slice a0 len cap = .slice (some a) len' cap' := by simpa [Value.cells] using hcs
    rw [e]
    simp only [if_true] at hz
    obtain ⟨rfl, rfl⟩ := Prod.mk.inj hx
    have hw := sized_slice (P := Try.prog) hs (j := 0) (t := 33) rfl rfl Try.underlying33
    have hb : Try.prog.bytesOf 22 = 1 := by kernel_rfl
    rw [hb] at hw
    have hw2 : zs.length ≤ reachBytes := by
      have h3 : min len' zs.length + (zs.length - len') ≤ reachBytes := by simpa [lits] using hw
      omega
    have hr : reachBytes = 140737488351232 := by decide
    have hn : ∀ z ∈ zs, ∃ n : Nat, z = n ∧ n < 256 := fun z hz => LawRow.u8_nat (hwz z hz)
    have hlen : ((zs.take len').map Int.toNat).length = len' := by rw [List.length_map, List.length_take]; omega
    refine ⟨(zs.take len').map Int.toNat, ⟨?_, by rw [hlen]; omega, ?_⟩, by rw [hlen]; omega⟩
    · intro x hx
      obtain ⟨z, hz1, rfl⟩ := List.mem_map.1 hx
      obtain ⟨n, rfl, hn2⟩ := hn z (List.mem_of_mem_take hz1)
      simpa using hn2
    · rw [hlen]
      by_cases h0 : zs.length = 0
      · have : len' = 0 := by omega
        subst this
        exact .inl ⟨by simp, _, _, rfl, fun h => by cases h⟩
      · obtain ⟨b, o, sp⟩ := a
        have h00 := hcell 0 (by omega)
        have hsp : sp = Option.none := by
          cases sp with
          | none => rfl
          | some q => simp [World.cell?, Addr.add] at h00; split at h00 <;> simp at h00
        subst hsp
        refine .inr ⟨b, o, cap', rfl, fun j hj => ?_⟩
        have := hcell j (by omega)
        rw [addr_add2] at this
        rw [this]
        obtain ⟨n, hn1, _⟩ := hn (zs.getD j 0) (by rw [List.getD_eq_getElem?_getD, List.getElem?_eq_getElem (by omega)]; exact List.getElem_mem _)
        have e2 : ((zs.take len').map Int.toNat).getD j 0 = (zs.getD j 0).toNat := by
          rw [List.getD_eq_getElem?_getD, List.getElem?_map, List.getElem?_take, if_pos hj, List.getD_eq_getElem?_getD, List.getElem?_eq_getElem (by omega)]; rfl
        rw [e2, hn1]; simp
end Go.Proofs.Ytadmdanmafegoaa
