/- Texts that came in, alone and in lists; what the bound gives. No condition. -/
import Derived.Test.YtdnnnjedobknhaaDoorLaw
import Derived.SliceStrings
namespace Go.Proofs.YtdnnnjedobknhaaDoor.law
open Go.ChangeShapes Go.WideShapes Go.ChangeAt Go.RowKit Go.Proofs.YtdnnnjedobknhaaDoor.lib

section
variable {H : Type} {enc : TypeId × Value → H} {P : Program}
/-- a slice of texts that came in -/
theorem arg_strs {t e : TypeId} (ht : P.underlying t = some (.slice e)) (he : P.underlying e = some .string) (hc : P.cellsOf e = 1) {W : World} {base : Nat} {spare : Nat → Bool} {v : Value} {d : DataW H} {ps : List MemPlace}
    (hok : Value.okWide P W .any base t v) (h : DataW.Trod enc P W 0 spare true t v d ps) :
    ∃ zs : List ByteArray, Sl W v zs.length 1 (zs.map .string) ∧ (∀ z ∈ zs, z.size ≤ maxLen) ∧ (d = .nil ∧ zs = [] ∨ ∃ sp, d = .slice (strs zs) sp) := by
  obtain ⟨a0, len, cap, rfl⟩ := okWide_slice ht hok
  obtain ⟨fuel, hf⟩ := h
  rcases open_strings ht he hc hf with ⟨hcs, hx⟩ | ⟨a, len', cap', zs, hcs, _, hl, hm, hz, hx, hcell, hwz⟩
  · simp [Value.cells] at hcs
    obtain ⟨rfl, rfl, rfl⟩ := hcs
    simp only [Prod.mk.injEq] at hx
    exact ⟨[], ⟨by simp, _, _, rfl, Nat.le_refl _, .inl rfl⟩, by simp, .inl ⟨hx.1, rfl⟩⟩
  · simp [Value.cells] at hcs
    obtain ⟨rfl, rfl, rfl⟩ := hcs
    simp only [Prod.mk.injEq] at hx
    have hlz : len ≤ zs.length := by rw [hz]; split <;> omega
    have htl : (zs.take len).length = len := by simp; omega
    refine ⟨zs.take len, ⟨by simp, _, _, by rw [htl], by omega, ?_⟩, fun z hz => hwz z (List.mem_of_mem_take hz), .inr ⟨_, hx.1⟩⟩
    by_cases h0 : len = 0
    · exact .inl (by simp [h0])
    · refine .inr ?_
      obtain ⟨b, off, sp⟩ := a
      have hc0 := hcell 0 (by omega)
      have hsp : sp = none := by
        cases sp with
        | none => rfl
        | some s =>
          exfalso
          simp [World.cell?, Addr.add] at hc0
          split at hc0 <;> simp_all
      subst hsp
      refine ⟨b, off, rfl, fun j u hu => ?_⟩
      have hj : j < len := by have := (List.getElem?_eq_some_iff.1 hu).1; simp at this; omega
      have := hcell j (by omega)
      rw [Addr.add_lit] at this
      rw [this]
      rw [List.getElem?_map, List.getElem?_take] at hu
      simp [hj, show j < zs.length by omega] at hu
      simp [List.getD, show j < zs.length by omega, hu]
end

theorem str_le {H : Type} (x : ByteArray) : x.size ≤ Rows.uptoBulk (H := H) (.lit (.string x.data.toList)) := by
  simp only [Rows.uptoBulk]
  have : x.data.toList.length = x.size := by rw [Array.length_toList]; rfl
  omega
theorem strs_le {H : Type} {d : DataW H} {zs : List ByteArray} (h : d = .nil ∧ zs = [] ∨ ∃ sp, d = .slice (strs zs) sp) : zs.length ≤ Rows.uptoBulk d := by
  rcases h with ⟨_, rfl⟩ | ⟨sp, rfl⟩
  · simp
  · have := length_le (H := H) (strs zs)
    simp only [Rows.uptoBulk]
    have e : (strs (H := H) zs).length = zs.length := by simp [strs]
    omega
end Go.Proofs.YtdnnnjedobknhaaDoor.law
