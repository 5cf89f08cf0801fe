/- Lists of truth values that came in. No condition. -/
import Derived.Test.YtmfhmikihnjkcaaLaw
import Derived.Deep.Slices
import Derived.DataReads
namespace Go.Proofs.Ytmfhmikihnjkcaa.law
open Go.ChangeShapes Go.WideShapes Go.ChangeAt Go.RowKit Go.Deep Go.Proofs.Ytmfhmikihnjkcaa.lib

theorem arg_bools {H : Type} {enc : TypeId × Value → H} {P : Program} {t e : TypeId} (ht : P.underlying t = some (.slice e)) (he : P.underlying e = some .bool) (hc : P.cellsOf e = 1) {W : World} {base : Nat} {spare : Nat → Bool} {v : Value} {d : DataW H} {ps : List MemPlace}
    (hok : Value.okWide P W .any base t v) (h : DataW.Trod enc P W 0 spare true t v d ps) :
    ∃ bs : List Bool, Sl W v bs.length 1 (bs.map .bool) ∧ (d = .nil ∧ bs = [] ∨ ∃ sp, d = .slice (bs.map fun b => .lit (.bool b)) sp) := by
  obtain ⟨a0, len, cap, rfl⟩ := okWide_slice ht hok
  obtain ⟨fuel, hf⟩ := h
  rcases open_slice1 ht hc hf with ⟨hcs, hx⟩ | ⟨a, len', cap', m, n, V, D, Pl, hcs, _, hl, hm, hmm, hx, hi⟩
  · simp [Value.cells] at hcs
    obtain ⟨rfl, rfl, rfl⟩ := hcs
    simp only [Prod.mk.injEq] at hx
    exact ⟨[], ⟨by simp, _, _, rfl, Nat.le_refl _, .inl rfl⟩, .inl ⟨hx.1, rfl⟩⟩
  · simp [Value.cells] at hcs
    obtain ⟨rfl, rfl, rfl⟩ := hcs
    simp only [Prod.mk.injEq] at hx
    have hml : len ≤ m := by rw [hmm]; split <;> omega
    have hx2 : ∀ i, i < m → ∃ b : Bool, W.cell? (a.add i) = some (.bool b) ∧ D i = .lit (.bool b) := fun i him => by
      obtain ⟨h1, h2⟩ := hi i him
      obtain ⟨b, e1, e2⟩ := DataW.trod_bool he h2
      simp at e1
      rw [e1] at h1
      exact ⟨b, h1, (Prod.mk.inj e2).1⟩
    obtain ⟨X, hX⟩ := choose_lt hx2
    refine ⟨(List.range len).map X, ⟨by simp, _, _, by rw [List.length_map, List.length_range], by simpa using hl, ?_⟩, .inr ⟨(List.range (m - len)).map fun j => D (len + j), ?_⟩⟩
    · by_cases h0 : len = 0
      · exact .inl (by simp [h0])
      · refine .inr ?_
        obtain ⟨b, off, sp⟩ := a
        have hsp : sp = none := by
          have := World.cell?_spot (hX 0 (by omega)).1
          simpa [Addr.add] using this
        subst hsp
        refine ⟨b, off, rfl, fun j u hu => ?_⟩
        have hj : j < len := by have := (List.getElem?_eq_some_iff.1 hu).1; simpa using this
        have := (hX j (by omega)).1
        rw [Addr.add_lit] at this
        rw [this]
        rw [List.getElem?_map, List.getElem?_map, List.getElem?_range hj] at hu
        simpa using hu
    · rw [hx.1, List.map_map]
      congr 1
      apply List.map_congr_left
      intro i hi1
      exact (hX i (by have := List.mem_range.1 hi1; omega)).2
end Go.Proofs.Ytmfhmikihnjkcaa.law
