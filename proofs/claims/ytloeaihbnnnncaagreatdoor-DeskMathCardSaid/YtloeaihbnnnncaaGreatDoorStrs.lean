/- A slice of texts, cell by cell. No condition. -/
import Derived.Test.YtloeaihbnnnncaaGreatDoorLib
namespace Go.Proofs.YtloeaihbnnnncaaGreatDoor.texts
open Go.RowKit Go.Proofs.YtloeaihbnnnncaaGreatDoor.lib

theorem sl_strs {w : World} {a : Option Addr} {n c : Nat} {xs : List ByteArray} (h : Sl w (.slice a n c) n 1 (xs.map .string)) {k : Nat} (hk : k < xs.length) :
    ∃ b off, a = some ⟨b, off, none⟩ ∧ w.cell? ⟨b, off + k, none⟩ = some (.string xs[k]) := by
  have hn : n = xs.length := by have := h.1; simp at this; exact this.symm
  obtain ⟨b, off, rfl, u, hu, hc⟩ := h.at1 (k := k) (by omega)
  refine ⟨b, off, rfl, ?_⟩
  rw [List.getElem?_map, List.getElem?_eq_getElem hk] at hu
  simp at hu
  rw [hc, hu]

theorem take_same {α : Type} {xs ys : List α} {k : Nat} (h : xs.take k = ys.take k) (h1 : k < xs.length) (h2 : k < ys.length) (he : xs[k] = ys[k]) : xs.take (k + 1) = ys.take (k + 1) := by
  rw [List.take_add_one, List.take_add_one, h, List.getElem?_eq_getElem h1, List.getElem?_eq_getElem h2, he]

end Go.Proofs.YtloeaihbnnnncaaGreatDoor.texts
