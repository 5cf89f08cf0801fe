/- A slice of texts, cell by cell. No condition. -/
import Derived.Test.YtlhobhnbgdicjaaGreatDoorZLib
namespace Go.Proofs.YtlhobhnbgdicjaaGreatDoor.texts
open Go.RowKit lib
theorem take_same {α : Type} {xs ys : List α} {k : Nat} (h : xs.take k = ys.take k) (h1 : k < xs.length) (h2 : k < ys.length) (he : xs[k] = ys[k]) : xs.take (k + 1) = ys.take (k + 1) := by
 rw [List.take_add_one, List.take_add_one, h, List.getElem?_eq_getElem h1, List.getElem?_eq_getElem h2, he]
end Go.Proofs.YtlhobhnbgdicjaaGreatDoor.texts
