/- A store into a slice of the call's own. No condition. -/
import Derived.Test.YtmfhmikihnjkcaaDoorLib
namespace Go.Proofs.YtmfhmikihnjkcaaDoor.lib
open Go.RowKit

theorem Out.store {w0 w : World} {e : TypeId} {v : Value} {n : Nat} {xs : List Value} (h : Out w0 w e 1 v n xs) {i : Nat} (hi : i < n) :
    ∃ g cap u, v = .slice (some ⟨g, 0, none⟩) n cap ∧ w0.heap.size ≤ g ∧ w.cell? ⟨g, i, none⟩ = some u ∧ w.frozen? ⟨g, i, none⟩ = false ∧ ∀ x, Out w0 (w.setCell ⟨g, i, none⟩ x) e 1 v n (xs.set i x) := by
  rcases h.own.2 with ⟨_, h0⟩ | ⟨g, cap, cur, hv, hb, hg, hn, hm, hs, ht⟩
  · omega
  · have hic : i < cur.size := by omega
    refine ⟨g, cap, cur[i], hv, hb, by simp [World.cell?, hg, hic], by simp [World.frozen?, hg], fun x => ⟨⟨by rw [List.length_set]; exact h.own.1, .inr ⟨g, cap, cur.setIfInBounds i x, hv, hb, ?_, hn, hm, by simpa using hs, ?_⟩⟩, h.below.setCell hb x⟩⟩
    · simp [World.setCell, Array.getElem?_modify, hg]
    · rw [← ht, Array.toList_setIfInBounds, List.take_set]
end Go.Proofs.YtmfhmikihnjkcaaDoor.lib
