/- Locks: New, Enter. Condition: not many calls came before. -/
import Derived.Test.YtmfhmikihnjkcaaDoorLock2
import Derived.Carry
namespace Go.Proofs.YtmfhmikihnjkcaaDoor.locks
open Go.RowKit Go.Proofs.YtmfhmikihnjkcaaDoor.lib Go.Proofs.YtmfhmikihnjkcaaDoor.maps Go.Proofs.YtmfhmikihnjkcaaDoor.errs

theorem st_lim {w : World} {base p : Nat} {m : Gh} {A : St} (h : PL w base p m A) {k : Nat} (hk : ¬ k < w.heap.size) : m.own k = none := by
  cases ho : m.own k with
  | none => rfl
  | some t => exact absurd (h.lim k t ho).2 hk

def ghNew (n : Nat) : Gh := ⟨own1 (own1 (own1 (fun _ => none) n (1, 0)) (n + 1) (2, 0)) (n + 2) (0, 0), n, n + 1, [], []⟩
theorem pl_new (w : World) : PL (((w.alloc (.map #[] 0)).alloc (.map #[] 0)).alloc (.cells #[.map (some w.heap.size), .map (some (w.heap.size + 1))] 38)) w.heap.size (w.heap.size + 2) (ghNew w.heap.size) St.new := by
  have e2 : (w.alloc (.map #[] 0)).heap.size = w.heap.size + 1 := by simp
  have e3 : ((w.alloc (.map #[] 0)).alloc (.map #[] 0)).heap.size = w.heap.size + 2 := by simp
  have hA : (((w.alloc (.map #[] 0)).alloc (.map #[] 0)).alloc (.cells #[.map (some w.heap.size), .map (some (w.heap.size + 1))] 38)).heap[w.heap.size]? = some (.map #[] 0) := by
    rw [Below.heap_alloc _ _ _ (by rw [e3]; omega), Below.heap_alloc _ _ _ (by rw [e2]; omega)]; exact heap_alloc_new w _
  have hW : (((w.alloc (.map #[] 0)).alloc (.map #[] 0)).alloc (.cells #[.map (some w.heap.size), .map (some (w.heap.size + 1))] 38)).heap[w.heap.size + 1]? = some (.map #[] 0) := by
    rw [Below.heap_alloc _ _ _ (by rw [e3]; omega), ← e2]; exact heap_alloc_new _ _
  have hT : (((w.alloc (.map #[] 0)).alloc (.map #[] 0)).alloc (.cells #[.map (some w.heap.size), .map (some (w.heap.size + 1))] 38)).heap[w.heap.size + 2]? = some (.cells #[.map (some w.heap.size), .map (some (w.heap.size + 1))] 38 (0, 0)) := by
    rw [← e3]; exact heap_alloc_new _ _
  refine ⟨fun k t ht => ?_, ?_, hT, ?_, ⟨#[], 0, hA, rfl⟩, ?_, ⟨#[], 0, hW, rfl⟩, (fun k b hb => by cases hb), fun k _ => rfl, fun x => rfl, (by simp [Once, ghNew]), (by simp [Once, ghNew])⟩
  · have hs : (((w.alloc (.map #[] 0)).alloc (.map #[] 0)).alloc (.cells #[.map (some w.heap.size), .map (some (w.heap.size + 1))] 38)).heap.size = w.heap.size + 3 := by simp
    rw [hs]
    unfold ghNew own1 at ht
    simp only at ht
    split at ht
    · omega
    · split at ht
      · omega
      · split at ht
        · omega
        · cases ht
  · exact own1_same _ _ _
  · show own1 (own1 (own1 (fun _ => none) w.heap.size (1, 0)) (w.heap.size + 1) (2, 0)) (w.heap.size + 2) (0, 0) w.heap.size = _
    rw [own1_other (by omega), own1_other (by omega), own1_same]
  · show own1 (own1 (own1 (fun _ => none) w.heap.size (1, 0)) (w.heap.size + 1) (2, 0)) (w.heap.size + 2) (0, 0) (w.heap.size + 1) = _
    rw [own1_other (by omega), own1_same]

set_option maxRecDepth 100000 in
set_option maxHeartbeats 2000000 in
theorem new_any (w : World) : Calls Tryd.prog 5 #[] w fun e w' => ∃ p m, e = .returned (.pointer (some ⟨p, 0, none⟩)) ∧ PL w' w.heap.size p m St.new ∧ Below w.heap.size w w' := by
  have HP := hid (pl_new w)
  have HB := hid ((((Below.refl w.heap.size w).alloc (Nat.le_refl _) (.map #[] 0)).alloc (by simp) (.map #[] 0)).alloc (by simp; omega) (.cells #[.map (some w.heap.size), .map (some (w.heap.size + 1))] 38))
  have hmm := @run_makeMap Tryd.prog
  go_enter Tryd.func5, Tryd.ntmps5
  go_wp2
  go_ret
  exact ⟨_, _, rfl, HP.out, HB.out⟩

/-- the thing is his already -/
theorem PL.more {w : World} {base p : Nat} {m : Gh} {A : St} (h : PL w base p m A) {x k : Int} {b : Nat} (hb : getK m.LA k = some b) (hx : A.who k = x) :
    PL (w.setCell ⟨b, 1, none⟩ (.int .i64 (A.times k + 1))) base p m (takeSt A x k) := by
  obtain ⟨v, hv⟩ := h.lk k b hb
  have hK := Keeps.set w b 1 (.int .i64 (A.times k + 1))
  have hne : ∀ g t, m.own g = some t → t ≠ (3, k) → (w.setCell ⟨b, 1, none⟩ (.int .i64 (A.times k + 1))).heap[g]? = w.heap[g]? := fun g t hg ht => hK.block g (h.lim g t hg).2 fun e => by
    subst e; rw [hv.own] at hg; exact ht (Option.some.inj hg).symm
  refine ⟨fun j t ht => ⟨(h.lim j t ht).1, Nat.lt_of_lt_of_le (h.lim j t ht).2 hK.size⟩, h.topo, by rw [hne _ _ h.topo (by simp)]; exact h.top, h.mAo, map_keep intKey h.mA (hne _ _ h.mAo (by simp)), h.mWo, map_keep intKey h.mW (hne _ _ h.mWo (by simp)), fun j c hc => ?_, fun j hj => ?_, h.wt, h.onceA, h.onceW⟩
  · by_cases e : j = k
    · subst e
      rw [hb] at hc
      obtain rfl := Option.some.inj hc
      refine ⟨v, hv.own, ?_, ?_, hv.row.keep fun g hg => hne g _ (hv.rown g hg) (by simp), hv.rown⟩
      · have := hv.pos
        simp only [takeSt, upd_same]; omega
      · rw [heap_set hv.heap]
        simp [takeSt, upd_same, hx]
    · obtain ⟨u, hu⟩ := h.lk j c hc
      have hk := hu.keep (w' := w.setCell ⟨b, 1, none⟩ (.int .i64 (A.times k + 1))) fun g hg => hg.elim (fun hg => hne g _ hg (by simp [e])) (fun hg => hne g _ hg (by simp))
      refine ⟨u, hk.own, ?_, ?_, hk.row, hk.rown⟩
      · simp only [takeSt, upd_other _ _ e]; exact hk.pos
      · simp only [takeSt, upd_other _ _ e]; exact hk.heap
  · by_cases e : j = k
    · subst e; rw [hb] at hj; cases hj
    · simp only [takeSt, upd_other _ _ e]; exact h.no j hj
end Go.Proofs.YtmfhmikihnjkcaaDoor.locks
