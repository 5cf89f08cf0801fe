/- Handles: hand.Type. Condition: the handle is not too great, its texts are not long. -/
import Derived.Test.YtikkhjcocmihlaaDoorHand9
import Derived.Test.YtikkhjcocmihlaaDoorHand2
set_option linter.unusedSimpArgs false
set_option linter.unusedVariables false
namespace Go.Proofs.YtikkhjcocmihlaaDoor.hands
open Go.RowKit Go.Proofs.YtikkhjcocmihlaaDoor.lib Go.Proofs.YtikkhjcocmihlaaDoor.errs Go.Proofs.YtikkhjcocmihlaaDoor.names Go.Proofs.YtikkhjcocmihlaaDoor.descs Go.Proofs.YtikkhjcocmihlaaDoor.mtypes

/-- the type of a handle that may be too great -/
def typeW (x : Nd) : Int × List UInt8 := if 30 < cnt x then (4, []) else typeN x
theorem right_typeW (x : Nd) : RightT (typeW x) := by
  unfold typeW
  split
  · exact right_err 4 (by decide)
  · exact right_typeN x

set_option maxRecDepth 100000 in
set_option maxHeartbeats 4000000 in
theorem type_any (x : Nd) (w : World) (hx : NAt w x) (hS : ShortN x) (hB : cnt x ≤ 1000000000000) :
    Calls Tryd.prog 6 #[.agg #[.int .i64 x.k, .string x.t, .int .i64 x.a, x.va, x.vs]] w (Go.Proofs.YtikkhjcocmihlaaDoor.mtypes.Told w (typeW x)) := by
  obtain ⟨R, hR⟩ : ∃ R, typeW x = R := ⟨_, rfl⟩
  have HT := hid (fun u (hu : Below w.heap.size w u) => typed_any (cnt x) x u (Nat.le_refl _) (hx.below hu) hS hB)
  have HC := hid (fun u (hu : Below w.heap.size w u) => count_any (cnt x) x 30 u (Nat.le_refl _) (hx.below hu) hB (by decide) (by decide))
  have HR := hid hR
  rw [hR]
  obtain ⟨a1, c1, e1⟩ := hx.1.1.val
  obtain ⟨a2, c2, e2⟩ := hx.1.2.val
  obtain ⟨k, hk⟩ : ∃ q, x.k = q := ⟨_, rfl⟩
  obtain ⟨t, ht⟩ : ∃ q, x.t = q := ⟨_, rfl⟩
  obtain ⟨a, ha⟩ : ∃ q, x.a = q := ⟨_, rfl⟩
  obtain ⟨n1, hn1⟩ : ∃ q, x.ats.length = q := ⟨_, rfl⟩
  obtain ⟨n2, hn2⟩ : ∃ q, (nodes x.subs).length = q := ⟨_, rfl⟩
  rw [hn1] at e1
  rw [hn2] at e2
  obtain ⟨c, hc⟩ : ∃ q, cnt x = q := ⟨_, rfl⟩
  have HRC : Hid (R = if 30 < c then (4, []) else typeN x) := hid (by rw [← hR, ← hc]; rfl)
  simp only [hk, ht, ha, e1, e2] at HT HC ⊢
  simp only [hc] at HC
  clear hk ht ha hn1 hn2 e1 e2 hc hx hS hB hR HR
  obtain ⟨X1, hX1⟩ : ∃ X1, w.alloc (.cells #[.int .i64 k, .string t, .int .i64 a, .slice a1 n1 c1, .slice a2 n2 c2] 25) = X1 := ⟨_, rfl⟩
  have HB1 : Hid (Below w.heap.size w X1) := hid (hX1 ▸ ext_alloc _ _)
  have HLT : Hid (w.heap.size < X1.heap.size) := hid (by rw [← hX1]; simp)
  have HXR : Hid (X1.heap[w.heap.size]? = some (.cells #[.int .i64 k, .string t, .int .i64 a, .slice a1 n1 c1, .slice a2 n2 c2] 25 (0, 0))) := hid (by rw [← hX1]; exact heap_alloc_new _ _)
  have x0 : X1.cell? ⟨w.heap.size, 0, none⟩ = some (.int .i64 k) := by rw [cell_of_row _ _ _ _ _ _ HXR.out]; rfl
  have x1 : X1.cell? ⟨w.heap.size, 1, none⟩ = some (.string t) := by rw [cell_of_row _ _ _ _ _ _ HXR.out]; rfl
  have x2 : X1.cell? ⟨w.heap.size, 2, none⟩ = some (.int .i64 a) := by rw [cell_of_row _ _ _ _ _ _ HXR.out]; rfl
  have x3 : X1.cell? ⟨w.heap.size, 3, none⟩ = some (.slice a1 n1 c1) := by rw [cell_of_row _ _ _ _ _ _ HXR.out]; rfl
  have x4 : X1.cell? ⟨w.heap.size, 4, none⟩ = some (.slice a2 n2 c2) := by rw [cell_of_row _ _ _ _ _ _ HXR.out]; rfl
  go_enter Tryd.func6, Tryd.ntmps6
  go_wp2_with fail
  refine (HC.out _ HB1.out).mono ?_
  rintro e w2 ⟨r, rfl, hr, hb2⟩
  have HR2 := hid hr
  have HB2 := hid (HB1.out.trans (hb2.mono HB1.out.size))
  have HX2 : Hid (w2.heap[w.heap.size]? = some (.cells #[.int .i64 k, .string t, .int .i64 a, .slice a1 n1 c1, .slice a2 n2 c2] 25 (0, 0))) := hid ((hb2.block _ HLT.out).trans HXR.out)
  have x0 : w2.cell? ⟨w.heap.size, 0, none⟩ = some (.int .i64 k) := by rw [cell_of_row _ _ _ _ _ _ HX2.out]; rfl
  have x1 : w2.cell? ⟨w.heap.size, 1, none⟩ = some (.string t) := by rw [cell_of_row _ _ _ _ _ _ HX2.out]; rfl
  have x2 : w2.cell? ⟨w.heap.size, 2, none⟩ = some (.int .i64 a) := by rw [cell_of_row _ _ _ _ _ _ HX2.out]; rfl
  have x3 : w2.cell? ⟨w.heap.size, 3, none⟩ = some (.slice a1 n1 c1) := by rw [cell_of_row _ _ _ _ _ _ HX2.out]; rfl
  have x4 : w2.cell? ⟨w.heap.size, 4, none⟩ = some (.slice a2 n2 c2) := by rw [cell_of_row _ _ _ _ _ _ HX2.out]; rfl
  clear hr hb2
  by_cases hc : 30 < r
  · have HE : Hid (R = (4, [])) := hid (by rw [HRC.out, if_pos (by have := HR2.out.2.1; omega)])
    go_wp2_with fail
    go_ret2
    exact told_err HE.out (by decide) HB2.out
  · have HE : Hid (typeN x = R) := hid (by rw [HRC.out, if_neg (by have := HR2.out.2.2 (by omega); omega)])
    go_wp2_with fail
    refine (HT.out _ HB2.out).mono ?_
    rintro e w3 ⟨rfl, hb3⟩
    rw [HE.out]
    have HB3 := hid (HB2.out.trans (hb3.mono HB2.out.size))
    clear hb3
    go_wp2_with fail
    go_ret2
    exact ⟨rfl, HB3.out⟩

theorem typeW_small {x : Nd} (h : (typeW x).1 = 0) : cnt x ≤ 30 ∧ typeW x = typeN x := by
  unfold typeW at h ⊢
  by_cases hc : 30 < cnt x
  · rw [if_pos hc] at h; cases h
  · rw [if_neg hc]; exact ⟨by omega, rfl⟩

end Go.Proofs.YtikkhjcocmihlaaDoor.hands
