/- Handles: the laws' own plus; a leaf's type. No condition. -/
import Derived.Test.YtikkhjcocmihlaaDoorHand11T
import Derived.Test.YtikkhjcocmihlaaDoorRet
set_option linter.unusedSimpArgs false
set_option linter.unusedVariables false
namespace Go.Proofs.YtikkhjcocmihlaaDoor.hands
open Go.RowKit Go.Proofs.YtikkhjcocmihlaaDoor.lib Go.Proofs.YtikkhjcocmihlaaDoor.errs Go.Proofs.YtikkhjcocmihlaaDoor.names Go.Proofs.YtikkhjcocmihlaaDoor.descs Go.Proofs.YtikkhjcocmihlaaDoor.mtypes

set_option maxRecDepth 100000 in
set_option maxHeartbeats 4000000 in
theorem plus_any (w : World) : Calls Tryd.prog 10 #[] w fun e w' => e = .returned (.agg #[.int .i64 3, .string { data := #[73] }, .int .i64 1, .slice none 0 0, .slice none 0 0]) ∧ Below w.heap.size w w' := by
  obtain ⟨W1, hW1⟩ : ∃ W, w.alloc (.cells #[.int .i64 0, .string { data := #[] }, .int .i64 0, .slice none 0 0, .slice none 0 0] 25) = W := ⟨_, rfl⟩
  have HR1 : Hid (W1.heap[w.heap.size]? = some (.cells #[.int .i64 0, .string { data := #[] }, .int .i64 0, .slice none 0 0, .slice none 0 0] 25 (0, 0))) := hid (by rw [← hW1]; exact heap_alloc_new _ _)
  have HB1 : Hid (Below w.heap.size w W1) := hid (hW1 ▸ ext_alloc _ _)
  have HB : Hid (Below w.heap.size w (W1.setRow w.heap.size #[.int .i64 3, .string { data := #[73] }, .int .i64 1, .slice none 0 0, .slice none 0 0])) := hid (below_setRow HB1.out (Nat.le_refl _) _)
  go_enter Tryd.func10, Tryd.ntmps10
  go_wp2_with (refine wpList_store_row rfl 25 (.tmp 0) (.tmp 1) rfl w.heap.size _ rfl rfl 25 _ HR1.out (by kernel_rfl) rfl (by simp [Value.oneCell']) ?_)
  exact bodyPost_ret (results_cell_row rfl _ _ w.heap.size _ _ _ _ rfl (setRow_heap W1 w.heap.size _ _ _ _ HR1.out) Tryd.underlying25 rfl (by kernel_rfl)) rfl ⟨rfl, HB.out⟩

theorem sl_none (w : World) : Sl w (.slice none 0 0) 0 1 [] := ⟨rfl, none, 0, rfl, Nat.le_refl _, .inl rfl⟩
theorem sl_none5 (w : World) : Sl w (.slice none 0 0) 0 5 [] := ⟨rfl, none, 0, rfl, Nat.le_refl _, .inl rfl⟩
theorem leaf_type {k : Int} {t : List UInt8} {a : Int} (ats : List Int) (hk : k = 1 ∨ k = 2 ∨ k = 3) (h : leafF k t a = 0) : nodeType k t a ats [] = (0, makeText (if k = 1 then [] else if k = 2 ∨ a = 12 then [t] else [t, if 9 ≤ a ∧ a ≤ 11 then [73] else t]) t) := by
  rw [node_one t a ats (by rcases hk with rfl | rfl | rfl <;> rfl) (by rcases hk with rfl | rfl | rfl <;> rfl)]
  unfold oneType leafS
  simp only
  rw [h, if_pos rfl, leafT_make]
end Go.Proofs.YtikkhjcocmihlaaDoor.hands
