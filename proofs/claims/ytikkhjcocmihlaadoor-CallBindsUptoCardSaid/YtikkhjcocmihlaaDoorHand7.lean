/- Handles: hand.leaf. Condition: the kind is one of a leaf's. -/
import Derived.Test.YtikkhjcocmihlaaDoorHand3
import Derived.Test.YtikkhjcocmihlaaDoorNum1
import Derived.Test.YtikkhjcocmihlaaDoorMtype2
import Derived.Test.YtikkhjcocmihlaaDoorGrow
set_option linter.unusedSimpArgs false
set_option linter.unusedVariables false
namespace Go.Proofs.YtikkhjcocmihlaaDoor.hands
open Go.RowKit Go.Proofs.YtikkhjcocmihlaaDoor.lib Go.Proofs.YtikkhjcocmihlaaDoor.errs Go.Proofs.YtikkhjcocmihlaaDoor.names Go.Proofs.YtikkhjcocmihlaaDoor.descs Go.Proofs.YtikkhjcocmihlaaDoor.mtypes Go.Proofs.YtikkhjcocmihlaaDoor.nums Go.Proofs.YtikkhjcocmihlaaDoor.grow

theorem leaf_bad (k : Int) (t : ByteArray) (a : Int) (va vs : Value) (w : World) (h : isWd t.data.toList = false) :
    Calls Tryd.prog 31 #[.agg #[.int .i64 k, .string t, .int .i64 a, va, vs]] w (Go.Proofs.YtikkhjcocmihlaaDoor.mtypes.Told w (leafF k t.data.toList a, leafS k t.data.toList a)) := by
  have HF : Hid (leafF k t.data.toList a = 1) := hid (if_pos (.inl h))
  have HS : Hid (leafS k t.data.toList a = []) := hid (by unfold leafS; rw [HF.out]; rfl)
  have HB := hid (ext_alloc w (.cells #[.int .i64 k, .string t, .int .i64 a, va, vs] 25))
  have HW := hid (number_any t)
  rw [h] at HW
  rw [HS.out, HF.out]
  clear h
  go_enter Tryd.func31, Tryd.ntmps31
  go_wp2_with fail
  refine (HW.out _).mono ?_
  rintro e w1 ⟨rfl, hww⟩
  obtain rfl := hww.symm
  go_wp2_with fail
  go_ret2
  exact told_err rfl (by decide) HB.out

theorem Below_same (w : World) (g i : Nat) (cs : Array Value) (t : TypeId) (v : Value) (hg : w.heap[g]? = some (.cells cs t (0, 0))) :
    (w.setCell ⟨g, i, none⟩ v).heap[g]? = some (.cells (cs.setIfInBounds i v) t (0, 0)) := by
  rw [setCell_eq_setRow w g i cs t (0, 0) v hg]
  exact setRow_heap w g cs _ t _ hg
theorem mk_none (t : List UInt8) (u : World) (ht : t.length ≤ 9223372036854775807) : Calls Tryd.prog 49 #[.slice none 0 0, .string (bs t)] u (MakeBy u [] t) :=
  make_types _ [] t u ⟨rfl, none, 0, rfl, Nat.le_refl _, .inl rfl⟩ (by simp) ht
theorem mk_one (t : List UInt8) (u : World) (ht : t.length ≤ 100) : Calls Tryd.prog 49 #[.slice (some ⟨u.heap.size, 0, none⟩) 1 2, .string (bs t)] (u.alloc (.cells #[.string (bs t), .string (bs t)] 9)) (MakeBy (u.alloc (.cells #[.string (bs t), .string (bs t)] 9)) [t] t) :=
  make_types _ [t] t _ ((Sl.lit u #[.string (bs t), .string (bs t)] 9 2 1 rfl).take 1 (by decide)) (by simp only [List.map_cons, List.map_nil, List.mem_singleton]; rintro x rfl; rw [bs_size]; omega) (by omega)
theorem mk_two (t : List UInt8) (u : World) (ht : t.length ≤ 100) : Calls Tryd.prog 49 #[.slice (some ⟨u.heap.size, 0, none⟩) 2 2, .string (bs t)] (u.alloc (.cells #[.string (bs t), .string (bs t)] 9)) (MakeBy (u.alloc (.cells #[.string (bs t), .string (bs t)] 9)) [t, t] t) :=
  make_types _ [t, t] t _ (Sl.lit u #[.string (bs t), .string (bs t)] 9 2 1 rfl) (by simp only [List.map_cons, List.map_nil, List.mem_cons, List.not_mem_nil, or_false, or_self]; rintro x rfl; rw [bs_size]; omega) (by omega)
theorem mk_int (t : List UInt8) (u : World) (ht : t.length ≤ 100) : Calls Tryd.prog 49 #[.slice (some ⟨u.heap.size, 0, none⟩) 2 2, .string (bs t)] ((u.alloc (.cells #[.string (bs t), .string (bs t)] 9)).setCell ⟨u.heap.size, 1, none⟩ (.string { data := #[73] }))
    (MakeBy ((u.alloc (.cells #[.string (bs t), .string (bs t)] 9)).setCell ⟨u.heap.size, 1, none⟩ (.string { data := #[73] })) [t, [73]] t) := by
  refine make_types _ [t, [73]] t _ ⟨rfl, _, _, rfl, Nat.le_refl _, .inr ⟨_, _, rfl, fun j v hj => ?_⟩⟩ (by simp only [List.map_cons, List.map_nil, List.mem_cons, List.not_mem_nil, or_false]; rintro x (rfl | rfl) <;> rw [bs_size] <;> first | omega | decide) (by omega)
  have hr : ((u.alloc (.cells #[.string (bs t), .string (bs t)] 9)).setCell ⟨u.heap.size, 1, none⟩ (.string { data := #[73] })).heap[u.heap.size]? = some (.cells #[.string (bs t), .string { data := #[73] }] 9 (0, 0)) := by
    rw [Below_same _ _ _ _ _ _ (heap_alloc_new _ _)]; rfl
  rw [Nat.zero_add, cell_of_row _ _ _ _ _ _ hr]
  match j, hj with
  | 0, hj => cases hj; rfl
  | 1, hj => cases hj; rfl
  | j + 2, hj => simp at hj

theorem le1I (a : Int) (va vs : Value) (w : World) (h : -2147483648 ≤ a ∧ a ≤ 2147483647) :
    Calls Tryd.prog 31 #[.agg #[.int .i64 1, .string ({ data := #[73] } : ByteArray), .int .i64 a, va, vs]] w (Go.Proofs.YtikkhjcocmihlaaDoor.mtypes.Told w (leafF 1 [73] a, leafS 1 [73] a)) := by
  have HF : Hid (leafF 1 [73] a = 0) := hid (by unfold leafF; simp [isWd, h])
  have HS : Hid (leafS 1 [73] a = makeText [] [73]) := hid (by unfold leafS; rw [HF.out]; rfl)
  have HR : Hid ((leafF 1 [73] a, leafS 1 [73] a) = (0, makeText [] [73])) := hid (by rw [HF.out, HS.out])
  have HWV : Hid ((wrap32 a = a)) := hid (by unfold wrap32; omega)
  clear h
  obtain ⟨X1, hX1⟩ : ∃ X1, w.alloc (.cells #[.int .i64 1, .string ({ data := #[73] } : ByteArray), .int .i64 a, va, vs] 25) = X1 := ⟨_, rfl⟩
  have HB1 : Hid (Below w.heap.size w X1) := hid (hX1 ▸ ext_alloc _ _)
  have HLT : Hid (w.heap.size < X1.heap.size) := hid (by rw [← hX1]; simp)
  have HXR : Hid (X1.heap[w.heap.size]? = some (.cells #[.int .i64 1, .string ({ data := #[73] } : ByteArray), .int .i64 a, va, vs] 25 (0, 0))) := hid (by rw [← hX1]; exact heap_alloc_new _ _)
  have hq0 : X1.cell? ⟨w.heap.size, 0, none⟩ = some (.int .i64 1) := by rw [cell_of_row _ _ _ _ _ _ HXR.out]; rfl
  have hq1 : X1.cell? ⟨w.heap.size, 1, none⟩ = some (.string ({ data := #[73] } : ByteArray)) := by rw [cell_of_row _ _ _ _ _ _ HXR.out]; rfl
  have hq2 : X1.cell? ⟨w.heap.size, 2, none⟩ = some (.int .i64 a) := by rw [cell_of_row _ _ _ _ _ _ HXR.out]; rfl
  have HW := hid (number_any ({ data := #[73] } : ByteArray))
  rw [show isWd ({ data := #[73] } : ByteArray).data.toList = true from rfl] at HW
  go_enter Tryd.func31, Tryd.ntmps31
  go_wp2_with fail
  refine (HW.out _).mono ?_
  rintro e w1 ⟨rfl, hww⟩
  obtain rfl := hww.symm
  go_wp2_with fail
  clear hq0 hq1 hq2
  refine wp_region_ext [(13, is (.int .i64 (wrap32 a)))] ⟨is_stays _, trivial⟩ (by kernel_rfl) (by kernel_rfl) ?_
  refine wpG_calc 1 rfl rfl rfl (fun u => by go_simp; rfl) ?_
  simp only [Act.put, List.setIfInBounds_toArray, List.set_cons_zero, List.set_cons_succ]
  refine wpG_read 2 rfl rfl (.int .i64 1) rfl ?_ ?_
  · intro u hu hh
    have hk : u.cell? ⟨w.heap.size, 0, none⟩ = some (.int .i64 1) := by rw [cell_of_row _ _ _ _ _ _ ((hu.block _ HLT.out).trans HXR.out)]; rfl
    go_simp
  simp only [Act.put, List.setIfInBounds_toArray, List.set_cons_zero, List.set_cons_succ]
  refine wpG_calc 3 rfl rfl rfl (fun u => by go_simp; rfl) ?_
  simp only [Act.put, List.setIfInBounds_toArray, List.set_cons_zero, List.set_cons_succ]
  refine wpG_calc 4 rfl rfl rfl (fun u => by go_simp; rfl) ?_
  simp only [Act.put, List.setIfInBounds_toArray, List.set_cons_zero, List.set_cons_succ]
  refine wpG_calc 5 rfl rfl rfl (fun u => by go_simp; rfl) ?_
  simp only [Act.put, List.setIfInBounds_toArray, List.set_cons_zero, List.set_cons_succ]
  refine wpG_read 6 rfl rfl (.string ({ data := #[73] } : ByteArray)) rfl ?_ ?_
  · intro u hu hh
    have hk : u.cell? ⟨w.heap.size, 1, none⟩ = some (.string ({ data := #[73] } : ByteArray)) := by rw [cell_of_row _ _ _ _ _ _ ((hu.block _ HLT.out).trans HXR.out)]; rfl
    go_simp
  simp only [Act.put, List.setIfInBounds_toArray, List.set_cons_zero, List.set_cons_succ]
  refine wpG_calc 7 rfl rfl rfl (fun u => by go_simp; rfl) ?_
  simp only [Act.put, List.setIfInBounds_toArray, List.set_cons_zero, List.set_cons_succ]
  refine wpG_calc 8 rfl rfl rfl (fun u => by go_simp; rfl) ?_
  simp only [Act.put, List.setIfInBounds_toArray, List.set_cons_zero, List.set_cons_succ]
  refine wpG_calc 9 rfl rfl rfl (fun u => by go_simp; rfl) ?_
  simp only [Act.put, List.setIfInBounds_toArray, List.set_cons_zero, List.set_cons_succ]
  refine wpG_calc 10 rfl rfl rfl (fun u => by go_simp; rfl) ?_
  simp only [Act.put, List.setIfInBounds_toArray, List.set_cons_zero, List.set_cons_succ]
  refine wpG_read 11 rfl rfl (.int .i64 a) rfl ?_ ?_
  · intro u hu hh
    have hk : u.cell? ⟨w.heap.size, 2, none⟩ = some (.int .i64 a) := by rw [cell_of_row _ _ _ _ _ _ ((hu.block _ HLT.out).trans HXR.out)]; rfl
    go_simp
  simp only [Act.put, List.setIfInBounds_toArray, List.set_cons_zero, List.set_cons_succ]
  refine wpG_calc 12 rfl rfl rfl (fun u => by go_simp; rfl) ?_
  simp only [Act.put, List.setIfInBounds_toArray, List.set_cons_zero, List.set_cons_succ]
  refine wpG_read 13 rfl rfl (.int .i64 a) rfl ?_ ?_
  · intro u hu hh
    have hk : u.cell? ⟨w.heap.size, 2, none⟩ = some (.int .i64 a) := by rw [cell_of_row _ _ _ _ _ _ ((hu.block _ HLT.out).trans HXR.out)]; rfl
    go_simp
  simp only [Act.put, List.setIfInBounds_toArray, List.set_cons_zero, List.set_cons_succ]
  refine wpG_rel 14 rfl rfl rfl ?_ ?_
  · intro u hu hh
    go_simp
    refine (word_any a u).mono ?_
    rintro e w6 ⟨rfl, rfl⟩
    exact ⟨_, rfl, rfl, Below.refl _ _⟩
  intro v14 ⟨u14, _, hr14⟩
  obtain rfl : v14 = .int .i64 (wrap32 a) := hr14
  simp only [Act.put, List.setIfInBounds_toArray, List.set_cons_zero, List.set_cons_succ]
  refine wpG_calc (v := .bool false) 15 rfl rfl rfl (fun u => by have hq := HWV.out; go_simp) ?_
  simp only [Act.put, List.setIfInBounds_toArray, List.set_cons_zero, List.set_cons_succ]
  refine wpG_calc 16 rfl rfl rfl (fun u => by go_simp; rfl) ?_
  simp only [Act.put, List.setIfInBounds_toArray, List.set_cons_zero, List.set_cons_succ]
  refine wpG_nil fun w3 hb3 hF => ?_
  clear hF
  have HB3 : Hid (Below w.heap.size w w3) := hid (HB1.out.trans (hb3.mono HB1.out.size))
  have HX3 : Hid (w3.heap[w.heap.size]? = some (.cells #[.int .i64 1, .string ({ data := #[73] } : ByteArray), .int .i64 a, va, vs] 25 (0, 0))) := hid ((hb3.block _ HLT.out).trans HXR.out)
  have HLT3 : Hid (w.heap.size < w3.heap.size) := hid (Nat.lt_of_lt_of_le HLT.out hb3.size)
  clear hb3
  have hk0 : w3.cell? ⟨w.heap.size, 0, none⟩ = some (.int .i64 1) := by rw [cell_of_row _ _ _ _ _ _ HX3.out]; rfl
  have hk1 : w3.cell? ⟨w.heap.size, 1, none⟩ = some (.string ({ data := #[73] } : ByteArray)) := by rw [cell_of_row _ _ _ _ _ _ HX3.out]; rfl
  have hk2 : w3.cell? ⟨w.heap.size, 2, none⟩ = some (.int .i64 a) := by rw [cell_of_row _ _ _ _ _ _ HX3.out]; rfl
  have HMK := hid (mk_none [73] (w3.alloc (.cells #[.string (bs [73]), .string (bs [73])] 9)) (by decide))
  have HB5 : Hid (Below w.heap.size w (w3.alloc (.cells #[.string (bs [73]), .string (bs [73])] 9))) := hid (HB3.out.alloc HB3.out.size _)
  have HX5 : Hid ((w3.alloc (.cells #[.string (bs [73]), .string (bs [73])] 9)).heap[w.heap.size]? = some (.cells #[.int .i64 1, .string ({ data := #[73] } : ByteArray), .int .i64 a, va, vs] 25 (0, 0))) := hid ((Below.heap_alloc _ _ _ HLT3.out).trans HX3.out)
  obtain ⟨W5, hW5⟩ : ∃ W5, w3.alloc (.cells #[.string (bs [73]), .string (bs [73])] 9) = W5 := ⟨_, rfl⟩
  rw [hW5] at HMK HB5 HX5
  change w3.alloc (.cells #[.string ({ data := #[73] } : ByteArray), .string ({ data := #[73] } : ByteArray)] 9) = W5 at hW5
  have hp0 : W5.cell? ⟨w.heap.size, 0, none⟩ = some (.int .i64 1) := by rw [cell_of_row _ _ _ _ _ _ HX5.out]; rfl
  have hp1 : W5.cell? ⟨w.heap.size, 1, none⟩ = some (.string ({ data := #[73] } : ByteArray)) := by rw [cell_of_row _ _ _ _ _ _ HX5.out]; rfl
  have hp2 : W5.cell? ⟨w.heap.size, 2, none⟩ = some (.int .i64 a) := by rw [cell_of_row _ _ _ _ _ _ HX5.out]; rfl
  go_wp2_with fail
  refine HMK.out.mono ?_
  intro e w5 hmk
  obtain ⟨rfl, hb5⟩ := makeBy_good hmk (by decide)
  have HB9 : Hid (Below w.heap.size w w5) := hid (HB5.out.trans (hb5.mono HB5.out.size))
  clear hmk hb5
  go_wp2_with fail
  go_ret2
  exact told_ok HR.out HB9.out

theorem le1O (a : Int) (va vs : Value) (w : World) (h : ¬ (-2147483648 ≤ a ∧ a ≤ 2147483647)) :
    Calls Tryd.prog 31 #[.agg #[.int .i64 1, .string ({ data := #[73] } : ByteArray), .int .i64 a, va, vs]] w (Go.Proofs.YtikkhjcocmihlaaDoor.mtypes.Told w (leafF 1 [73] a, leafS 1 [73] a)) := by
  have HF : Hid (leafF 1 [73] a = 2) := hid (by unfold leafF; rw [if_neg (by simp [isWd]), if_pos ⟨rfl, rfl, h⟩])
  have HS : Hid (leafS 1 [73] a = []) := hid (by unfold leafS; rw [HF.out]; rfl)
  have HR : Hid ((leafF 1 [73] a, leafS 1 [73] a) = (2, [])) := hid (by rw [HF.out, HS.out])
  have HWV : Hid ((¬ a = wrap32 a)) := hid (by unfold wrap32; omega)
  clear h
  obtain ⟨X1, hX1⟩ : ∃ X1, w.alloc (.cells #[.int .i64 1, .string ({ data := #[73] } : ByteArray), .int .i64 a, va, vs] 25) = X1 := ⟨_, rfl⟩
  have HB1 : Hid (Below w.heap.size w X1) := hid (hX1 ▸ ext_alloc _ _)
  have HLT : Hid (w.heap.size < X1.heap.size) := hid (by rw [← hX1]; simp)
  have HXR : Hid (X1.heap[w.heap.size]? = some (.cells #[.int .i64 1, .string ({ data := #[73] } : ByteArray), .int .i64 a, va, vs] 25 (0, 0))) := hid (by rw [← hX1]; exact heap_alloc_new _ _)
  have hq0 : X1.cell? ⟨w.heap.size, 0, none⟩ = some (.int .i64 1) := by rw [cell_of_row _ _ _ _ _ _ HXR.out]; rfl
  have hq1 : X1.cell? ⟨w.heap.size, 1, none⟩ = some (.string ({ data := #[73] } : ByteArray)) := by rw [cell_of_row _ _ _ _ _ _ HXR.out]; rfl
  have hq2 : X1.cell? ⟨w.heap.size, 2, none⟩ = some (.int .i64 a) := by rw [cell_of_row _ _ _ _ _ _ HXR.out]; rfl
  have HW := hid (number_any ({ data := #[73] } : ByteArray))
  rw [show isWd ({ data := #[73] } : ByteArray).data.toList = true from rfl] at HW
  go_enter Tryd.func31, Tryd.ntmps31
  go_wp2_with fail
  refine (HW.out _).mono ?_
  rintro e w1 ⟨rfl, hww⟩
  obtain rfl := hww.symm
  go_wp2_with fail
  clear hq0 hq1 hq2
  refine wp_region_ext [(13, is (.int .i64 (wrap32 a)))] ⟨is_stays _, trivial⟩ (by kernel_rfl) (by kernel_rfl) ?_
  refine wpG_calc 1 rfl rfl rfl (fun u => by go_simp; rfl) ?_
  simp only [Act.put, List.setIfInBounds_toArray, List.set_cons_zero, List.set_cons_succ]
  refine wpG_read 2 rfl rfl (.int .i64 1) rfl ?_ ?_
  · intro u hu hh
    have hk : u.cell? ⟨w.heap.size, 0, none⟩ = some (.int .i64 1) := by rw [cell_of_row _ _ _ _ _ _ ((hu.block _ HLT.out).trans HXR.out)]; rfl
    go_simp
  simp only [Act.put, List.setIfInBounds_toArray, List.set_cons_zero, List.set_cons_succ]
  refine wpG_calc 3 rfl rfl rfl (fun u => by go_simp; rfl) ?_
  simp only [Act.put, List.setIfInBounds_toArray, List.set_cons_zero, List.set_cons_succ]
  refine wpG_calc 4 rfl rfl rfl (fun u => by go_simp; rfl) ?_
  simp only [Act.put, List.setIfInBounds_toArray, List.set_cons_zero, List.set_cons_succ]
  refine wpG_calc 5 rfl rfl rfl (fun u => by go_simp; rfl) ?_
  simp only [Act.put, List.setIfInBounds_toArray, List.set_cons_zero, List.set_cons_succ]
  refine wpG_read 6 rfl rfl (.string ({ data := #[73] } : ByteArray)) rfl ?_ ?_
  · intro u hu hh
    have hk : u.cell? ⟨w.heap.size, 1, none⟩ = some (.string ({ data := #[73] } : ByteArray)) := by rw [cell_of_row _ _ _ _ _ _ ((hu.block _ HLT.out).trans HXR.out)]; rfl
    go_simp
  simp only [Act.put, List.setIfInBounds_toArray, List.set_cons_zero, List.set_cons_succ]
  refine wpG_calc 7 rfl rfl rfl (fun u => by go_simp; rfl) ?_
  simp only [Act.put, List.setIfInBounds_toArray, List.set_cons_zero, List.set_cons_succ]
  refine wpG_calc 8 rfl rfl rfl (fun u => by go_simp; rfl) ?_
  simp only [Act.put, List.setIfInBounds_toArray, List.set_cons_zero, List.set_cons_succ]
  refine wpG_calc 9 rfl rfl rfl (fun u => by go_simp; rfl) ?_
  simp only [Act.put, List.setIfInBounds_toArray, List.set_cons_zero, List.set_cons_succ]
  refine wpG_calc 10 rfl rfl rfl (fun u => by go_simp; rfl) ?_
  simp only [Act.put, List.setIfInBounds_toArray, List.set_cons_zero, List.set_cons_succ]
  refine wpG_read 11 rfl rfl (.int .i64 a) rfl ?_ ?_
  · intro u hu hh
    have hk : u.cell? ⟨w.heap.size, 2, none⟩ = some (.int .i64 a) := by rw [cell_of_row _ _ _ _ _ _ ((hu.block _ HLT.out).trans HXR.out)]; rfl
    go_simp
  simp only [Act.put, List.setIfInBounds_toArray, List.set_cons_zero, List.set_cons_succ]
  refine wpG_calc 12 rfl rfl rfl (fun u => by go_simp; rfl) ?_
  simp only [Act.put, List.setIfInBounds_toArray, List.set_cons_zero, List.set_cons_succ]
  refine wpG_read 13 rfl rfl (.int .i64 a) rfl ?_ ?_
  · intro u hu hh
    have hk : u.cell? ⟨w.heap.size, 2, none⟩ = some (.int .i64 a) := by rw [cell_of_row _ _ _ _ _ _ ((hu.block _ HLT.out).trans HXR.out)]; rfl
    go_simp
  simp only [Act.put, List.setIfInBounds_toArray, List.set_cons_zero, List.set_cons_succ]
  refine wpG_rel 14 rfl rfl rfl ?_ ?_
  · intro u hu hh
    go_simp
    refine (word_any a u).mono ?_
    rintro e w6 ⟨rfl, rfl⟩
    exact ⟨_, rfl, rfl, Below.refl _ _⟩
  intro v14 ⟨u14, _, hr14⟩
  obtain rfl : v14 = .int .i64 (wrap32 a) := hr14
  simp only [Act.put, List.setIfInBounds_toArray, List.set_cons_zero, List.set_cons_succ]
  refine wpG_calc (v := .bool true) 15 rfl rfl rfl (fun u => by have hq := HWV.out; go_simp) ?_
  simp only [Act.put, List.setIfInBounds_toArray, List.set_cons_zero, List.set_cons_succ]
  refine wpG_calc 16 rfl rfl rfl (fun u => by go_simp; rfl) ?_
  simp only [Act.put, List.setIfInBounds_toArray, List.set_cons_zero, List.set_cons_succ]
  refine wpG_nil fun w3 hb3 hF => ?_
  clear hF
  have HB3 : Hid (Below w.heap.size w w3) := hid (HB1.out.trans (hb3.mono HB1.out.size))
  have HX3 : Hid (w3.heap[w.heap.size]? = some (.cells #[.int .i64 1, .string ({ data := #[73] } : ByteArray), .int .i64 a, va, vs] 25 (0, 0))) := hid ((hb3.block _ HLT.out).trans HXR.out)
  have HLT3 : Hid (w.heap.size < w3.heap.size) := hid (Nat.lt_of_lt_of_le HLT.out hb3.size)
  clear hb3
  have hk0 : w3.cell? ⟨w.heap.size, 0, none⟩ = some (.int .i64 1) := by rw [cell_of_row _ _ _ _ _ _ HX3.out]; rfl
  have hk1 : w3.cell? ⟨w.heap.size, 1, none⟩ = some (.string ({ data := #[73] } : ByteArray)) := by rw [cell_of_row _ _ _ _ _ _ HX3.out]; rfl
  have hk2 : w3.cell? ⟨w.heap.size, 2, none⟩ = some (.int .i64 a) := by rw [cell_of_row _ _ _ _ _ _ HX3.out]; rfl
  go_wp2_with fail
  go_ret2
  exact told_err HR.out (by decide) HB3.out

theorem le1J (a : Int) (va vs : Value) (w : World)  :
    Calls Tryd.prog 31 #[.agg #[.int .i64 1, .string ({ data := #[74] } : ByteArray), .int .i64 a, va, vs]] w (Go.Proofs.YtikkhjcocmihlaaDoor.mtypes.Told w (leafF 1 [74] a, leafS 1 [74] a)) := by
  have HF : Hid (leafF 1 [74] a = 0) := hid (by unfold leafF; simp [isWd])
  have HS : Hid (leafS 1 [74] a = makeText [] [74]) := hid (by unfold leafS; rw [HF.out]; rfl)
  have HR : Hid ((leafF 1 [74] a, leafS 1 [74] a) = (0, makeText [] [74])) := hid (by rw [HF.out, HS.out])
  obtain ⟨X1, hX1⟩ : ∃ X1, w.alloc (.cells #[.int .i64 1, .string ({ data := #[74] } : ByteArray), .int .i64 a, va, vs] 25) = X1 := ⟨_, rfl⟩
  have HB1 : Hid (Below w.heap.size w X1) := hid (hX1 ▸ ext_alloc _ _)
  have HLT : Hid (w.heap.size < X1.heap.size) := hid (by rw [← hX1]; simp)
  have HXR : Hid (X1.heap[w.heap.size]? = some (.cells #[.int .i64 1, .string ({ data := #[74] } : ByteArray), .int .i64 a, va, vs] 25 (0, 0))) := hid (by rw [← hX1]; exact heap_alloc_new _ _)
  have hq0 : X1.cell? ⟨w.heap.size, 0, none⟩ = some (.int .i64 1) := by rw [cell_of_row _ _ _ _ _ _ HXR.out]; rfl
  have hq1 : X1.cell? ⟨w.heap.size, 1, none⟩ = some (.string ({ data := #[74] } : ByteArray)) := by rw [cell_of_row _ _ _ _ _ _ HXR.out]; rfl
  have hq2 : X1.cell? ⟨w.heap.size, 2, none⟩ = some (.int .i64 a) := by rw [cell_of_row _ _ _ _ _ _ HXR.out]; rfl
  have HW := hid (number_any ({ data := #[74] } : ByteArray))
  rw [show isWd ({ data := #[74] } : ByteArray).data.toList = true from rfl] at HW
  go_enter Tryd.func31, Tryd.ntmps31
  go_wp2_with fail
  refine (HW.out _).mono ?_
  rintro e w1 ⟨rfl, hww⟩
  obtain rfl := hww.symm
  go_wp2_with fail
  clear hq0 hq1 hq2
  refine wp_region_ext [] trivial (by kernel_rfl) (by kernel_rfl) ?_
  refine wpG_calc 1 rfl rfl rfl (fun u => by go_simp; rfl) ?_
  simp only [Act.put, List.setIfInBounds_toArray, List.set_cons_zero, List.set_cons_succ]
  refine wpG_read 2 rfl rfl (.int .i64 1) rfl ?_ ?_
  · intro u hu hh
    have hk : u.cell? ⟨w.heap.size, 0, none⟩ = some (.int .i64 1) := by rw [cell_of_row _ _ _ _ _ _ ((hu.block _ HLT.out).trans HXR.out)]; rfl
    go_simp
  simp only [Act.put, List.setIfInBounds_toArray, List.set_cons_zero, List.set_cons_succ]
  refine wpG_calc 3 rfl rfl rfl (fun u => by go_simp; rfl) ?_
  simp only [Act.put, List.setIfInBounds_toArray, List.set_cons_zero, List.set_cons_succ]
  refine wpG_calc 4 rfl rfl rfl (fun u => by go_simp; rfl) ?_
  simp only [Act.put, List.setIfInBounds_toArray, List.set_cons_zero, List.set_cons_succ]
  refine wpG_calc 5 rfl rfl rfl (fun u => by go_simp; rfl) ?_
  simp only [Act.put, List.setIfInBounds_toArray, List.set_cons_zero, List.set_cons_succ]
  refine wpG_read 6 rfl rfl (.string ({ data := #[74] } : ByteArray)) rfl ?_ ?_
  · intro u hu hh
    have hk : u.cell? ⟨w.heap.size, 1, none⟩ = some (.string ({ data := #[74] } : ByteArray)) := by rw [cell_of_row _ _ _ _ _ _ ((hu.block _ HLT.out).trans HXR.out)]; rfl
    go_simp
  simp only [Act.put, List.setIfInBounds_toArray, List.set_cons_zero, List.set_cons_succ]
  refine wpG_calc 7 rfl rfl rfl (fun u => by go_simp; rfl) ?_
  simp only [Act.put, List.setIfInBounds_toArray, List.set_cons_zero, List.set_cons_succ]
  refine wpG_calc 8 rfl rfl rfl (fun u => by go_simp; rfl) ?_
  simp only [Act.put, List.setIfInBounds_toArray, List.set_cons_zero, List.set_cons_succ]
  refine wpG_calc 9 rfl rfl rfl (fun u => by go_simp; rfl) ?_
  simp only [Act.put, List.setIfInBounds_toArray, List.set_cons_zero, List.set_cons_succ]
  refine wpG_skip 10 rfl rfl ?_
  simp only [Act.put, List.setIfInBounds_toArray, List.set_cons_zero, List.set_cons_succ]
  refine wpG_skip 11 rfl rfl ?_
  simp only [Act.put, List.setIfInBounds_toArray, List.set_cons_zero, List.set_cons_succ]
  refine wpG_skip 12 rfl rfl ?_
  simp only [Act.put, List.setIfInBounds_toArray, List.set_cons_zero, List.set_cons_succ]
  refine wpG_skip 13 rfl rfl ?_
  simp only [Act.put, List.setIfInBounds_toArray, List.set_cons_zero, List.set_cons_succ]
  refine wpG_skip 14 rfl rfl ?_
  simp only [Act.put, List.setIfInBounds_toArray, List.set_cons_zero, List.set_cons_succ]
  refine wpG_skip 15 rfl rfl ?_
  simp only [Act.put, List.setIfInBounds_toArray, List.set_cons_zero, List.set_cons_succ]
  refine wpG_calc 16 rfl rfl rfl (fun u => by go_simp; rfl) ?_
  simp only [Act.put, List.setIfInBounds_toArray, List.set_cons_zero, List.set_cons_succ]
  refine wpG_nil fun w3 hb3 hF => ?_
  clear hF
  have HB3 : Hid (Below w.heap.size w w3) := hid (HB1.out.trans (hb3.mono HB1.out.size))
  have HX3 : Hid (w3.heap[w.heap.size]? = some (.cells #[.int .i64 1, .string ({ data := #[74] } : ByteArray), .int .i64 a, va, vs] 25 (0, 0))) := hid ((hb3.block _ HLT.out).trans HXR.out)
  have HLT3 : Hid (w.heap.size < w3.heap.size) := hid (Nat.lt_of_lt_of_le HLT.out hb3.size)
  clear hb3
  have hk0 : w3.cell? ⟨w.heap.size, 0, none⟩ = some (.int .i64 1) := by rw [cell_of_row _ _ _ _ _ _ HX3.out]; rfl
  have hk1 : w3.cell? ⟨w.heap.size, 1, none⟩ = some (.string ({ data := #[74] } : ByteArray)) := by rw [cell_of_row _ _ _ _ _ _ HX3.out]; rfl
  have hk2 : w3.cell? ⟨w.heap.size, 2, none⟩ = some (.int .i64 a) := by rw [cell_of_row _ _ _ _ _ _ HX3.out]; rfl
  have HMK := hid (mk_none [74] (w3.alloc (.cells #[.string (bs [74]), .string (bs [74])] 9)) (by decide))
  have HB5 : Hid (Below w.heap.size w (w3.alloc (.cells #[.string (bs [74]), .string (bs [74])] 9))) := hid (HB3.out.alloc HB3.out.size _)
  have HX5 : Hid ((w3.alloc (.cells #[.string (bs [74]), .string (bs [74])] 9)).heap[w.heap.size]? = some (.cells #[.int .i64 1, .string ({ data := #[74] } : ByteArray), .int .i64 a, va, vs] 25 (0, 0))) := hid ((Below.heap_alloc _ _ _ HLT3.out).trans HX3.out)
  obtain ⟨W5, hW5⟩ : ∃ W5, w3.alloc (.cells #[.string (bs [74]), .string (bs [74])] 9) = W5 := ⟨_, rfl⟩
  rw [hW5] at HMK HB5 HX5
  change w3.alloc (.cells #[.string ({ data := #[74] } : ByteArray), .string ({ data := #[74] } : ByteArray)] 9) = W5 at hW5
  have hp0 : W5.cell? ⟨w.heap.size, 0, none⟩ = some (.int .i64 1) := by rw [cell_of_row _ _ _ _ _ _ HX5.out]; rfl
  have hp1 : W5.cell? ⟨w.heap.size, 1, none⟩ = some (.string ({ data := #[74] } : ByteArray)) := by rw [cell_of_row _ _ _ _ _ _ HX5.out]; rfl
  have hp2 : W5.cell? ⟨w.heap.size, 2, none⟩ = some (.int .i64 a) := by rw [cell_of_row _ _ _ _ _ _ HX5.out]; rfl
  go_wp2_with fail
  refine HMK.out.mono ?_
  intro e w5 hmk
  obtain ⟨rfl, hb5⟩ := makeBy_good hmk (by decide)
  have HB9 : Hid (Below w.heap.size w w5) := hid (HB5.out.trans (hb5.mono HB5.out.size))
  clear hmk hb5
  go_wp2_with fail
  go_ret2
  exact told_ok HR.out HB9.out

theorem le2I (a : Int) (va vs : Value) (w : World)  :
    Calls Tryd.prog 31 #[.agg #[.int .i64 2, .string ({ data := #[73] } : ByteArray), .int .i64 a, va, vs]] w (Go.Proofs.YtikkhjcocmihlaaDoor.mtypes.Told w (leafF 2 [73] a, leafS 2 [73] a)) := by
  have HF : Hid (leafF 2 [73] a = 0) := hid (by unfold leafF; simp [isWd])
  have HS : Hid (leafS 2 [73] a = makeText [[73]] [73]) := hid (by unfold leafS; rw [HF.out]; rfl)
  have HR : Hid ((leafF 2 [73] a, leafS 2 [73] a) = (0, makeText [[73]] [73])) := hid (by rw [HF.out, HS.out])
  obtain ⟨X1, hX1⟩ : ∃ X1, w.alloc (.cells #[.int .i64 2, .string ({ data := #[73] } : ByteArray), .int .i64 a, va, vs] 25) = X1 := ⟨_, rfl⟩
  have HB1 : Hid (Below w.heap.size w X1) := hid (hX1 ▸ ext_alloc _ _)
  have HLT : Hid (w.heap.size < X1.heap.size) := hid (by rw [← hX1]; simp)
  have HXR : Hid (X1.heap[w.heap.size]? = some (.cells #[.int .i64 2, .string ({ data := #[73] } : ByteArray), .int .i64 a, va, vs] 25 (0, 0))) := hid (by rw [← hX1]; exact heap_alloc_new _ _)
  have hq0 : X1.cell? ⟨w.heap.size, 0, none⟩ = some (.int .i64 2) := by rw [cell_of_row _ _ _ _ _ _ HXR.out]; rfl
  have hq1 : X1.cell? ⟨w.heap.size, 1, none⟩ = some (.string ({ data := #[73] } : ByteArray)) := by rw [cell_of_row _ _ _ _ _ _ HXR.out]; rfl
  have hq2 : X1.cell? ⟨w.heap.size, 2, none⟩ = some (.int .i64 a) := by rw [cell_of_row _ _ _ _ _ _ HXR.out]; rfl
  have HW := hid (number_any ({ data := #[73] } : ByteArray))
  rw [show isWd ({ data := #[73] } : ByteArray).data.toList = true from rfl] at HW
  go_enter Tryd.func31, Tryd.ntmps31
  go_wp2_with fail
  refine (HW.out _).mono ?_
  rintro e w1 ⟨rfl, hww⟩
  obtain rfl := hww.symm
  go_wp2_with fail
  clear hq0 hq1 hq2
  refine wp_region_ext [] trivial (by kernel_rfl) (by kernel_rfl) ?_
  refine wpG_calc 1 rfl rfl rfl (fun u => by go_simp; rfl) ?_
  simp only [Act.put, List.setIfInBounds_toArray, List.set_cons_zero, List.set_cons_succ]
  refine wpG_read 2 rfl rfl (.int .i64 2) rfl ?_ ?_
  · intro u hu hh
    have hk : u.cell? ⟨w.heap.size, 0, none⟩ = some (.int .i64 2) := by rw [cell_of_row _ _ _ _ _ _ ((hu.block _ HLT.out).trans HXR.out)]; rfl
    go_simp
  simp only [Act.put, List.setIfInBounds_toArray, List.set_cons_zero, List.set_cons_succ]
  refine wpG_calc 3 rfl rfl rfl (fun u => by go_simp; rfl) ?_
  simp only [Act.put, List.setIfInBounds_toArray, List.set_cons_zero, List.set_cons_succ]
  refine wpG_calc 4 rfl rfl rfl (fun u => by go_simp; rfl) ?_
  simp only [Act.put, List.setIfInBounds_toArray, List.set_cons_zero, List.set_cons_succ]
  refine wpG_skip 5 rfl rfl ?_
  simp only [Act.put, List.setIfInBounds_toArray, List.set_cons_zero, List.set_cons_succ]
  refine wpG_skip 6 rfl rfl ?_
  simp only [Act.put, List.setIfInBounds_toArray, List.set_cons_zero, List.set_cons_succ]
  refine wpG_skip 7 rfl rfl ?_
  simp only [Act.put, List.setIfInBounds_toArray, List.set_cons_zero, List.set_cons_succ]
  refine wpG_calc 8 rfl rfl rfl (fun u => by go_simp; rfl) ?_
  simp only [Act.put, List.setIfInBounds_toArray, List.set_cons_zero, List.set_cons_succ]
  refine wpG_calc 9 rfl rfl rfl (fun u => by go_simp; rfl) ?_
  simp only [Act.put, List.setIfInBounds_toArray, List.set_cons_zero, List.set_cons_succ]
  refine wpG_skip 10 rfl rfl ?_
  simp only [Act.put, List.setIfInBounds_toArray, List.set_cons_zero, List.set_cons_succ]
  refine wpG_skip 11 rfl rfl ?_
  simp only [Act.put, List.setIfInBounds_toArray, List.set_cons_zero, List.set_cons_succ]
  refine wpG_skip 12 rfl rfl ?_
  simp only [Act.put, List.setIfInBounds_toArray, List.set_cons_zero, List.set_cons_succ]
  refine wpG_skip 13 rfl rfl ?_
  simp only [Act.put, List.setIfInBounds_toArray, List.set_cons_zero, List.set_cons_succ]
  refine wpG_skip 14 rfl rfl ?_
  simp only [Act.put, List.setIfInBounds_toArray, List.set_cons_zero, List.set_cons_succ]
  refine wpG_skip 15 rfl rfl ?_
  simp only [Act.put, List.setIfInBounds_toArray, List.set_cons_zero, List.set_cons_succ]
  refine wpG_calc 16 rfl rfl rfl (fun u => by go_simp; rfl) ?_
  simp only [Act.put, List.setIfInBounds_toArray, List.set_cons_zero, List.set_cons_succ]
  refine wpG_nil fun w3 hb3 hF => ?_
  clear hF
  have HB3 : Hid (Below w.heap.size w w3) := hid (HB1.out.trans (hb3.mono HB1.out.size))
  have HX3 : Hid (w3.heap[w.heap.size]? = some (.cells #[.int .i64 2, .string ({ data := #[73] } : ByteArray), .int .i64 a, va, vs] 25 (0, 0))) := hid ((hb3.block _ HLT.out).trans HXR.out)
  have HLT3 : Hid (w.heap.size < w3.heap.size) := hid (Nat.lt_of_lt_of_le HLT.out hb3.size)
  clear hb3
  have hk0 : w3.cell? ⟨w.heap.size, 0, none⟩ = some (.int .i64 2) := by rw [cell_of_row _ _ _ _ _ _ HX3.out]; rfl
  have hk1 : w3.cell? ⟨w.heap.size, 1, none⟩ = some (.string ({ data := #[73] } : ByteArray)) := by rw [cell_of_row _ _ _ _ _ _ HX3.out]; rfl
  have hk2 : w3.cell? ⟨w.heap.size, 2, none⟩ = some (.int .i64 a) := by rw [cell_of_row _ _ _ _ _ _ HX3.out]; rfl
  have HMK := hid (mk_one [73] w3 (by decide))
  have HB5 : Hid (Below w.heap.size w (w3.alloc (.cells #[.string (bs [73]), .string (bs [73])] 9))) := hid (HB3.out.alloc HB3.out.size _)
  have HX5 : Hid ((w3.alloc (.cells #[.string (bs [73]), .string (bs [73])] 9)).heap[w.heap.size]? = some (.cells #[.int .i64 2, .string ({ data := #[73] } : ByteArray), .int .i64 a, va, vs] 25 (0, 0))) := hid ((Below.heap_alloc _ _ _ HLT3.out).trans HX3.out)
  obtain ⟨W5, hW5⟩ : ∃ W5, w3.alloc (.cells #[.string (bs [73]), .string (bs [73])] 9) = W5 := ⟨_, rfl⟩
  rw [hW5] at HMK HB5 HX5
  change w3.alloc (.cells #[.string ({ data := #[73] } : ByteArray), .string ({ data := #[73] } : ByteArray)] 9) = W5 at hW5
  have hp0 : W5.cell? ⟨w.heap.size, 0, none⟩ = some (.int .i64 2) := by rw [cell_of_row _ _ _ _ _ _ HX5.out]; rfl
  have hp1 : W5.cell? ⟨w.heap.size, 1, none⟩ = some (.string ({ data := #[73] } : ByteArray)) := by rw [cell_of_row _ _ _ _ _ _ HX5.out]; rfl
  have hp2 : W5.cell? ⟨w.heap.size, 2, none⟩ = some (.int .i64 a) := by rw [cell_of_row _ _ _ _ _ _ HX5.out]; rfl
  go_wp2_with fail
  refine HMK.out.mono ?_
  intro e w5 hmk
  obtain ⟨rfl, hb5⟩ := makeBy_good hmk (by decide)
  have HB9 : Hid (Below w.heap.size w w5) := hid (HB5.out.trans (hb5.mono HB5.out.size))
  clear hmk hb5
  go_wp2_with fail
  go_ret2
  exact told_ok HR.out HB9.out

theorem leLoI (a : Int) (va vs : Value) (w : World) (h : a < 1) :
    Calls Tryd.prog 31 #[.agg #[.int .i64 3, .string ({ data := #[73] } : ByteArray), .int .i64 a, va, vs]] w (Go.Proofs.YtikkhjcocmihlaaDoor.mtypes.Told w (leafF 3 [73] a, leafS 3 [73] a)) := by
  have HF : Hid (leafF 3 [73] a = 1) := hid (by unfold leafF; rw [if_pos (.inr ⟨rfl, .inl h⟩)])
  have HS : Hid (leafS 3 [73] a = []) := hid (by unfold leafS; rw [HF.out]; rfl)
  have HR : Hid ((leafF 3 [73] a, leafS 3 [73] a) = (1, [])) := hid (by rw [HF.out, HS.out])
  obtain ⟨X1, hX1⟩ : ∃ X1, w.alloc (.cells #[.int .i64 3, .string ({ data := #[73] } : ByteArray), .int .i64 a, va, vs] 25) = X1 := ⟨_, rfl⟩
  have HB1 : Hid (Below w.heap.size w X1) := hid (hX1 ▸ ext_alloc _ _)
  have HLT : Hid (w.heap.size < X1.heap.size) := hid (by rw [← hX1]; simp)
  have HXR : Hid (X1.heap[w.heap.size]? = some (.cells #[.int .i64 3, .string ({ data := #[73] } : ByteArray), .int .i64 a, va, vs] 25 (0, 0))) := hid (by rw [← hX1]; exact heap_alloc_new _ _)
  have hq0 : X1.cell? ⟨w.heap.size, 0, none⟩ = some (.int .i64 3) := by rw [cell_of_row _ _ _ _ _ _ HXR.out]; rfl
  have hq1 : X1.cell? ⟨w.heap.size, 1, none⟩ = some (.string ({ data := #[73] } : ByteArray)) := by rw [cell_of_row _ _ _ _ _ _ HXR.out]; rfl
  have hq2 : X1.cell? ⟨w.heap.size, 2, none⟩ = some (.int .i64 a) := by rw [cell_of_row _ _ _ _ _ _ HXR.out]; rfl
  have HW := hid (number_any ({ data := #[73] } : ByteArray))
  rw [show isWd ({ data := #[73] } : ByteArray).data.toList = true from rfl] at HW
  go_enter Tryd.func31, Tryd.ntmps31
  go_wp2_with fail
  refine (HW.out _).mono ?_
  rintro e w1 ⟨rfl, hww⟩
  obtain rfl := hww.symm
  go_wp2_with fail
  go_ret2
  exact told_err HR.out (by decide) HB1.out

theorem leHiI (a : Int) (va vs : Value) (w : World) (h : 12 < a) :
    Calls Tryd.prog 31 #[.agg #[.int .i64 3, .string ({ data := #[73] } : ByteArray), .int .i64 a, va, vs]] w (Go.Proofs.YtikkhjcocmihlaaDoor.mtypes.Told w (leafF 3 [73] a, leafS 3 [73] a)) := by
  have HF : Hid (leafF 3 [73] a = 1) := hid (by unfold leafF; rw [if_pos (.inr ⟨rfl, .inr h⟩)])
  have HS : Hid (leafS 3 [73] a = []) := hid (by unfold leafS; rw [HF.out]; rfl)
  have HR : Hid ((leafF 3 [73] a, leafS 3 [73] a) = (1, [])) := hid (by rw [HF.out, HS.out])
  have h1 : ¬ a < 1 := by omega
  obtain ⟨X1, hX1⟩ : ∃ X1, w.alloc (.cells #[.int .i64 3, .string ({ data := #[73] } : ByteArray), .int .i64 a, va, vs] 25) = X1 := ⟨_, rfl⟩
  have HB1 : Hid (Below w.heap.size w X1) := hid (hX1 ▸ ext_alloc _ _)
  have HLT : Hid (w.heap.size < X1.heap.size) := hid (by rw [← hX1]; simp)
  have HXR : Hid (X1.heap[w.heap.size]? = some (.cells #[.int .i64 3, .string ({ data := #[73] } : ByteArray), .int .i64 a, va, vs] 25 (0, 0))) := hid (by rw [← hX1]; exact heap_alloc_new _ _)
  have hq0 : X1.cell? ⟨w.heap.size, 0, none⟩ = some (.int .i64 3) := by rw [cell_of_row _ _ _ _ _ _ HXR.out]; rfl
  have hq1 : X1.cell? ⟨w.heap.size, 1, none⟩ = some (.string ({ data := #[73] } : ByteArray)) := by rw [cell_of_row _ _ _ _ _ _ HXR.out]; rfl
  have hq2 : X1.cell? ⟨w.heap.size, 2, none⟩ = some (.int .i64 a) := by rw [cell_of_row _ _ _ _ _ _ HXR.out]; rfl
  have HW := hid (number_any ({ data := #[73] } : ByteArray))
  rw [show isWd ({ data := #[73] } : ByteArray).data.toList = true from rfl] at HW
  go_enter Tryd.func31, Tryd.ntmps31
  go_wp2_with fail
  refine (HW.out _).mono ?_
  rintro e w1 ⟨rfl, hww⟩
  obtain rfl := hww.symm
  go_wp2_with fail
  go_ret2
  exact told_err HR.out (by decide) HB1.out

theorem le12I (a : Int) (va vs : Value) (w : World) (h : a = 12) :
    Calls Tryd.prog 31 #[.agg #[.int .i64 3, .string ({ data := #[73] } : ByteArray), .int .i64 a, va, vs]] w (Go.Proofs.YtikkhjcocmihlaaDoor.mtypes.Told w (leafF 3 [73] a, leafS 3 [73] a)) := by
  have HF : Hid (leafF 3 [73] a = 0) := hid (by rw [h]; unfold leafF; simp [isWd])
  have HS : Hid (leafS 3 [73] a = makeText [[73]] [73]) := hid (by unfold leafS; rw [HF.out]; rw [h]; rfl)
  have HR : Hid ((leafF 3 [73] a, leafS 3 [73] a) = (0, makeText [[73]] [73])) := hid (by rw [HF.out, HS.out])
  subst h
  obtain ⟨X1, hX1⟩ : ∃ X1, w.alloc (.cells #[.int .i64 3, .string ({ data := #[73] } : ByteArray), .int .i64 12, va, vs] 25) = X1 := ⟨_, rfl⟩
  have HB1 : Hid (Below w.heap.size w X1) := hid (hX1 ▸ ext_alloc _ _)
  have HLT : Hid (w.heap.size < X1.heap.size) := hid (by rw [← hX1]; simp)
  have HXR : Hid (X1.heap[w.heap.size]? = some (.cells #[.int .i64 3, .string ({ data := #[73] } : ByteArray), .int .i64 12, va, vs] 25 (0, 0))) := hid (by rw [← hX1]; exact heap_alloc_new _ _)
  have hq0 : X1.cell? ⟨w.heap.size, 0, none⟩ = some (.int .i64 3) := by rw [cell_of_row _ _ _ _ _ _ HXR.out]; rfl
  have hq1 : X1.cell? ⟨w.heap.size, 1, none⟩ = some (.string ({ data := #[73] } : ByteArray)) := by rw [cell_of_row _ _ _ _ _ _ HXR.out]; rfl
  have hq2 : X1.cell? ⟨w.heap.size, 2, none⟩ = some (.int .i64 12) := by rw [cell_of_row _ _ _ _ _ _ HXR.out]; rfl
  have HW := hid (number_any ({ data := #[73] } : ByteArray))
  rw [show isWd ({ data := #[73] } : ByteArray).data.toList = true from rfl] at HW
  go_enter Tryd.func31, Tryd.ntmps31
  go_wp2_with fail
  refine (HW.out _).mono ?_
  rintro e w1 ⟨rfl, hww⟩
  obtain rfl := hww.symm
  go_wp2_with fail
  clear hq0 hq1 hq2
  refine wp_region_ext [] trivial (by kernel_rfl) (by kernel_rfl) ?_
  refine wpG_calc 1 rfl rfl rfl (fun u => by go_simp; rfl) ?_
  simp only [Act.put, List.setIfInBounds_toArray, List.set_cons_zero, List.set_cons_succ]
  refine wpG_read 2 rfl rfl (.int .i64 3) rfl ?_ ?_
  · intro u hu hh
    have hk : u.cell? ⟨w.heap.size, 0, none⟩ = some (.int .i64 3) := by rw [cell_of_row _ _ _ _ _ _ ((hu.block _ HLT.out).trans HXR.out)]; rfl
    go_simp
  simp only [Act.put, List.setIfInBounds_toArray, List.set_cons_zero, List.set_cons_succ]
  refine wpG_calc 3 rfl rfl rfl (fun u => by go_simp; rfl) ?_
  simp only [Act.put, List.setIfInBounds_toArray, List.set_cons_zero, List.set_cons_succ]
  refine wpG_calc 4 rfl rfl rfl (fun u => by go_simp; rfl) ?_
  simp only [Act.put, List.setIfInBounds_toArray, List.set_cons_zero, List.set_cons_succ]
  refine wpG_skip 5 rfl rfl ?_
  simp only [Act.put, List.setIfInBounds_toArray, List.set_cons_zero, List.set_cons_succ]
  refine wpG_skip 6 rfl rfl ?_
  simp only [Act.put, List.setIfInBounds_toArray, List.set_cons_zero, List.set_cons_succ]
  refine wpG_skip 7 rfl rfl ?_
  simp only [Act.put, List.setIfInBounds_toArray, List.set_cons_zero, List.set_cons_succ]
  refine wpG_calc 8 rfl rfl rfl (fun u => by go_simp; rfl) ?_
  simp only [Act.put, List.setIfInBounds_toArray, List.set_cons_zero, List.set_cons_succ]
  refine wpG_calc 9 rfl rfl rfl (fun u => by go_simp; rfl) ?_
  simp only [Act.put, List.setIfInBounds_toArray, List.set_cons_zero, List.set_cons_succ]
  refine wpG_skip 10 rfl rfl ?_
  simp only [Act.put, List.setIfInBounds_toArray, List.set_cons_zero, List.set_cons_succ]
  refine wpG_skip 11 rfl rfl ?_
  simp only [Act.put, List.setIfInBounds_toArray, List.set_cons_zero, List.set_cons_succ]
  refine wpG_skip 12 rfl rfl ?_
  simp only [Act.put, List.setIfInBounds_toArray, List.set_cons_zero, List.set_cons_succ]
  refine wpG_skip 13 rfl rfl ?_
  simp only [Act.put, List.setIfInBounds_toArray, List.set_cons_zero, List.set_cons_succ]
  refine wpG_skip 14 rfl rfl ?_
  simp only [Act.put, List.setIfInBounds_toArray, List.set_cons_zero, List.set_cons_succ]
  refine wpG_skip 15 rfl rfl ?_
  simp only [Act.put, List.setIfInBounds_toArray, List.set_cons_zero, List.set_cons_succ]
  refine wpG_calc 16 rfl rfl rfl (fun u => by go_simp; rfl) ?_
  simp only [Act.put, List.setIfInBounds_toArray, List.set_cons_zero, List.set_cons_succ]
  refine wpG_nil fun w3 hb3 hF => ?_
  clear hF
  have HB3 : Hid (Below w.heap.size w w3) := hid (HB1.out.trans (hb3.mono HB1.out.size))
  have HX3 : Hid (w3.heap[w.heap.size]? = some (.cells #[.int .i64 3, .string ({ data := #[73] } : ByteArray), .int .i64 12, va, vs] 25 (0, 0))) := hid ((hb3.block _ HLT.out).trans HXR.out)
  have HLT3 : Hid (w.heap.size < w3.heap.size) := hid (Nat.lt_of_lt_of_le HLT.out hb3.size)
  clear hb3
  have hk0 : w3.cell? ⟨w.heap.size, 0, none⟩ = some (.int .i64 3) := by rw [cell_of_row _ _ _ _ _ _ HX3.out]; rfl
  have hk1 : w3.cell? ⟨w.heap.size, 1, none⟩ = some (.string ({ data := #[73] } : ByteArray)) := by rw [cell_of_row _ _ _ _ _ _ HX3.out]; rfl
  have hk2 : w3.cell? ⟨w.heap.size, 2, none⟩ = some (.int .i64 12) := by rw [cell_of_row _ _ _ _ _ _ HX3.out]; rfl
  have HMK := hid (mk_one [73] w3 (by decide))
  have HB5 : Hid (Below w.heap.size w (w3.alloc (.cells #[.string (bs [73]), .string (bs [73])] 9))) := hid (HB3.out.alloc HB3.out.size _)
  have HX5 : Hid ((w3.alloc (.cells #[.string (bs [73]), .string (bs [73])] 9)).heap[w.heap.size]? = some (.cells #[.int .i64 3, .string ({ data := #[73] } : ByteArray), .int .i64 12, va, vs] 25 (0, 0))) := hid ((Below.heap_alloc _ _ _ HLT3.out).trans HX3.out)
  obtain ⟨W5, hW5⟩ : ∃ W5, w3.alloc (.cells #[.string (bs [73]), .string (bs [73])] 9) = W5 := ⟨_, rfl⟩
  rw [hW5] at HMK HB5 HX5
  change w3.alloc (.cells #[.string ({ data := #[73] } : ByteArray), .string ({ data := #[73] } : ByteArray)] 9) = W5 at hW5
  have hp0 : W5.cell? ⟨w.heap.size, 0, none⟩ = some (.int .i64 3) := by rw [cell_of_row _ _ _ _ _ _ HX5.out]; rfl
  have hp1 : W5.cell? ⟨w.heap.size, 1, none⟩ = some (.string ({ data := #[73] } : ByteArray)) := by rw [cell_of_row _ _ _ _ _ _ HX5.out]; rfl
  have hp2 : W5.cell? ⟨w.heap.size, 2, none⟩ = some (.int .i64 12) := by rw [cell_of_row _ _ _ _ _ _ HX5.out]; rfl
  go_wp2_with fail
  refine HMK.out.mono ?_
  intro e w5 hmk
  obtain ⟨rfl, hb5⟩ := makeBy_good hmk (by decide)
  have HB9 : Hid (Below w.heap.size w w5) := hid (HB5.out.trans (hb5.mono HB5.out.size))
  clear hmk hb5
  go_wp2_with fail
  go_ret2
  exact told_ok HR.out HB9.out

theorem le9I (a : Int) (va vs : Value) (w : World) (h : a = 9) :
    Calls Tryd.prog 31 #[.agg #[.int .i64 3, .string ({ data := #[73] } : ByteArray), .int .i64 a, va, vs]] w (Go.Proofs.YtikkhjcocmihlaaDoor.mtypes.Told w (leafF 3 [73] a, leafS 3 [73] a)) := by
  have HF : Hid (leafF 3 [73] a = 0) := hid (by rw [h]; unfold leafF; simp [isWd])
  have HS : Hid (leafS 3 [73] a = makeText [[73], [73]] [73]) := hid (by unfold leafS; rw [HF.out]; rw [h]; rfl)
  have HR : Hid ((leafF 3 [73] a, leafS 3 [73] a) = (0, makeText [[73], [73]] [73])) := hid (by rw [HF.out, HS.out])
  subst h
  obtain ⟨X1, hX1⟩ : ∃ X1, w.alloc (.cells #[.int .i64 3, .string ({ data := #[73] } : ByteArray), .int .i64 9, va, vs] 25) = X1 := ⟨_, rfl⟩
  have HB1 : Hid (Below w.heap.size w X1) := hid (hX1 ▸ ext_alloc _ _)
  have HLT : Hid (w.heap.size < X1.heap.size) := hid (by rw [← hX1]; simp)
  have HXR : Hid (X1.heap[w.heap.size]? = some (.cells #[.int .i64 3, .string ({ data := #[73] } : ByteArray), .int .i64 9, va, vs] 25 (0, 0))) := hid (by rw [← hX1]; exact heap_alloc_new _ _)
  have hq0 : X1.cell? ⟨w.heap.size, 0, none⟩ = some (.int .i64 3) := by rw [cell_of_row _ _ _ _ _ _ HXR.out]; rfl
  have hq1 : X1.cell? ⟨w.heap.size, 1, none⟩ = some (.string ({ data := #[73] } : ByteArray)) := by rw [cell_of_row _ _ _ _ _ _ HXR.out]; rfl
  have hq2 : X1.cell? ⟨w.heap.size, 2, none⟩ = some (.int .i64 9) := by rw [cell_of_row _ _ _ _ _ _ HXR.out]; rfl
  have HW := hid (number_any ({ data := #[73] } : ByteArray))
  rw [show isWd ({ data := #[73] } : ByteArray).data.toList = true from rfl] at HW
  go_enter Tryd.func31, Tryd.ntmps31
  go_wp2_with fail
  refine (HW.out _).mono ?_
  rintro e w1 ⟨rfl, hww⟩
  obtain rfl := hww.symm
  go_wp2_with fail
  clear hq0 hq1 hq2
  refine wp_region_ext [] trivial (by kernel_rfl) (by kernel_rfl) ?_
  refine wpG_calc 1 rfl rfl rfl (fun u => by go_simp; rfl) ?_
  simp only [Act.put, List.setIfInBounds_toArray, List.set_cons_zero, List.set_cons_succ]
  refine wpG_read 2 rfl rfl (.int .i64 3) rfl ?_ ?_
  · intro u hu hh
    have hk : u.cell? ⟨w.heap.size, 0, none⟩ = some (.int .i64 3) := by rw [cell_of_row _ _ _ _ _ _ ((hu.block _ HLT.out).trans HXR.out)]; rfl
    go_simp
  simp only [Act.put, List.setIfInBounds_toArray, List.set_cons_zero, List.set_cons_succ]
  refine wpG_calc 3 rfl rfl rfl (fun u => by go_simp; rfl) ?_
  simp only [Act.put, List.setIfInBounds_toArray, List.set_cons_zero, List.set_cons_succ]
  refine wpG_calc 4 rfl rfl rfl (fun u => by go_simp; rfl) ?_
  simp only [Act.put, List.setIfInBounds_toArray, List.set_cons_zero, List.set_cons_succ]
  refine wpG_skip 5 rfl rfl ?_
  simp only [Act.put, List.setIfInBounds_toArray, List.set_cons_zero, List.set_cons_succ]
  refine wpG_skip 6 rfl rfl ?_
  simp only [Act.put, List.setIfInBounds_toArray, List.set_cons_zero, List.set_cons_succ]
  refine wpG_skip 7 rfl rfl ?_
  simp only [Act.put, List.setIfInBounds_toArray, List.set_cons_zero, List.set_cons_succ]
  refine wpG_calc 8 rfl rfl rfl (fun u => by go_simp; rfl) ?_
  simp only [Act.put, List.setIfInBounds_toArray, List.set_cons_zero, List.set_cons_succ]
  refine wpG_calc 9 rfl rfl rfl (fun u => by go_simp; rfl) ?_
  simp only [Act.put, List.setIfInBounds_toArray, List.set_cons_zero, List.set_cons_succ]
  refine wpG_skip 10 rfl rfl ?_
  simp only [Act.put, List.setIfInBounds_toArray, List.set_cons_zero, List.set_cons_succ]
  refine wpG_skip 11 rfl rfl ?_
  simp only [Act.put, List.setIfInBounds_toArray, List.set_cons_zero, List.set_cons_succ]
  refine wpG_skip 12 rfl rfl ?_
  simp only [Act.put, List.setIfInBounds_toArray, List.set_cons_zero, List.set_cons_succ]
  refine wpG_skip 13 rfl rfl ?_
  simp only [Act.put, List.setIfInBounds_toArray, List.set_cons_zero, List.set_cons_succ]
  refine wpG_skip 14 rfl rfl ?_
  simp only [Act.put, List.setIfInBounds_toArray, List.set_cons_zero, List.set_cons_succ]
  refine wpG_skip 15 rfl rfl ?_
  simp only [Act.put, List.setIfInBounds_toArray, List.set_cons_zero, List.set_cons_succ]
  refine wpG_calc 16 rfl rfl rfl (fun u => by go_simp; rfl) ?_
  simp only [Act.put, List.setIfInBounds_toArray, List.set_cons_zero, List.set_cons_succ]
  refine wpG_nil fun w3 hb3 hF => ?_
  clear hF
  have HB3 : Hid (Below w.heap.size w w3) := hid (HB1.out.trans (hb3.mono HB1.out.size))
  have HX3 : Hid (w3.heap[w.heap.size]? = some (.cells #[.int .i64 3, .string ({ data := #[73] } : ByteArray), .int .i64 9, va, vs] 25 (0, 0))) := hid ((hb3.block _ HLT.out).trans HXR.out)
  have HLT3 : Hid (w.heap.size < w3.heap.size) := hid (Nat.lt_of_lt_of_le HLT.out hb3.size)
  clear hb3
  have hk0 : w3.cell? ⟨w.heap.size, 0, none⟩ = some (.int .i64 3) := by rw [cell_of_row _ _ _ _ _ _ HX3.out]; rfl
  have hk1 : w3.cell? ⟨w.heap.size, 1, none⟩ = some (.string ({ data := #[73] } : ByteArray)) := by rw [cell_of_row _ _ _ _ _ _ HX3.out]; rfl
  have hk2 : w3.cell? ⟨w.heap.size, 2, none⟩ = some (.int .i64 9) := by rw [cell_of_row _ _ _ _ _ _ HX3.out]; rfl
  have HMK := hid (mk_int [73] w3 (by decide))
  have HB5 : Hid (Below w.heap.size w (w3.alloc (.cells #[.string (bs [73]), .string (bs [73])] 9))) := hid (HB3.out.alloc HB3.out.size _)
  have HX5 : Hid ((w3.alloc (.cells #[.string (bs [73]), .string (bs [73])] 9)).heap[w.heap.size]? = some (.cells #[.int .i64 3, .string ({ data := #[73] } : ByteArray), .int .i64 9, va, vs] 25 (0, 0))) := hid ((Below.heap_alloc _ _ _ HLT3.out).trans HX3.out)
  have HR6 : Hid ((w3.alloc (.cells #[.string (bs [73]), .string (bs [73])] 9)).heap[w3.heap.size]? = some (.cells #[.string ({ data := #[73] } : ByteArray), .string ({ data := #[73] } : ByteArray)] 9 (0, 0))) := hid (heap_alloc_new _ _)
  obtain ⟨W5, hW5⟩ : ∃ W5, w3.alloc (.cells #[.string (bs [73]), .string (bs [73])] 9) = W5 := ⟨_, rfl⟩
  rw [hW5] at HMK HB5 HX5 HR6
  change w3.alloc (.cells #[.string ({ data := #[73] } : ByteArray), .string ({ data := #[73] } : ByteArray)] 9) = W5 at hW5
  have hp0 : W5.cell? ⟨w.heap.size, 0, none⟩ = some (.int .i64 3) := by rw [cell_of_row _ _ _ _ _ _ HX5.out]; rfl
  have hp1 : W5.cell? ⟨w.heap.size, 1, none⟩ = some (.string ({ data := #[73] } : ByteArray)) := by rw [cell_of_row _ _ _ _ _ _ HX5.out]; rfl
  have hp2 : W5.cell? ⟨w.heap.size, 2, none⟩ = some (.int .i64 9) := by rw [cell_of_row _ _ _ _ _ _ HX5.out]; rfl
  have hs1 : W5.cell? ⟨w3.heap.size, 1, none⟩ = some (.string ({ data := #[73] } : ByteArray)) := by rw [cell_of_row _ _ _ _ _ _ HR6.out]; rfl
  have fz1 : W5.frozen? ⟨w3.heap.size, 1, none⟩ = false := frozen_of_row _ _ _ _ _ HR6.out
  obtain ⟨W6, hW6⟩ : ∃ W6, W5.setCell ⟨w3.heap.size, 1, none⟩ (.string { data := #[73] }) = W6 := ⟨_, rfl⟩
  rw [hW6] at HMK
  have HB6 : Hid (Below w.heap.size w W6) := hid (hW6 ▸ HB5.out.setCell (p := ⟨w3.heap.size, 1, none⟩) HB3.out.size _)
  have HX6 : Hid (W6.heap[w.heap.size]? = some (.cells #[.int .i64 3, .string ({ data := #[73] } : ByteArray), .int .i64 9, va, vs] 25 (0, 0))) := hid (hW6 ▸ (Below.heap_setCell W5 ⟨w3.heap.size, 1, none⟩ _ _ (Nat.ne_of_lt HLT3.out)).trans HX5.out)
  have hr1 : W6.cell? ⟨w.heap.size, 1, none⟩ = some (.string ({ data := #[73] } : ByteArray)) := by rw [cell_of_row _ _ _ _ _ _ HX6.out]; rfl
  go_wp2_with fail
  refine HMK.out.mono ?_
  intro e w5 hmk
  obtain ⟨rfl, hb5⟩ := makeBy_good hmk (by decide)
  have HB9 : Hid (Below w.heap.size w w5) := hid (HB6.out.trans (hb5.mono HB6.out.size))
  clear hmk hb5
  go_wp2_with fail
  go_ret2
  exact told_ok HR.out HB9.out

theorem le10I (a : Int) (va vs : Value) (w : World) (h : a = 10) :
    Calls Tryd.prog 31 #[.agg #[.int .i64 3, .string ({ data := #[73] } : ByteArray), .int .i64 a, va, vs]] w (Go.Proofs.YtikkhjcocmihlaaDoor.mtypes.Told w (leafF 3 [73] a, leafS 3 [73] a)) := by
  have HF : Hid (leafF 3 [73] a = 0) := hid (by rw [h]; unfold leafF; simp [isWd])
  have HS : Hid (leafS 3 [73] a = makeText [[73], [73]] [73]) := hid (by unfold leafS; rw [HF.out]; rw [h]; rfl)
  have HR : Hid ((leafF 3 [73] a, leafS 3 [73] a) = (0, makeText [[73], [73]] [73])) := hid (by rw [HF.out, HS.out])
  subst h
  obtain ⟨X1, hX1⟩ : ∃ X1, w.alloc (.cells #[.int .i64 3, .string ({ data := #[73] } : ByteArray), .int .i64 10, va, vs] 25) = X1 := ⟨_, rfl⟩
  have HB1 : Hid (Below w.heap.size w X1) := hid (hX1 ▸ ext_alloc _ _)
  have HLT : Hid (w.heap.size < X1.heap.size) := hid (by rw [← hX1]; simp)
  have HXR : Hid (X1.heap[w.heap.size]? = some (.cells #[.int .i64 3, .string ({ data := #[73] } : ByteArray), .int .i64 10, va, vs] 25 (0, 0))) := hid (by rw [← hX1]; exact heap_alloc_new _ _)
  have hq0 : X1.cell? ⟨w.heap.size, 0, none⟩ = some (.int .i64 3) := by rw [cell_of_row _ _ _ _ _ _ HXR.out]; rfl
  have hq1 : X1.cell? ⟨w.heap.size, 1, none⟩ = some (.string ({ data := #[73] } : ByteArray)) := by rw [cell_of_row _ _ _ _ _ _ HXR.out]; rfl
  have hq2 : X1.cell? ⟨w.heap.size, 2, none⟩ = some (.int .i64 10) := by rw [cell_of_row _ _ _ _ _ _ HXR.out]; rfl
  have HW := hid (number_any ({ data := #[73] } : ByteArray))
  rw [show isWd ({ data := #[73] } : ByteArray).data.toList = true from rfl] at HW
  go_enter Tryd.func31, Tryd.ntmps31
  go_wp2_with fail
  refine (HW.out _).mono ?_
  rintro e w1 ⟨rfl, hww⟩
  obtain rfl := hww.symm
  go_wp2_with fail
  clear hq0 hq1 hq2
  refine wp_region_ext [] trivial (by kernel_rfl) (by kernel_rfl) ?_
  refine wpG_calc 1 rfl rfl rfl (fun u => by go_simp; rfl) ?_
  simp only [Act.put, List.setIfInBounds_toArray, List.set_cons_zero, List.set_cons_succ]
  refine wpG_read 2 rfl rfl (.int .i64 3) rfl ?_ ?_
  · intro u hu hh
    have hk : u.cell? ⟨w.heap.size, 0, none⟩ = some (.int .i64 3) := by rw [cell_of_row _ _ _ _ _ _ ((hu.block _ HLT.out).trans HXR.out)]; rfl
    go_simp
  simp only [Act.put, List.setIfInBounds_toArray, List.set_cons_zero, List.set_cons_succ]
  refine wpG_calc 3 rfl rfl rfl (fun u => by go_simp; rfl) ?_
  simp only [Act.put, List.setIfInBounds_toArray, List.set_cons_zero, List.set_cons_succ]
  refine wpG_calc 4 rfl rfl rfl (fun u => by go_simp; rfl) ?_
  simp only [Act.put, List.setIfInBounds_toArray, List.set_cons_zero, List.set_cons_succ]
  refine wpG_skip 5 rfl rfl ?_
  simp only [Act.put, List.setIfInBounds_toArray, List.set_cons_zero, List.set_cons_succ]
  refine wpG_skip 6 rfl rfl ?_
  simp only [Act.put, List.setIfInBounds_toArray, List.set_cons_zero, List.set_cons_succ]
  refine wpG_skip 7 rfl rfl ?_
  simp only [Act.put, List.setIfInBounds_toArray, List.set_cons_zero, List.set_cons_succ]
  refine wpG_calc 8 rfl rfl rfl (fun u => by go_simp; rfl) ?_
  simp only [Act.put, List.setIfInBounds_toArray, List.set_cons_zero, List.set_cons_succ]
  refine wpG_calc 9 rfl rfl rfl (fun u => by go_simp; rfl) ?_
  simp only [Act.put, List.setIfInBounds_toArray, List.set_cons_zero, List.set_cons_succ]
  refine wpG_skip 10 rfl rfl ?_
  simp only [Act.put, List.setIfInBounds_toArray, List.set_cons_zero, List.set_cons_succ]
  refine wpG_skip 11 rfl rfl ?_
  simp only [Act.put, List.setIfInBounds_toArray, List.set_cons_zero, List.set_cons_succ]
  refine wpG_skip 12 rfl rfl ?_
  simp only [Act.put, List.setIfInBounds_toArray, List.set_cons_zero, List.set_cons_succ]
  refine wpG_skip 13 rfl rfl ?_
  simp only [Act.put, List.setIfInBounds_toArray, List.set_cons_zero, List.set_cons_succ]
  refine wpG_skip 14 rfl rfl ?_
  simp only [Act.put, List.setIfInBounds_toArray, List.set_cons_zero, List.set_cons_succ]
  refine wpG_skip 15 rfl rfl ?_
  simp only [Act.put, List.setIfInBounds_toArray, List.set_cons_zero, List.set_cons_succ]
  refine wpG_calc 16 rfl rfl rfl (fun u => by go_simp; rfl) ?_
  simp only [Act.put, List.setIfInBounds_toArray, List.set_cons_zero, List.set_cons_succ]
  refine wpG_nil fun w3 hb3 hF => ?_
  clear hF
  have HB3 : Hid (Below w.heap.size w w3) := hid (HB1.out.trans (hb3.mono HB1.out.size))
  have HX3 : Hid (w3.heap[w.heap.size]? = some (.cells #[.int .i64 3, .string ({ data := #[73] } : ByteArray), .int .i64 10, va, vs] 25 (0, 0))) := hid ((hb3.block _ HLT.out).trans HXR.out)
  have HLT3 : Hid (w.heap.size < w3.heap.size) := hid (Nat.lt_of_lt_of_le HLT.out hb3.size)
  clear hb3
  have hk0 : w3.cell? ⟨w.heap.size, 0, none⟩ = some (.int .i64 3) := by rw [cell_of_row _ _ _ _ _ _ HX3.out]; rfl
  have hk1 : w3.cell? ⟨w.heap.size, 1, none⟩ = some (.string ({ data := #[73] } : ByteArray)) := by rw [cell_of_row _ _ _ _ _ _ HX3.out]; rfl
  have hk2 : w3.cell? ⟨w.heap.size, 2, none⟩ = some (.int .i64 10) := by rw [cell_of_row _ _ _ _ _ _ HX3.out]; rfl
  have HMK := hid (mk_int [73] w3 (by decide))
  have HB5 : Hid (Below w.heap.size w (w3.alloc (.cells #[.string (bs [73]), .string (bs [73])] 9))) := hid (HB3.out.alloc HB3.out.size _)
  have HX5 : Hid ((w3.alloc (.cells #[.string (bs [73]), .string (bs [73])] 9)).heap[w.heap.size]? = some (.cells #[.int .i64 3, .string ({ data := #[73] } : ByteArray), .int .i64 10, va, vs] 25 (0, 0))) := hid ((Below.heap_alloc _ _ _ HLT3.out).trans HX3.out)
  have HR6 : Hid ((w3.alloc (.cells #[.string (bs [73]), .string (bs [73])] 9)).heap[w3.heap.size]? = some (.cells #[.string ({ data := #[73] } : ByteArray), .string ({ data := #[73] } : ByteArray)] 9 (0, 0))) := hid (heap_alloc_new _ _)
  obtain ⟨W5, hW5⟩ : ∃ W5, w3.alloc (.cells #[.string (bs [73]), .string (bs [73])] 9) = W5 := ⟨_, rfl⟩
  rw [hW5] at HMK HB5 HX5 HR6
  change w3.alloc (.cells #[.string ({ data := #[73] } : ByteArray), .string ({ data := #[73] } : ByteArray)] 9) = W5 at hW5
  have hp0 : W5.cell? ⟨w.heap.size, 0, none⟩ = some (.int .i64 3) := by rw [cell_of_row _ _ _ _ _ _ HX5.out]; rfl
  have hp1 : W5.cell? ⟨w.heap.size, 1, none⟩ = some (.string ({ data := #[73] } : ByteArray)) := by rw [cell_of_row _ _ _ _ _ _ HX5.out]; rfl
  have hp2 : W5.cell? ⟨w.heap.size, 2, none⟩ = some (.int .i64 10) := by rw [cell_of_row _ _ _ _ _ _ HX5.out]; rfl
  have hs1 : W5.cell? ⟨w3.heap.size, 1, none⟩ = some (.string ({ data := #[73] } : ByteArray)) := by rw [cell_of_row _ _ _ _ _ _ HR6.out]; rfl
  have fz1 : W5.frozen? ⟨w3.heap.size, 1, none⟩ = false := frozen_of_row _ _ _ _ _ HR6.out
  obtain ⟨W6, hW6⟩ : ∃ W6, W5.setCell ⟨w3.heap.size, 1, none⟩ (.string { data := #[73] }) = W6 := ⟨_, rfl⟩
  rw [hW6] at HMK
  have HB6 : Hid (Below w.heap.size w W6) := hid (hW6 ▸ HB5.out.setCell (p := ⟨w3.heap.size, 1, none⟩) HB3.out.size _)
  have HX6 : Hid (W6.heap[w.heap.size]? = some (.cells #[.int .i64 3, .string ({ data := #[73] } : ByteArray), .int .i64 10, va, vs] 25 (0, 0))) := hid (hW6 ▸ (Below.heap_setCell W5 ⟨w3.heap.size, 1, none⟩ _ _ (Nat.ne_of_lt HLT3.out)).trans HX5.out)
  have hr1 : W6.cell? ⟨w.heap.size, 1, none⟩ = some (.string ({ data := #[73] } : ByteArray)) := by rw [cell_of_row _ _ _ _ _ _ HX6.out]; rfl
  go_wp2_with fail
  refine HMK.out.mono ?_
  intro e w5 hmk
  obtain ⟨rfl, hb5⟩ := makeBy_good hmk (by decide)
  have HB9 : Hid (Below w.heap.size w w5) := hid (HB6.out.trans (hb5.mono HB6.out.size))
  clear hmk hb5
  go_wp2_with fail
  go_ret2
  exact told_ok HR.out HB9.out

theorem le11I (a : Int) (va vs : Value) (w : World) (h : a = 11) :
    Calls Tryd.prog 31 #[.agg #[.int .i64 3, .string ({ data := #[73] } : ByteArray), .int .i64 a, va, vs]] w (Go.Proofs.YtikkhjcocmihlaaDoor.mtypes.Told w (leafF 3 [73] a, leafS 3 [73] a)) := by
  have HF : Hid (leafF 3 [73] a = 0) := hid (by rw [h]; unfold leafF; simp [isWd])
  have HS : Hid (leafS 3 [73] a = makeText [[73], [73]] [73]) := hid (by unfold leafS; rw [HF.out]; rw [h]; rfl)
  have HR : Hid ((leafF 3 [73] a, leafS 3 [73] a) = (0, makeText [[73], [73]] [73])) := hid (by rw [HF.out, HS.out])
  subst h
  obtain ⟨X1, hX1⟩ : ∃ X1, w.alloc (.cells #[.int .i64 3, .string ({ data := #[73] } : ByteArray), .int .i64 11, va, vs] 25) = X1 := ⟨_, rfl⟩
  have HB1 : Hid (Below w.heap.size w X1) := hid (hX1 ▸ ext_alloc _ _)
  have HLT : Hid (w.heap.size < X1.heap.size) := hid (by rw [← hX1]; simp)
  have HXR : Hid (X1.heap[w.heap.size]? = some (.cells #[.int .i64 3, .string ({ data := #[73] } : ByteArray), .int .i64 11, va, vs] 25 (0, 0))) := hid (by rw [← hX1]; exact heap_alloc_new _ _)
  have hq0 : X1.cell? ⟨w.heap.size, 0, none⟩ = some (.int .i64 3) := by rw [cell_of_row _ _ _ _ _ _ HXR.out]; rfl
  have hq1 : X1.cell? ⟨w.heap.size, 1, none⟩ = some (.string ({ data := #[73] } : ByteArray)) := by rw [cell_of_row _ _ _ _ _ _ HXR.out]; rfl
  have hq2 : X1.cell? ⟨w.heap.size, 2, none⟩ = some (.int .i64 11) := by rw [cell_of_row _ _ _ _ _ _ HXR.out]; rfl
  have HW := hid (number_any ({ data := #[73] } : ByteArray))
  rw [show isWd ({ data := #[73] } : ByteArray).data.toList = true from rfl] at HW
  go_enter Tryd.func31, Tryd.ntmps31
  go_wp2_with fail
  refine (HW.out _).mono ?_
  rintro e w1 ⟨rfl, hww⟩
  obtain rfl := hww.symm
  go_wp2_with fail
  clear hq0 hq1 hq2
  refine wp_region_ext [] trivial (by kernel_rfl) (by kernel_rfl) ?_
  refine wpG_calc 1 rfl rfl rfl (fun u => by go_simp; rfl) ?_
  simp only [Act.put, List.setIfInBounds_toArray, List.set_cons_zero, List.set_cons_succ]
  refine wpG_read 2 rfl rfl (.int .i64 3) rfl ?_ ?_
  · intro u hu hh
    have hk : u.cell? ⟨w.heap.size, 0, none⟩ = some (.int .i64 3) := by rw [cell_of_row _ _ _ _ _ _ ((hu.block _ HLT.out).trans HXR.out)]; rfl
    go_simp
  simp only [Act.put, List.setIfInBounds_toArray, List.set_cons_zero, List.set_cons_succ]
  refine wpG_calc 3 rfl rfl rfl (fun u => by go_simp; rfl) ?_
  simp only [Act.put, List.setIfInBounds_toArray, List.set_cons_zero, List.set_cons_succ]
  refine wpG_calc 4 rfl rfl rfl (fun u => by go_simp; rfl) ?_
  simp only [Act.put, List.setIfInBounds_toArray, List.set_cons_zero, List.set_cons_succ]
  refine wpG_skip 5 rfl rfl ?_
  simp only [Act.put, List.setIfInBounds_toArray, List.set_cons_zero, List.set_cons_succ]
  refine wpG_skip 6 rfl rfl ?_
  simp only [Act.put, List.setIfInBounds_toArray, List.set_cons_zero, List.set_cons_succ]
  refine wpG_skip 7 rfl rfl ?_
  simp only [Act.put, List.setIfInBounds_toArray, List.set_cons_zero, List.set_cons_succ]
  refine wpG_calc 8 rfl rfl rfl (fun u => by go_simp; rfl) ?_
  simp only [Act.put, List.setIfInBounds_toArray, List.set_cons_zero, List.set_cons_succ]
  refine wpG_calc 9 rfl rfl rfl (fun u => by go_simp; rfl) ?_
  simp only [Act.put, List.setIfInBounds_toArray, List.set_cons_zero, List.set_cons_succ]
  refine wpG_skip 10 rfl rfl ?_
  simp only [Act.put, List.setIfInBounds_toArray, List.set_cons_zero, List.set_cons_succ]
  refine wpG_skip 11 rfl rfl ?_
  simp only [Act.put, List.setIfInBounds_toArray, List.set_cons_zero, List.set_cons_succ]
  refine wpG_skip 12 rfl rfl ?_
  simp only [Act.put, List.setIfInBounds_toArray, List.set_cons_zero, List.set_cons_succ]
  refine wpG_skip 13 rfl rfl ?_
  simp only [Act.put, List.setIfInBounds_toArray, List.set_cons_zero, List.set_cons_succ]
  refine wpG_skip 14 rfl rfl ?_
  simp only [Act.put, List.setIfInBounds_toArray, List.set_cons_zero, List.set_cons_succ]
  refine wpG_skip 15 rfl rfl ?_
  simp only [Act.put, List.setIfInBounds_toArray, List.set_cons_zero, List.set_cons_succ]
  refine wpG_calc 16 rfl rfl rfl (fun u => by go_simp; rfl) ?_
  simp only [Act.put, List.setIfInBounds_toArray, List.set_cons_zero, List.set_cons_succ]
  refine wpG_nil fun w3 hb3 hF => ?_
  clear hF
  have HB3 : Hid (Below w.heap.size w w3) := hid (HB1.out.trans (hb3.mono HB1.out.size))
  have HX3 : Hid (w3.heap[w.heap.size]? = some (.cells #[.int .i64 3, .string ({ data := #[73] } : ByteArray), .int .i64 11, va, vs] 25 (0, 0))) := hid ((hb3.block _ HLT.out).trans HXR.out)
  have HLT3 : Hid (w.heap.size < w3.heap.size) := hid (Nat.lt_of_lt_of_le HLT.out hb3.size)
  clear hb3
  have hk0 : w3.cell? ⟨w.heap.size, 0, none⟩ = some (.int .i64 3) := by rw [cell_of_row _ _ _ _ _ _ HX3.out]; rfl
  have hk1 : w3.cell? ⟨w.heap.size, 1, none⟩ = some (.string ({ data := #[73] } : ByteArray)) := by rw [cell_of_row _ _ _ _ _ _ HX3.out]; rfl
  have hk2 : w3.cell? ⟨w.heap.size, 2, none⟩ = some (.int .i64 11) := by rw [cell_of_row _ _ _ _ _ _ HX3.out]; rfl
  have HMK := hid (mk_int [73] w3 (by decide))
  have HB5 : Hid (Below w.heap.size w (w3.alloc (.cells #[.string (bs [73]), .string (bs [73])] 9))) := hid (HB3.out.alloc HB3.out.size _)
  have HX5 : Hid ((w3.alloc (.cells #[.string (bs [73]), .string (bs [73])] 9)).heap[w.heap.size]? = some (.cells #[.int .i64 3, .string ({ data := #[73] } : ByteArray), .int .i64 11, va, vs] 25 (0, 0))) := hid ((Below.heap_alloc _ _ _ HLT3.out).trans HX3.out)
  have HR6 : Hid ((w3.alloc (.cells #[.string (bs [73]), .string (bs [73])] 9)).heap[w3.heap.size]? = some (.cells #[.string ({ data := #[73] } : ByteArray), .string ({ data := #[73] } : ByteArray)] 9 (0, 0))) := hid (heap_alloc_new _ _)
  obtain ⟨W5, hW5⟩ : ∃ W5, w3.alloc (.cells #[.string (bs [73]), .string (bs [73])] 9) = W5 := ⟨_, rfl⟩
  rw [hW5] at HMK HB5 HX5 HR6
  change w3.alloc (.cells #[.string ({ data := #[73] } : ByteArray), .string ({ data := #[73] } : ByteArray)] 9) = W5 at hW5
  have hp0 : W5.cell? ⟨w.heap.size, 0, none⟩ = some (.int .i64 3) := by rw [cell_of_row _ _ _ _ _ _ HX5.out]; rfl
  have hp1 : W5.cell? ⟨w.heap.size, 1, none⟩ = some (.string ({ data := #[73] } : ByteArray)) := by rw [cell_of_row _ _ _ _ _ _ HX5.out]; rfl
  have hp2 : W5.cell? ⟨w.heap.size, 2, none⟩ = some (.int .i64 11) := by rw [cell_of_row _ _ _ _ _ _ HX5.out]; rfl
  have hs1 : W5.cell? ⟨w3.heap.size, 1, none⟩ = some (.string ({ data := #[73] } : ByteArray)) := by rw [cell_of_row _ _ _ _ _ _ HR6.out]; rfl
  have fz1 : W5.frozen? ⟨w3.heap.size, 1, none⟩ = false := frozen_of_row _ _ _ _ _ HR6.out
  obtain ⟨W6, hW6⟩ : ∃ W6, W5.setCell ⟨w3.heap.size, 1, none⟩ (.string { data := #[73] }) = W6 := ⟨_, rfl⟩
  rw [hW6] at HMK
  have HB6 : Hid (Below w.heap.size w W6) := hid (hW6 ▸ HB5.out.setCell (p := ⟨w3.heap.size, 1, none⟩) HB3.out.size _)
  have HX6 : Hid (W6.heap[w.heap.size]? = some (.cells #[.int .i64 3, .string ({ data := #[73] } : ByteArray), .int .i64 11, va, vs] 25 (0, 0))) := hid (hW6 ▸ (Below.heap_setCell W5 ⟨w3.heap.size, 1, none⟩ _ _ (Nat.ne_of_lt HLT3.out)).trans HX5.out)
  have hr1 : W6.cell? ⟨w.heap.size, 1, none⟩ = some (.string ({ data := #[73] } : ByteArray)) := by rw [cell_of_row _ _ _ _ _ _ HX6.out]; rfl
  go_wp2_with fail
  refine HMK.out.mono ?_
  intro e w5 hmk
  obtain ⟨rfl, hb5⟩ := makeBy_good hmk (by decide)
  have HB9 : Hid (Below w.heap.size w w5) := hid (HB6.out.trans (hb5.mono HB6.out.size))
  clear hmk hb5
  go_wp2_with fail
  go_ret2
  exact told_ok HR.out HB9.out

theorem leElI (a : Int) (va vs : Value) (w : World) (h1 : 1 ≤ a) (h2 : a ≤ 8) :
    Calls Tryd.prog 31 #[.agg #[.int .i64 3, .string ({ data := #[73] } : ByteArray), .int .i64 a, va, vs]] w (Go.Proofs.YtikkhjcocmihlaaDoor.mtypes.Told w (leafF 3 [73] a, leafS 3 [73] a)) := by
  have HF : Hid (leafF 3 [73] a = 0) := hid (by unfold leafF; rw [if_neg (by simp [isWd]; omega), if_neg (by simp)])
  have HS : Hid (leafS 3 [73] a = makeText [[73], [73]] [73]) := hid (by unfold leafS; rw [HF.out]; rw [if_pos rfl]; unfold leafT; rw [if_neg (by decide), if_neg (by omega), if_neg (by omega)]; rfl)
  have HR : Hid ((leafF 3 [73] a, leafS 3 [73] a) = (0, makeText [[73], [73]] [73])) := hid (by rw [HF.out, HS.out])
  have n1 : ¬ a < 1 := by omega
  have n2 : ¬ 12 < a := by omega
  have n3 : (a == 12) = false := by simp; omega
  have n4 : ¬ 9 ≤ a := by omega
  obtain ⟨X1, hX1⟩ : ∃ X1, w.alloc (.cells #[.int .i64 3, .string ({ data := #[73] } : ByteArray), .int .i64 a, va, vs] 25) = X1 := ⟨_, rfl⟩
  have HB1 : Hid (Below w.heap.size w X1) := hid (hX1 ▸ ext_alloc _ _)
  have HLT : Hid (w.heap.size < X1.heap.size) := hid (by rw [← hX1]; simp)
  have HXR : Hid (X1.heap[w.heap.size]? = some (.cells #[.int .i64 3, .string ({ data := #[73] } : ByteArray), .int .i64 a, va, vs] 25 (0, 0))) := hid (by rw [← hX1]; exact heap_alloc_new _ _)
  have hq0 : X1.cell? ⟨w.heap.size, 0, none⟩ = some (.int .i64 3) := by rw [cell_of_row _ _ _ _ _ _ HXR.out]; rfl
  have hq1 : X1.cell? ⟨w.heap.size, 1, none⟩ = some (.string ({ data := #[73] } : ByteArray)) := by rw [cell_of_row _ _ _ _ _ _ HXR.out]; rfl
  have hq2 : X1.cell? ⟨w.heap.size, 2, none⟩ = some (.int .i64 a) := by rw [cell_of_row _ _ _ _ _ _ HXR.out]; rfl
  have HW := hid (number_any ({ data := #[73] } : ByteArray))
  rw [show isWd ({ data := #[73] } : ByteArray).data.toList = true from rfl] at HW
  go_enter Tryd.func31, Tryd.ntmps31
  go_wp2_with fail
  refine (HW.out _).mono ?_
  rintro e w1 ⟨rfl, hww⟩
  obtain rfl := hww.symm
  go_wp2_with fail
  clear hq0 hq1 hq2
  refine wp_region_ext [] trivial (by kernel_rfl) (by kernel_rfl) ?_
  refine wpG_calc 1 rfl rfl rfl (fun u => by go_simp; rfl) ?_
  simp only [Act.put, List.setIfInBounds_toArray, List.set_cons_zero, List.set_cons_succ]
  refine wpG_read 2 rfl rfl (.int .i64 3) rfl ?_ ?_
  · intro u hu hh
    have hk : u.cell? ⟨w.heap.size, 0, none⟩ = some (.int .i64 3) := by rw [cell_of_row _ _ _ _ _ _ ((hu.block _ HLT.out).trans HXR.out)]; rfl
    go_simp
  simp only [Act.put, List.setIfInBounds_toArray, List.set_cons_zero, List.set_cons_succ]
  refine wpG_calc 3 rfl rfl rfl (fun u => by go_simp; rfl) ?_
  simp only [Act.put, List.setIfInBounds_toArray, List.set_cons_zero, List.set_cons_succ]
  refine wpG_calc 4 rfl rfl rfl (fun u => by go_simp; rfl) ?_
  simp only [Act.put, List.setIfInBounds_toArray, List.set_cons_zero, List.set_cons_succ]
  refine wpG_skip 5 rfl rfl ?_
  simp only [Act.put, List.setIfInBounds_toArray, List.set_cons_zero, List.set_cons_succ]
  refine wpG_skip 6 rfl rfl ?_
  simp only [Act.put, List.setIfInBounds_toArray, List.set_cons_zero, List.set_cons_succ]
  refine wpG_skip 7 rfl rfl ?_
  simp only [Act.put, List.setIfInBounds_toArray, List.set_cons_zero, List.set_cons_succ]
  refine wpG_calc 8 rfl rfl rfl (fun u => by go_simp; rfl) ?_
  simp only [Act.put, List.setIfInBounds_toArray, List.set_cons_zero, List.set_cons_succ]
  refine wpG_calc 9 rfl rfl rfl (fun u => by go_simp; rfl) ?_
  simp only [Act.put, List.setIfInBounds_toArray, List.set_cons_zero, List.set_cons_succ]
  refine wpG_skip 10 rfl rfl ?_
  simp only [Act.put, List.setIfInBounds_toArray, List.set_cons_zero, List.set_cons_succ]
  refine wpG_skip 11 rfl rfl ?_
  simp only [Act.put, List.setIfInBounds_toArray, List.set_cons_zero, List.set_cons_succ]
  refine wpG_skip 12 rfl rfl ?_
  simp only [Act.put, List.setIfInBounds_toArray, List.set_cons_zero, List.set_cons_succ]
  refine wpG_skip 13 rfl rfl ?_
  simp only [Act.put, List.setIfInBounds_toArray, List.set_cons_zero, List.set_cons_succ]
  refine wpG_skip 14 rfl rfl ?_
  simp only [Act.put, List.setIfInBounds_toArray, List.set_cons_zero, List.set_cons_succ]
  refine wpG_skip 15 rfl rfl ?_
  simp only [Act.put, List.setIfInBounds_toArray, List.set_cons_zero, List.set_cons_succ]
  refine wpG_calc 16 rfl rfl rfl (fun u => by go_simp; rfl) ?_
  simp only [Act.put, List.setIfInBounds_toArray, List.set_cons_zero, List.set_cons_succ]
  refine wpG_nil fun w3 hb3 hF => ?_
  clear hF
  have HB3 : Hid (Below w.heap.size w w3) := hid (HB1.out.trans (hb3.mono HB1.out.size))
  have HX3 : Hid (w3.heap[w.heap.size]? = some (.cells #[.int .i64 3, .string ({ data := #[73] } : ByteArray), .int .i64 a, va, vs] 25 (0, 0))) := hid ((hb3.block _ HLT.out).trans HXR.out)
  have HLT3 : Hid (w.heap.size < w3.heap.size) := hid (Nat.lt_of_lt_of_le HLT.out hb3.size)
  clear hb3
  have hk0 : w3.cell? ⟨w.heap.size, 0, none⟩ = some (.int .i64 3) := by rw [cell_of_row _ _ _ _ _ _ HX3.out]; rfl
  have hk1 : w3.cell? ⟨w.heap.size, 1, none⟩ = some (.string ({ data := #[73] } : ByteArray)) := by rw [cell_of_row _ _ _ _ _ _ HX3.out]; rfl
  have hk2 : w3.cell? ⟨w.heap.size, 2, none⟩ = some (.int .i64 a) := by rw [cell_of_row _ _ _ _ _ _ HX3.out]; rfl
  have HMK := hid (mk_two [73] w3 (by decide))
  have HB5 : Hid (Below w.heap.size w (w3.alloc (.cells #[.string (bs [73]), .string (bs [73])] 9))) := hid (HB3.out.alloc HB3.out.size _)
  have HX5 : Hid ((w3.alloc (.cells #[.string (bs [73]), .string (bs [73])] 9)).heap[w.heap.size]? = some (.cells #[.int .i64 3, .string ({ data := #[73] } : ByteArray), .int .i64 a, va, vs] 25 (0, 0))) := hid ((Below.heap_alloc _ _ _ HLT3.out).trans HX3.out)
  obtain ⟨W5, hW5⟩ : ∃ W5, w3.alloc (.cells #[.string (bs [73]), .string (bs [73])] 9) = W5 := ⟨_, rfl⟩
  rw [hW5] at HMK HB5 HX5
  change w3.alloc (.cells #[.string ({ data := #[73] } : ByteArray), .string ({ data := #[73] } : ByteArray)] 9) = W5 at hW5
  have hp0 : W5.cell? ⟨w.heap.size, 0, none⟩ = some (.int .i64 3) := by rw [cell_of_row _ _ _ _ _ _ HX5.out]; rfl
  have hp1 : W5.cell? ⟨w.heap.size, 1, none⟩ = some (.string ({ data := #[73] } : ByteArray)) := by rw [cell_of_row _ _ _ _ _ _ HX5.out]; rfl
  have hp2 : W5.cell? ⟨w.heap.size, 2, none⟩ = some (.int .i64 a) := by rw [cell_of_row _ _ _ _ _ _ HX5.out]; rfl
  go_wp2_with fail
  refine HMK.out.mono ?_
  intro e w5 hmk
  obtain ⟨rfl, hb5⟩ := makeBy_good hmk (by decide)
  have HB9 : Hid (Below w.heap.size w w5) := hid (HB5.out.trans (hb5.mono HB5.out.size))
  clear hmk hb5
  go_wp2_with fail
  go_ret2
  exact told_ok HR.out HB9.out

theorem le2J (a : Int) (va vs : Value) (w : World)  :
    Calls Tryd.prog 31 #[.agg #[.int .i64 2, .string ({ data := #[74] } : ByteArray), .int .i64 a, va, vs]] w (Go.Proofs.YtikkhjcocmihlaaDoor.mtypes.Told w (leafF 2 [74] a, leafS 2 [74] a)) := by
  have HF : Hid (leafF 2 [74] a = 0) := hid (by unfold leafF; simp [isWd])
  have HS : Hid (leafS 2 [74] a = makeText [[74]] [74]) := hid (by unfold leafS; rw [HF.out]; rfl)
  have HR : Hid ((leafF 2 [74] a, leafS 2 [74] a) = (0, makeText [[74]] [74])) := hid (by rw [HF.out, HS.out])
  obtain ⟨X1, hX1⟩ : ∃ X1, w.alloc (.cells #[.int .i64 2, .string ({ data := #[74] } : ByteArray), .int .i64 a, va, vs] 25) = X1 := ⟨_, rfl⟩
  have HB1 : Hid (Below w.heap.size w X1) := hid (hX1 ▸ ext_alloc _ _)
  have HLT : Hid (w.heap.size < X1.heap.size) := hid (by rw [← hX1]; simp)
  have HXR : Hid (X1.heap[w.heap.size]? = some (.cells #[.int .i64 2, .string ({ data := #[74] } : ByteArray), .int .i64 a, va, vs] 25 (0, 0))) := hid (by rw [← hX1]; exact heap_alloc_new _ _)
  have hq0 : X1.cell? ⟨w.heap.size, 0, none⟩ = some (.int .i64 2) := by rw [cell_of_row _ _ _ _ _ _ HXR.out]; rfl
  have hq1 : X1.cell? ⟨w.heap.size, 1, none⟩ = some (.string ({ data := #[74] } : ByteArray)) := by rw [cell_of_row _ _ _ _ _ _ HXR.out]; rfl
  have hq2 : X1.cell? ⟨w.heap.size, 2, none⟩ = some (.int .i64 a) := by rw [cell_of_row _ _ _ _ _ _ HXR.out]; rfl
  have HW := hid (number_any ({ data := #[74] } : ByteArray))
  rw [show isWd ({ data := #[74] } : ByteArray).data.toList = true from rfl] at HW
  go_enter Tryd.func31, Tryd.ntmps31
  go_wp2_with fail
  refine (HW.out _).mono ?_
  rintro e w1 ⟨rfl, hww⟩
  obtain rfl := hww.symm
  go_wp2_with fail
  clear hq0 hq1 hq2
  refine wp_region_ext [] trivial (by kernel_rfl) (by kernel_rfl) ?_
  refine wpG_calc 1 rfl rfl rfl (fun u => by go_simp; rfl) ?_
  simp only [Act.put, List.setIfInBounds_toArray, List.set_cons_zero, List.set_cons_succ]
  refine wpG_read 2 rfl rfl (.int .i64 2) rfl ?_ ?_
  · intro u hu hh
    have hk : u.cell? ⟨w.heap.size, 0, none⟩ = some (.int .i64 2) := by rw [cell_of_row _ _ _ _ _ _ ((hu.block _ HLT.out).trans HXR.out)]; rfl
    go_simp
  simp only [Act.put, List.setIfInBounds_toArray, List.set_cons_zero, List.set_cons_succ]
  refine wpG_calc 3 rfl rfl rfl (fun u => by go_simp; rfl) ?_
  simp only [Act.put, List.setIfInBounds_toArray, List.set_cons_zero, List.set_cons_succ]
  refine wpG_calc 4 rfl rfl rfl (fun u => by go_simp; rfl) ?_
  simp only [Act.put, List.setIfInBounds_toArray, List.set_cons_zero, List.set_cons_succ]
  refine wpG_skip 5 rfl rfl ?_
  simp only [Act.put, List.setIfInBounds_toArray, List.set_cons_zero, List.set_cons_succ]
  refine wpG_skip 6 rfl rfl ?_
  simp only [Act.put, List.setIfInBounds_toArray, List.set_cons_zero, List.set_cons_succ]
  refine wpG_skip 7 rfl rfl ?_
  simp only [Act.put, List.setIfInBounds_toArray, List.set_cons_zero, List.set_cons_succ]
  refine wpG_calc 8 rfl rfl rfl (fun u => by go_simp; rfl) ?_
  simp only [Act.put, List.setIfInBounds_toArray, List.set_cons_zero, List.set_cons_succ]
  refine wpG_calc 9 rfl rfl rfl (fun u => by go_simp; rfl) ?_
  simp only [Act.put, List.setIfInBounds_toArray, List.set_cons_zero, List.set_cons_succ]
  refine wpG_skip 10 rfl rfl ?_
  simp only [Act.put, List.setIfInBounds_toArray, List.set_cons_zero, List.set_cons_succ]
  refine wpG_skip 11 rfl rfl ?_
  simp only [Act.put, List.setIfInBounds_toArray, List.set_cons_zero, List.set_cons_succ]
  refine wpG_skip 12 rfl rfl ?_
  simp only [Act.put, List.setIfInBounds_toArray, List.set_cons_zero, List.set_cons_succ]
  refine wpG_skip 13 rfl rfl ?_
  simp only [Act.put, List.setIfInBounds_toArray, List.set_cons_zero, List.set_cons_succ]
  refine wpG_skip 14 rfl rfl ?_
  simp only [Act.put, List.setIfInBounds_toArray, List.set_cons_zero, List.set_cons_succ]
  refine wpG_skip 15 rfl rfl ?_
  simp only [Act.put, List.setIfInBounds_toArray, List.set_cons_zero, List.set_cons_succ]
  refine wpG_calc 16 rfl rfl rfl (fun u => by go_simp; rfl) ?_
  simp only [Act.put, List.setIfInBounds_toArray, List.set_cons_zero, List.set_cons_succ]
  refine wpG_nil fun w3 hb3 hF => ?_
  clear hF
  have HB3 : Hid (Below w.heap.size w w3) := hid (HB1.out.trans (hb3.mono HB1.out.size))
  have HX3 : Hid (w3.heap[w.heap.size]? = some (.cells #[.int .i64 2, .string ({ data := #[74] } : ByteArray), .int .i64 a, va, vs] 25 (0, 0))) := hid ((hb3.block _ HLT.out).trans HXR.out)
  have HLT3 : Hid (w.heap.size < w3.heap.size) := hid (Nat.lt_of_lt_of_le HLT.out hb3.size)
  clear hb3
  have hk0 : w3.cell? ⟨w.heap.size, 0, none⟩ = some (.int .i64 2) := by rw [cell_of_row _ _ _ _ _ _ HX3.out]; rfl
  have hk1 : w3.cell? ⟨w.heap.size, 1, none⟩ = some (.string ({ data := #[74] } : ByteArray)) := by rw [cell_of_row _ _ _ _ _ _ HX3.out]; rfl
  have hk2 : w3.cell? ⟨w.heap.size, 2, none⟩ = some (.int .i64 a) := by rw [cell_of_row _ _ _ _ _ _ HX3.out]; rfl
  have HMK := hid (mk_one [74] w3 (by decide))
  have HB5 : Hid (Below w.heap.size w (w3.alloc (.cells #[.string (bs [74]), .string (bs [74])] 9))) := hid (HB3.out.alloc HB3.out.size _)
  have HX5 : Hid ((w3.alloc (.cells #[.string (bs [74]), .string (bs [74])] 9)).heap[w.heap.size]? = some (.cells #[.int .i64 2, .string ({ data := #[74] } : ByteArray), .int .i64 a, va, vs] 25 (0, 0))) := hid ((Below.heap_alloc _ _ _ HLT3.out).trans HX3.out)
  obtain ⟨W5, hW5⟩ : ∃ W5, w3.alloc (.cells #[.string (bs [74]), .string (bs [74])] 9) = W5 := ⟨_, rfl⟩
  rw [hW5] at HMK HB5 HX5
  change w3.alloc (.cells #[.string ({ data := #[74] } : ByteArray), .string ({ data := #[74] } : ByteArray)] 9) = W5 at hW5
  have hp0 : W5.cell? ⟨w.heap.size, 0, none⟩ = some (.int .i64 2) := by rw [cell_of_row _ _ _ _ _ _ HX5.out]; rfl
  have hp1 : W5.cell? ⟨w.heap.size, 1, none⟩ = some (.string ({ data := #[74] } : ByteArray)) := by rw [cell_of_row _ _ _ _ _ _ HX5.out]; rfl
  have hp2 : W5.cell? ⟨w.heap.size, 2, none⟩ = some (.int .i64 a) := by rw [cell_of_row _ _ _ _ _ _ HX5.out]; rfl
  go_wp2_with fail
  refine HMK.out.mono ?_
  intro e w5 hmk
  obtain ⟨rfl, hb5⟩ := makeBy_good hmk (by decide)
  have HB9 : Hid (Below w.heap.size w w5) := hid (HB5.out.trans (hb5.mono HB5.out.size))
  clear hmk hb5
  go_wp2_with fail
  go_ret2
  exact told_ok HR.out HB9.out

theorem leLoJ (a : Int) (va vs : Value) (w : World) (h : a < 1) :
    Calls Tryd.prog 31 #[.agg #[.int .i64 3, .string ({ data := #[74] } : ByteArray), .int .i64 a, va, vs]] w (Go.Proofs.YtikkhjcocmihlaaDoor.mtypes.Told w (leafF 3 [74] a, leafS 3 [74] a)) := by
  have HF : Hid (leafF 3 [74] a = 1) := hid (by unfold leafF; rw [if_pos (.inr ⟨rfl, .inl h⟩)])
  have HS : Hid (leafS 3 [74] a = []) := hid (by unfold leafS; rw [HF.out]; rfl)
  have HR : Hid ((leafF 3 [74] a, leafS 3 [74] a) = (1, [])) := hid (by rw [HF.out, HS.out])
  obtain ⟨X1, hX1⟩ : ∃ X1, w.alloc (.cells #[.int .i64 3, .string ({ data := #[74] } : ByteArray), .int .i64 a, va, vs] 25) = X1 := ⟨_, rfl⟩
  have HB1 : Hid (Below w.heap.size w X1) := hid (hX1 ▸ ext_alloc _ _)
  have HLT : Hid (w.heap.size < X1.heap.size) := hid (by rw [← hX1]; simp)
  have HXR : Hid (X1.heap[w.heap.size]? = some (.cells #[.int .i64 3, .string ({ data := #[74] } : ByteArray), .int .i64 a, va, vs] 25 (0, 0))) := hid (by rw [← hX1]; exact heap_alloc_new _ _)
  have hq0 : X1.cell? ⟨w.heap.size, 0, none⟩ = some (.int .i64 3) := by rw [cell_of_row _ _ _ _ _ _ HXR.out]; rfl
  have hq1 : X1.cell? ⟨w.heap.size, 1, none⟩ = some (.string ({ data := #[74] } : ByteArray)) := by rw [cell_of_row _ _ _ _ _ _ HXR.out]; rfl
  have hq2 : X1.cell? ⟨w.heap.size, 2, none⟩ = some (.int .i64 a) := by rw [cell_of_row _ _ _ _ _ _ HXR.out]; rfl
  have HW := hid (number_any ({ data := #[74] } : ByteArray))
  rw [show isWd ({ data := #[74] } : ByteArray).data.toList = true from rfl] at HW
  go_enter Tryd.func31, Tryd.ntmps31
  go_wp2_with fail
  refine (HW.out _).mono ?_
  rintro e w1 ⟨rfl, hww⟩
  obtain rfl := hww.symm
  go_wp2_with fail
  go_ret2
  exact told_err HR.out (by decide) HB1.out

theorem leHiJ (a : Int) (va vs : Value) (w : World) (h : 12 < a) :
    Calls Tryd.prog 31 #[.agg #[.int .i64 3, .string ({ data := #[74] } : ByteArray), .int .i64 a, va, vs]] w (Go.Proofs.YtikkhjcocmihlaaDoor.mtypes.Told w (leafF 3 [74] a, leafS 3 [74] a)) := by
  have HF : Hid (leafF 3 [74] a = 1) := hid (by unfold leafF; rw [if_pos (.inr ⟨rfl, .inr h⟩)])
  have HS : Hid (leafS 3 [74] a = []) := hid (by unfold leafS; rw [HF.out]; rfl)
  have HR : Hid ((leafF 3 [74] a, leafS 3 [74] a) = (1, [])) := hid (by rw [HF.out, HS.out])
  have h1 : ¬ a < 1 := by omega
  obtain ⟨X1, hX1⟩ : ∃ X1, w.alloc (.cells #[.int .i64 3, .string ({ data := #[74] } : ByteArray), .int .i64 a, va, vs] 25) = X1 := ⟨_, rfl⟩
  have HB1 : Hid (Below w.heap.size w X1) := hid (hX1 ▸ ext_alloc _ _)
  have HLT : Hid (w.heap.size < X1.heap.size) := hid (by rw [← hX1]; simp)
  have HXR : Hid (X1.heap[w.heap.size]? = some (.cells #[.int .i64 3, .string ({ data := #[74] } : ByteArray), .int .i64 a, va, vs] 25 (0, 0))) := hid (by rw [← hX1]; exact heap_alloc_new _ _)
  have hq0 : X1.cell? ⟨w.heap.size, 0, none⟩ = some (.int .i64 3) := by rw [cell_of_row _ _ _ _ _ _ HXR.out]; rfl
  have hq1 : X1.cell? ⟨w.heap.size, 1, none⟩ = some (.string ({ data := #[74] } : ByteArray)) := by rw [cell_of_row _ _ _ _ _ _ HXR.out]; rfl
  have hq2 : X1.cell? ⟨w.heap.size, 2, none⟩ = some (.int .i64 a) := by rw [cell_of_row _ _ _ _ _ _ HXR.out]; rfl
  have HW := hid (number_any ({ data := #[74] } : ByteArray))
  rw [show isWd ({ data := #[74] } : ByteArray).data.toList = true from rfl] at HW
  go_enter Tryd.func31, Tryd.ntmps31
  go_wp2_with fail
  refine (HW.out _).mono ?_
  rintro e w1 ⟨rfl, hww⟩
  obtain rfl := hww.symm
  go_wp2_with fail
  go_ret2
  exact told_err HR.out (by decide) HB1.out

theorem le12J (a : Int) (va vs : Value) (w : World) (h : a = 12) :
    Calls Tryd.prog 31 #[.agg #[.int .i64 3, .string ({ data := #[74] } : ByteArray), .int .i64 a, va, vs]] w (Go.Proofs.YtikkhjcocmihlaaDoor.mtypes.Told w (leafF 3 [74] a, leafS 3 [74] a)) := by
  have HF : Hid (leafF 3 [74] a = 0) := hid (by rw [h]; unfold leafF; simp [isWd])
  have HS : Hid (leafS 3 [74] a = makeText [[74]] [74]) := hid (by unfold leafS; rw [HF.out]; rw [h]; rfl)
  have HR : Hid ((leafF 3 [74] a, leafS 3 [74] a) = (0, makeText [[74]] [74])) := hid (by rw [HF.out, HS.out])
  subst h
  obtain ⟨X1, hX1⟩ : ∃ X1, w.alloc (.cells #[.int .i64 3, .string ({ data := #[74] } : ByteArray), .int .i64 12, va, vs] 25) = X1 := ⟨_, rfl⟩
  have HB1 : Hid (Below w.heap.size w X1) := hid (hX1 ▸ ext_alloc _ _)
  have HLT : Hid (w.heap.size < X1.heap.size) := hid (by rw [← hX1]; simp)
  have HXR : Hid (X1.heap[w.heap.size]? = some (.cells #[.int .i64 3, .string ({ data := #[74] } : ByteArray), .int .i64 12, va, vs] 25 (0, 0))) := hid (by rw [← hX1]; exact heap_alloc_new _ _)
  have hq0 : X1.cell? ⟨w.heap.size, 0, none⟩ = some (.int .i64 3) := by rw [cell_of_row _ _ _ _ _ _ HXR.out]; rfl
  have hq1 : X1.cell? ⟨w.heap.size, 1, none⟩ = some (.string ({ data := #[74] } : ByteArray)) := by rw [cell_of_row _ _ _ _ _ _ HXR.out]; rfl
  have hq2 : X1.cell? ⟨w.heap.size, 2, none⟩ = some (.int .i64 12) := by rw [cell_of_row _ _ _ _ _ _ HXR.out]; rfl
  have HW := hid (number_any ({ data := #[74] } : ByteArray))
  rw [show isWd ({ data := #[74] } : ByteArray).data.toList = true from rfl] at HW
  go_enter Tryd.func31, Tryd.ntmps31
  go_wp2_with fail
  refine (HW.out _).mono ?_
  rintro e w1 ⟨rfl, hww⟩
  obtain rfl := hww.symm
  go_wp2_with fail
  clear hq0 hq1 hq2
  refine wp_region_ext [] trivial (by kernel_rfl) (by kernel_rfl) ?_
  refine wpG_calc 1 rfl rfl rfl (fun u => by go_simp; rfl) ?_
  simp only [Act.put, List.setIfInBounds_toArray, List.set_cons_zero, List.set_cons_succ]
  refine wpG_read 2 rfl rfl (.int .i64 3) rfl ?_ ?_
  · intro u hu hh
    have hk : u.cell? ⟨w.heap.size, 0, none⟩ = some (.int .i64 3) := by rw [cell_of_row _ _ _ _ _ _ ((hu.block _ HLT.out).trans HXR.out)]; rfl
    go_simp
  simp only [Act.put, List.setIfInBounds_toArray, List.set_cons_zero, List.set_cons_succ]
  refine wpG_calc 3 rfl rfl rfl (fun u => by go_simp; rfl) ?_
  simp only [Act.put, List.setIfInBounds_toArray, List.set_cons_zero, List.set_cons_succ]
  refine wpG_calc 4 rfl rfl rfl (fun u => by go_simp; rfl) ?_
  simp only [Act.put, List.setIfInBounds_toArray, List.set_cons_zero, List.set_cons_succ]
  refine wpG_skip 5 rfl rfl ?_
  simp only [Act.put, List.setIfInBounds_toArray, List.set_cons_zero, List.set_cons_succ]
  refine wpG_skip 6 rfl rfl ?_
  simp only [Act.put, List.setIfInBounds_toArray, List.set_cons_zero, List.set_cons_succ]
  refine wpG_skip 7 rfl rfl ?_
  simp only [Act.put, List.setIfInBounds_toArray, List.set_cons_zero, List.set_cons_succ]
  refine wpG_calc 8 rfl rfl rfl (fun u => by go_simp; rfl) ?_
  simp only [Act.put, List.setIfInBounds_toArray, List.set_cons_zero, List.set_cons_succ]
  refine wpG_calc 9 rfl rfl rfl (fun u => by go_simp; rfl) ?_
  simp only [Act.put, List.setIfInBounds_toArray, List.set_cons_zero, List.set_cons_succ]
  refine wpG_skip 10 rfl rfl ?_
  simp only [Act.put, List.setIfInBounds_toArray, List.set_cons_zero, List.set_cons_succ]
  refine wpG_skip 11 rfl rfl ?_
  simp only [Act.put, List.setIfInBounds_toArray, List.set_cons_zero, List.set_cons_succ]
  refine wpG_skip 12 rfl rfl ?_
  simp only [Act.put, List.setIfInBounds_toArray, List.set_cons_zero, List.set_cons_succ]
  refine wpG_skip 13 rfl rfl ?_
  simp only [Act.put, List.setIfInBounds_toArray, List.set_cons_zero, List.set_cons_succ]
  refine wpG_skip 14 rfl rfl ?_
  simp only [Act.put, List.setIfInBounds_toArray, List.set_cons_zero, List.set_cons_succ]
  refine wpG_skip 15 rfl rfl ?_
  simp only [Act.put, List.setIfInBounds_toArray, List.set_cons_zero, List.set_cons_succ]
  refine wpG_calc 16 rfl rfl rfl (fun u => by go_simp; rfl) ?_
  simp only [Act.put, List.setIfInBounds_toArray, List.set_cons_zero, List.set_cons_succ]
  refine wpG_nil fun w3 hb3 hF => ?_
  clear hF
  have HB3 : Hid (Below w.heap.size w w3) := hid (HB1.out.trans (hb3.mono HB1.out.size))
  have HX3 : Hid (w3.heap[w.heap.size]? = some (.cells #[.int .i64 3, .string ({ data := #[74] } : ByteArray), .int .i64 12, va, vs] 25 (0, 0))) := hid ((hb3.block _ HLT.out).trans HXR.out)
  have HLT3 : Hid (w.heap.size < w3.heap.size) := hid (Nat.lt_of_lt_of_le HLT.out hb3.size)
  clear hb3
  have hk0 : w3.cell? ⟨w.heap.size, 0, none⟩ = some (.int .i64 3) := by rw [cell_of_row _ _ _ _ _ _ HX3.out]; rfl
  have hk1 : w3.cell? ⟨w.heap.size, 1, none⟩ = some (.string ({ data := #[74] } : ByteArray)) := by rw [cell_of_row _ _ _ _ _ _ HX3.out]; rfl
  have hk2 : w3.cell? ⟨w.heap.size, 2, none⟩ = some (.int .i64 12) := by rw [cell_of_row _ _ _ _ _ _ HX3.out]; rfl
  have HMK := hid (mk_one [74] w3 (by decide))
  have HB5 : Hid (Below w.heap.size w (w3.alloc (.cells #[.string (bs [74]), .string (bs [74])] 9))) := hid (HB3.out.alloc HB3.out.size _)
  have HX5 : Hid ((w3.alloc (.cells #[.string (bs [74]), .string (bs [74])] 9)).heap[w.heap.size]? = some (.cells #[.int .i64 3, .string ({ data := #[74] } : ByteArray), .int .i64 12, va, vs] 25 (0, 0))) := hid ((Below.heap_alloc _ _ _ HLT3.out).trans HX3.out)
  obtain ⟨W5, hW5⟩ : ∃ W5, w3.alloc (.cells #[.string (bs [74]), .string (bs [74])] 9) = W5 := ⟨_, rfl⟩
  rw [hW5] at HMK HB5 HX5
  change w3.alloc (.cells #[.string ({ data := #[74] } : ByteArray), .string ({ data := #[74] } : ByteArray)] 9) = W5 at hW5
  have hp0 : W5.cell? ⟨w.heap.size, 0, none⟩ = some (.int .i64 3) := by rw [cell_of_row _ _ _ _ _ _ HX5.out]; rfl
  have hp1 : W5.cell? ⟨w.heap.size, 1, none⟩ = some (.string ({ data := #[74] } : ByteArray)) := by rw [cell_of_row _ _ _ _ _ _ HX5.out]; rfl
  have hp2 : W5.cell? ⟨w.heap.size, 2, none⟩ = some (.int .i64 12) := by rw [cell_of_row _ _ _ _ _ _ HX5.out]; rfl
  go_wp2_with fail
  refine HMK.out.mono ?_
  intro e w5 hmk
  obtain ⟨rfl, hb5⟩ := makeBy_good hmk (by decide)
  have HB9 : Hid (Below w.heap.size w w5) := hid (HB5.out.trans (hb5.mono HB5.out.size))
  clear hmk hb5
  go_wp2_with fail
  go_ret2
  exact told_ok HR.out HB9.out

theorem le9J (a : Int) (va vs : Value) (w : World) (h : a = 9) :
    Calls Tryd.prog 31 #[.agg #[.int .i64 3, .string ({ data := #[74] } : ByteArray), .int .i64 a, va, vs]] w (Go.Proofs.YtikkhjcocmihlaaDoor.mtypes.Told w (leafF 3 [74] a, leafS 3 [74] a)) := by
  have HF : Hid (leafF 3 [74] a = 0) := hid (by rw [h]; unfold leafF; simp [isWd])
  have HS : Hid (leafS 3 [74] a = makeText [[74], [73]] [74]) := hid (by unfold leafS; rw [HF.out]; rw [h]; rfl)
  have HR : Hid ((leafF 3 [74] a, leafS 3 [74] a) = (0, makeText [[74], [73]] [74])) := hid (by rw [HF.out, HS.out])
  subst h
  obtain ⟨X1, hX1⟩ : ∃ X1, w.alloc (.cells #[.int .i64 3, .string ({ data := #[74] } : ByteArray), .int .i64 9, va, vs] 25) = X1 := ⟨_, rfl⟩
  have HB1 : Hid (Below w.heap.size w X1) := hid (hX1 ▸ ext_alloc _ _)
  have HLT : Hid (w.heap.size < X1.heap.size) := hid (by rw [← hX1]; simp)
  have HXR : Hid (X1.heap[w.heap.size]? = some (.cells #[.int .i64 3, .string ({ data := #[74] } : ByteArray), .int .i64 9, va, vs] 25 (0, 0))) := hid (by rw [← hX1]; exact heap_alloc_new _ _)
  have hq0 : X1.cell? ⟨w.heap.size, 0, none⟩ = some (.int .i64 3) := by rw [cell_of_row _ _ _ _ _ _ HXR.out]; rfl
  have hq1 : X1.cell? ⟨w.heap.size, 1, none⟩ = some (.string ({ data := #[74] } : ByteArray)) := by rw [cell_of_row _ _ _ _ _ _ HXR.out]; rfl
  have hq2 : X1.cell? ⟨w.heap.size, 2, none⟩ = some (.int .i64 9) := by rw [cell_of_row _ _ _ _ _ _ HXR.out]; rfl
  have HW := hid (number_any ({ data := #[74] } : ByteArray))
  rw [show isWd ({ data := #[74] } : ByteArray).data.toList = true from rfl] at HW
  go_enter Tryd.func31, Tryd.ntmps31
  go_wp2_with fail
  refine (HW.out _).mono ?_
  rintro e w1 ⟨rfl, hww⟩
  obtain rfl := hww.symm
  go_wp2_with fail
  clear hq0 hq1 hq2
  refine wp_region_ext [] trivial (by kernel_rfl) (by kernel_rfl) ?_
  refine wpG_calc 1 rfl rfl rfl (fun u => by go_simp; rfl) ?_
  simp only [Act.put, List.setIfInBounds_toArray, List.set_cons_zero, List.set_cons_succ]
  refine wpG_read 2 rfl rfl (.int .i64 3) rfl ?_ ?_
  · intro u hu hh
    have hk : u.cell? ⟨w.heap.size, 0, none⟩ = some (.int .i64 3) := by rw [cell_of_row _ _ _ _ _ _ ((hu.block _ HLT.out).trans HXR.out)]; rfl
    go_simp
  simp only [Act.put, List.setIfInBounds_toArray, List.set_cons_zero, List.set_cons_succ]
  refine wpG_calc 3 rfl rfl rfl (fun u => by go_simp; rfl) ?_
  simp only [Act.put, List.setIfInBounds_toArray, List.set_cons_zero, List.set_cons_succ]
  refine wpG_calc 4 rfl rfl rfl (fun u => by go_simp; rfl) ?_
  simp only [Act.put, List.setIfInBounds_toArray, List.set_cons_zero, List.set_cons_succ]
  refine wpG_skip 5 rfl rfl ?_
  simp only [Act.put, List.setIfInBounds_toArray, List.set_cons_zero, List.set_cons_succ]
  refine wpG_skip 6 rfl rfl ?_
  simp only [Act.put, List.setIfInBounds_toArray, List.set_cons_zero, List.set_cons_succ]
  refine wpG_skip 7 rfl rfl ?_
  simp only [Act.put, List.setIfInBounds_toArray, List.set_cons_zero, List.set_cons_succ]
  refine wpG_calc 8 rfl rfl rfl (fun u => by go_simp; rfl) ?_
  simp only [Act.put, List.setIfInBounds_toArray, List.set_cons_zero, List.set_cons_succ]
  refine wpG_calc 9 rfl rfl rfl (fun u => by go_simp; rfl) ?_
  simp only [Act.put, List.setIfInBounds_toArray, List.set_cons_zero, List.set_cons_succ]
  refine wpG_skip 10 rfl rfl ?_
  simp only [Act.put, List.setIfInBounds_toArray, List.set_cons_zero, List.set_cons_succ]
  refine wpG_skip 11 rfl rfl ?_
  simp only [Act.put, List.setIfInBounds_toArray, List.set_cons_zero, List.set_cons_succ]
  refine wpG_skip 12 rfl rfl ?_
  simp only [Act.put, List.setIfInBounds_toArray, List.set_cons_zero, List.set_cons_succ]
  refine wpG_skip 13 rfl rfl ?_
  simp only [Act.put, List.setIfInBounds_toArray, List.set_cons_zero, List.set_cons_succ]
  refine wpG_skip 14 rfl rfl ?_
  simp only [Act.put, List.setIfInBounds_toArray, List.set_cons_zero, List.set_cons_succ]
  refine wpG_skip 15 rfl rfl ?_
  simp only [Act.put, List.setIfInBounds_toArray, List.set_cons_zero, List.set_cons_succ]
  refine wpG_calc 16 rfl rfl rfl (fun u => by go_simp; rfl) ?_
  simp only [Act.put, List.setIfInBounds_toArray, List.set_cons_zero, List.set_cons_succ]
  refine wpG_nil fun w3 hb3 hF => ?_
  clear hF
  have HB3 : Hid (Below w.heap.size w w3) := hid (HB1.out.trans (hb3.mono HB1.out.size))
  have HX3 : Hid (w3.heap[w.heap.size]? = some (.cells #[.int .i64 3, .string ({ data := #[74] } : ByteArray), .int .i64 9, va, vs] 25 (0, 0))) := hid ((hb3.block _ HLT.out).trans HXR.out)
  have HLT3 : Hid (w.heap.size < w3.heap.size) := hid (Nat.lt_of_lt_of_le HLT.out hb3.size)
  clear hb3
  have hk0 : w3.cell? ⟨w.heap.size, 0, none⟩ = some (.int .i64 3) := by rw [cell_of_row _ _ _ _ _ _ HX3.out]; rfl
  have hk1 : w3.cell? ⟨w.heap.size, 1, none⟩ = some (.string ({ data := #[74] } : ByteArray)) := by rw [cell_of_row _ _ _ _ _ _ HX3.out]; rfl
  have hk2 : w3.cell? ⟨w.heap.size, 2, none⟩ = some (.int .i64 9) := by rw [cell_of_row _ _ _ _ _ _ HX3.out]; rfl
  have HMK := hid (mk_int [74] w3 (by decide))
  have HB5 : Hid (Below w.heap.size w (w3.alloc (.cells #[.string (bs [74]), .string (bs [74])] 9))) := hid (HB3.out.alloc HB3.out.size _)
  have HX5 : Hid ((w3.alloc (.cells #[.string (bs [74]), .string (bs [74])] 9)).heap[w.heap.size]? = some (.cells #[.int .i64 3, .string ({ data := #[74] } : ByteArray), .int .i64 9, va, vs] 25 (0, 0))) := hid ((Below.heap_alloc _ _ _ HLT3.out).trans HX3.out)
  have HR6 : Hid ((w3.alloc (.cells #[.string (bs [74]), .string (bs [74])] 9)).heap[w3.heap.size]? = some (.cells #[.string ({ data := #[74] } : ByteArray), .string ({ data := #[74] } : ByteArray)] 9 (0, 0))) := hid (heap_alloc_new _ _)
  obtain ⟨W5, hW5⟩ : ∃ W5, w3.alloc (.cells #[.string (bs [74]), .string (bs [74])] 9) = W5 := ⟨_, rfl⟩
  rw [hW5] at HMK HB5 HX5 HR6
  change w3.alloc (.cells #[.string ({ data := #[74] } : ByteArray), .string ({ data := #[74] } : ByteArray)] 9) = W5 at hW5
  have hp0 : W5.cell? ⟨w.heap.size, 0, none⟩ = some (.int .i64 3) := by rw [cell_of_row _ _ _ _ _ _ HX5.out]; rfl
  have hp1 : W5.cell? ⟨w.heap.size, 1, none⟩ = some (.string ({ data := #[74] } : ByteArray)) := by rw [cell_of_row _ _ _ _ _ _ HX5.out]; rfl
  have hp2 : W5.cell? ⟨w.heap.size, 2, none⟩ = some (.int .i64 9) := by rw [cell_of_row _ _ _ _ _ _ HX5.out]; rfl
  have hs1 : W5.cell? ⟨w3.heap.size, 1, none⟩ = some (.string ({ data := #[74] } : ByteArray)) := by rw [cell_of_row _ _ _ _ _ _ HR6.out]; rfl
  have fz1 : W5.frozen? ⟨w3.heap.size, 1, none⟩ = false := frozen_of_row _ _ _ _ _ HR6.out
  obtain ⟨W6, hW6⟩ : ∃ W6, W5.setCell ⟨w3.heap.size, 1, none⟩ (.string { data := #[73] }) = W6 := ⟨_, rfl⟩
  rw [hW6] at HMK
  have HB6 : Hid (Below w.heap.size w W6) := hid (hW6 ▸ HB5.out.setCell (p := ⟨w3.heap.size, 1, none⟩) HB3.out.size _)
  have HX6 : Hid (W6.heap[w.heap.size]? = some (.cells #[.int .i64 3, .string ({ data := #[74] } : ByteArray), .int .i64 9, va, vs] 25 (0, 0))) := hid (hW6 ▸ (Below.heap_setCell W5 ⟨w3.heap.size, 1, none⟩ _ _ (Nat.ne_of_lt HLT3.out)).trans HX5.out)
  have hr1 : W6.cell? ⟨w.heap.size, 1, none⟩ = some (.string ({ data := #[74] } : ByteArray)) := by rw [cell_of_row _ _ _ _ _ _ HX6.out]; rfl
  go_wp2_with fail
  refine HMK.out.mono ?_
  intro e w5 hmk
  obtain ⟨rfl, hb5⟩ := makeBy_good hmk (by decide)
  have HB9 : Hid (Below w.heap.size w w5) := hid (HB6.out.trans (hb5.mono HB6.out.size))
  clear hmk hb5
  go_wp2_with fail
  go_ret2
  exact told_ok HR.out HB9.out

theorem le10J (a : Int) (va vs : Value) (w : World) (h : a = 10) :
    Calls Tryd.prog 31 #[.agg #[.int .i64 3, .string ({ data := #[74] } : ByteArray), .int .i64 a, va, vs]] w (Go.Proofs.YtikkhjcocmihlaaDoor.mtypes.Told w (leafF 3 [74] a, leafS 3 [74] a)) := by
  have HF : Hid (leafF 3 [74] a = 0) := hid (by rw [h]; unfold leafF; simp [isWd])
  have HS : Hid (leafS 3 [74] a = makeText [[74], [73]] [74]) := hid (by unfold leafS; rw [HF.out]; rw [h]; rfl)
  have HR : Hid ((leafF 3 [74] a, leafS 3 [74] a) = (0, makeText [[74], [73]] [74])) := hid (by rw [HF.out, HS.out])
  subst h
  obtain ⟨X1, hX1⟩ : ∃ X1, w.alloc (.cells #[.int .i64 3, .string ({ data := #[74] } : ByteArray), .int .i64 10, va, vs] 25) = X1 := ⟨_, rfl⟩
  have HB1 : Hid (Below w.heap.size w X1) := hid (hX1 ▸ ext_alloc _ _)
  have HLT : Hid (w.heap.size < X1.heap.size) := hid (by rw [← hX1]; simp)
  have HXR : Hid (X1.heap[w.heap.size]? = some (.cells #[.int .i64 3, .string ({ data := #[74] } : ByteArray), .int .i64 10, va, vs] 25 (0, 0))) := hid (by rw [← hX1]; exact heap_alloc_new _ _)
  have hq0 : X1.cell? ⟨w.heap.size, 0, none⟩ = some (.int .i64 3) := by rw [cell_of_row _ _ _ _ _ _ HXR.out]; rfl
  have hq1 : X1.cell? ⟨w.heap.size, 1, none⟩ = some (.string ({ data := #[74] } : ByteArray)) := by rw [cell_of_row _ _ _ _ _ _ HXR.out]; rfl
  have hq2 : X1.cell? ⟨w.heap.size, 2, none⟩ = some (.int .i64 10) := by rw [cell_of_row _ _ _ _ _ _ HXR.out]; rfl
  have HW := hid (number_any ({ data := #[74] } : ByteArray))
  rw [show isWd ({ data := #[74] } : ByteArray).data.toList = true from rfl] at HW
  go_enter Tryd.func31, Tryd.ntmps31
  go_wp2_with fail
  refine (HW.out _).mono ?_
  rintro e w1 ⟨rfl, hww⟩
  obtain rfl := hww.symm
  go_wp2_with fail
  clear hq0 hq1 hq2
  refine wp_region_ext [] trivial (by kernel_rfl) (by kernel_rfl) ?_
  refine wpG_calc 1 rfl rfl rfl (fun u => by go_simp; rfl) ?_
  simp only [Act.put, List.setIfInBounds_toArray, List.set_cons_zero, List.set_cons_succ]
  refine wpG_read 2 rfl rfl (.int .i64 3) rfl ?_ ?_
  · intro u hu hh
    have hk : u.cell? ⟨w.heap.size, 0, none⟩ = some (.int .i64 3) := by rw [cell_of_row _ _ _ _ _ _ ((hu.block _ HLT.out).trans HXR.out)]; rfl
    go_simp
  simp only [Act.put, List.setIfInBounds_toArray, List.set_cons_zero, List.set_cons_succ]
  refine wpG_calc 3 rfl rfl rfl (fun u => by go_simp; rfl) ?_
  simp only [Act.put, List.setIfInBounds_toArray, List.set_cons_zero, List.set_cons_succ]
  refine wpG_calc 4 rfl rfl rfl (fun u => by go_simp; rfl) ?_
  simp only [Act.put, List.setIfInBounds_toArray, List.set_cons_zero, List.set_cons_succ]
  refine wpG_skip 5 rfl rfl ?_
  simp only [Act.put, List.setIfInBounds_toArray, List.set_cons_zero, List.set_cons_succ]
  refine wpG_skip 6 rfl rfl ?_
  simp only [Act.put, List.setIfInBounds_toArray, List.set_cons_zero, List.set_cons_succ]
  refine wpG_skip 7 rfl rfl ?_
  simp only [Act.put, List.setIfInBounds_toArray, List.set_cons_zero, List.set_cons_succ]
  refine wpG_calc 8 rfl rfl rfl (fun u => by go_simp; rfl) ?_
  simp only [Act.put, List.setIfInBounds_toArray, List.set_cons_zero, List.set_cons_succ]
  refine wpG_calc 9 rfl rfl rfl (fun u => by go_simp; rfl) ?_
  simp only [Act.put, List.setIfInBounds_toArray, List.set_cons_zero, List.set_cons_succ]
  refine wpG_skip 10 rfl rfl ?_
  simp only [Act.put, List.setIfInBounds_toArray, List.set_cons_zero, List.set_cons_succ]
  refine wpG_skip 11 rfl rfl ?_
  simp only [Act.put, List.setIfInBounds_toArray, List.set_cons_zero, List.set_cons_succ]
  refine wpG_skip 12 rfl rfl ?_
  simp only [Act.put, List.setIfInBounds_toArray, List.set_cons_zero, List.set_cons_succ]
  refine wpG_skip 13 rfl rfl ?_
  simp only [Act.put, List.setIfInBounds_toArray, List.set_cons_zero, List.set_cons_succ]
  refine wpG_skip 14 rfl rfl ?_
  simp only [Act.put, List.setIfInBounds_toArray, List.set_cons_zero, List.set_cons_succ]
  refine wpG_skip 15 rfl rfl ?_
  simp only [Act.put, List.setIfInBounds_toArray, List.set_cons_zero, List.set_cons_succ]
  refine wpG_calc 16 rfl rfl rfl (fun u => by go_simp; rfl) ?_
  simp only [Act.put, List.setIfInBounds_toArray, List.set_cons_zero, List.set_cons_succ]
  refine wpG_nil fun w3 hb3 hF => ?_
  clear hF
  have HB3 : Hid (Below w.heap.size w w3) := hid (HB1.out.trans (hb3.mono HB1.out.size))
  have HX3 : Hid (w3.heap[w.heap.size]? = some (.cells #[.int .i64 3, .string ({ data := #[74] } : ByteArray), .int .i64 10, va, vs] 25 (0, 0))) := hid ((hb3.block _ HLT.out).trans HXR.out)
  have HLT3 : Hid (w.heap.size < w3.heap.size) := hid (Nat.lt_of_lt_of_le HLT.out hb3.size)
  clear hb3
  have hk0 : w3.cell? ⟨w.heap.size, 0, none⟩ = some (.int .i64 3) := by rw [cell_of_row _ _ _ _ _ _ HX3.out]; rfl
  have hk1 : w3.cell? ⟨w.heap.size, 1, none⟩ = some (.string ({ data := #[74] } : ByteArray)) := by rw [cell_of_row _ _ _ _ _ _ HX3.out]; rfl
  have hk2 : w3.cell? ⟨w.heap.size, 2, none⟩ = some (.int .i64 10) := by rw [cell_of_row _ _ _ _ _ _ HX3.out]; rfl
  have HMK := hid (mk_int [74] w3 (by decide))
  have HB5 : Hid (Below w.heap.size w (w3.alloc (.cells #[.string (bs [74]), .string (bs [74])] 9))) := hid (HB3.out.alloc HB3.out.size _)
  have HX5 : Hid ((w3.alloc (.cells #[.string (bs [74]), .string (bs [74])] 9)).heap[w.heap.size]? = some (.cells #[.int .i64 3, .string ({ data := #[74] } : ByteArray), .int .i64 10, va, vs] 25 (0, 0))) := hid ((Below.heap_alloc _ _ _ HLT3.out).trans HX3.out)
  have HR6 : Hid ((w3.alloc (.cells #[.string (bs [74]), .string (bs [74])] 9)).heap[w3.heap.size]? = some (.cells #[.string ({ data := #[74] } : ByteArray), .string ({ data := #[74] } : ByteArray)] 9 (0, 0))) := hid (heap_alloc_new _ _)
  obtain ⟨W5, hW5⟩ : ∃ W5, w3.alloc (.cells #[.string (bs [74]), .string (bs [74])] 9) = W5 := ⟨_, rfl⟩
  rw [hW5] at HMK HB5 HX5 HR6
  change w3.alloc (.cells #[.string ({ data := #[74] } : ByteArray), .string ({ data := #[74] } : ByteArray)] 9) = W5 at hW5
  have hp0 : W5.cell? ⟨w.heap.size, 0, none⟩ = some (.int .i64 3) := by rw [cell_of_row _ _ _ _ _ _ HX5.out]; rfl
  have hp1 : W5.cell? ⟨w.heap.size, 1, none⟩ = some (.string ({ data := #[74] } : ByteArray)) := by rw [cell_of_row _ _ _ _ _ _ HX5.out]; rfl
  have hp2 : W5.cell? ⟨w.heap.size, 2, none⟩ = some (.int .i64 10) := by rw [cell_of_row _ _ _ _ _ _ HX5.out]; rfl
  have hs1 : W5.cell? ⟨w3.heap.size, 1, none⟩ = some (.string ({ data := #[74] } : ByteArray)) := by rw [cell_of_row _ _ _ _ _ _ HR6.out]; rfl
  have fz1 : W5.frozen? ⟨w3.heap.size, 1, none⟩ = false := frozen_of_row _ _ _ _ _ HR6.out
  obtain ⟨W6, hW6⟩ : ∃ W6, W5.setCell ⟨w3.heap.size, 1, none⟩ (.string { data := #[73] }) = W6 := ⟨_, rfl⟩
  rw [hW6] at HMK
  have HB6 : Hid (Below w.heap.size w W6) := hid (hW6 ▸ HB5.out.setCell (p := ⟨w3.heap.size, 1, none⟩) HB3.out.size _)
  have HX6 : Hid (W6.heap[w.heap.size]? = some (.cells #[.int .i64 3, .string ({ data := #[74] } : ByteArray), .int .i64 10, va, vs] 25 (0, 0))) := hid (hW6 ▸ (Below.heap_setCell W5 ⟨w3.heap.size, 1, none⟩ _ _ (Nat.ne_of_lt HLT3.out)).trans HX5.out)
  have hr1 : W6.cell? ⟨w.heap.size, 1, none⟩ = some (.string ({ data := #[74] } : ByteArray)) := by rw [cell_of_row _ _ _ _ _ _ HX6.out]; rfl
  go_wp2_with fail
  refine HMK.out.mono ?_
  intro e w5 hmk
  obtain ⟨rfl, hb5⟩ := makeBy_good hmk (by decide)
  have HB9 : Hid (Below w.heap.size w w5) := hid (HB6.out.trans (hb5.mono HB6.out.size))
  clear hmk hb5
  go_wp2_with fail
  go_ret2
  exact told_ok HR.out HB9.out

theorem le11J (a : Int) (va vs : Value) (w : World) (h : a = 11) :
    Calls Tryd.prog 31 #[.agg #[.int .i64 3, .string ({ data := #[74] } : ByteArray), .int .i64 a, va, vs]] w (Go.Proofs.YtikkhjcocmihlaaDoor.mtypes.Told w (leafF 3 [74] a, leafS 3 [74] a)) := by
  have HF : Hid (leafF 3 [74] a = 0) := hid (by rw [h]; unfold leafF; simp [isWd])
  have HS : Hid (leafS 3 [74] a = makeText [[74], [73]] [74]) := hid (by unfold leafS; rw [HF.out]; rw [h]; rfl)
  have HR : Hid ((leafF 3 [74] a, leafS 3 [74] a) = (0, makeText [[74], [73]] [74])) := hid (by rw [HF.out, HS.out])
  subst h
  obtain ⟨X1, hX1⟩ : ∃ X1, w.alloc (.cells #[.int .i64 3, .string ({ data := #[74] } : ByteArray), .int .i64 11, va, vs] 25) = X1 := ⟨_, rfl⟩
  have HB1 : Hid (Below w.heap.size w X1) := hid (hX1 ▸ ext_alloc _ _)
  have HLT : Hid (w.heap.size < X1.heap.size) := hid (by rw [← hX1]; simp)
  have HXR : Hid (X1.heap[w.heap.size]? = some (.cells #[.int .i64 3, .string ({ data := #[74] } : ByteArray), .int .i64 11, va, vs] 25 (0, 0))) := hid (by rw [← hX1]; exact heap_alloc_new _ _)
  have hq0 : X1.cell? ⟨w.heap.size, 0, none⟩ = some (.int .i64 3) := by rw [cell_of_row _ _ _ _ _ _ HXR.out]; rfl
  have hq1 : X1.cell? ⟨w.heap.size, 1, none⟩ = some (.string ({ data := #[74] } : ByteArray)) := by rw [cell_of_row _ _ _ _ _ _ HXR.out]; rfl
  have hq2 : X1.cell? ⟨w.heap.size, 2, none⟩ = some (.int .i64 11) := by rw [cell_of_row _ _ _ _ _ _ HXR.out]; rfl
  have HW := hid (number_any ({ data := #[74] } : ByteArray))
  rw [show isWd ({ data := #[74] } : ByteArray).data.toList = true from rfl] at HW
  go_enter Tryd.func31, Tryd.ntmps31
  go_wp2_with fail
  refine (HW.out _).mono ?_
  rintro e w1 ⟨rfl, hww⟩
  obtain rfl := hww.symm
  go_wp2_with fail
  clear hq0 hq1 hq2
  refine wp_region_ext [] trivial (by kernel_rfl) (by kernel_rfl) ?_
  refine wpG_calc 1 rfl rfl rfl (fun u => by go_simp; rfl) ?_
  simp only [Act.put, List.setIfInBounds_toArray, List.set_cons_zero, List.set_cons_succ]
  refine wpG_read 2 rfl rfl (.int .i64 3) rfl ?_ ?_
  · intro u hu hh
    have hk : u.cell? ⟨w.heap.size, 0, none⟩ = some (.int .i64 3) := by rw [cell_of_row _ _ _ _ _ _ ((hu.block _ HLT.out).trans HXR.out)]; rfl
    go_simp
  simp only [Act.put, List.setIfInBounds_toArray, List.set_cons_zero, List.set_cons_succ]
  refine wpG_calc 3 rfl rfl rfl (fun u => by go_simp; rfl) ?_
  simp only [Act.put, List.setIfInBounds_toArray, List.set_cons_zero, List.set_cons_succ]
  refine wpG_calc 4 rfl rfl rfl (fun u => by go_simp; rfl) ?_
  simp only [Act.put, List.setIfInBounds_toArray, List.set_cons_zero, List.set_cons_succ]
  refine wpG_skip 5 rfl rfl ?_
  simp only [Act.put, List.setIfInBounds_toArray, List.set_cons_zero, List.set_cons_succ]
  refine wpG_skip 6 rfl rfl ?_
  simp only [Act.put, List.setIfInBounds_toArray, List.set_cons_zero, List.set_cons_succ]
  refine wpG_skip 7 rfl rfl ?_
  simp only [Act.put, List.setIfInBounds_toArray, List.set_cons_zero, List.set_cons_succ]
  refine wpG_calc 8 rfl rfl rfl (fun u => by go_simp; rfl) ?_
  simp only [Act.put, List.setIfInBounds_toArray, List.set_cons_zero, List.set_cons_succ]
  refine wpG_calc 9 rfl rfl rfl (fun u => by go_simp; rfl) ?_
  simp only [Act.put, List.setIfInBounds_toArray, List.set_cons_zero, List.set_cons_succ]
  refine wpG_skip 10 rfl rfl ?_
  simp only [Act.put, List.setIfInBounds_toArray, List.set_cons_zero, List.set_cons_succ]
  refine wpG_skip 11 rfl rfl ?_
  simp only [Act.put, List.setIfInBounds_toArray, List.set_cons_zero, List.set_cons_succ]
  refine wpG_skip 12 rfl rfl ?_
  simp only [Act.put, List.setIfInBounds_toArray, List.set_cons_zero, List.set_cons_succ]
  refine wpG_skip 13 rfl rfl ?_
  simp only [Act.put, List.setIfInBounds_toArray, List.set_cons_zero, List.set_cons_succ]
  refine wpG_skip 14 rfl rfl ?_
  simp only [Act.put, List.setIfInBounds_toArray, List.set_cons_zero, List.set_cons_succ]
  refine wpG_skip 15 rfl rfl ?_
  simp only [Act.put, List.setIfInBounds_toArray, List.set_cons_zero, List.set_cons_succ]
  refine wpG_calc 16 rfl rfl rfl (fun u => by go_simp; rfl) ?_
  simp only [Act.put, List.setIfInBounds_toArray, List.set_cons_zero, List.set_cons_succ]
  refine wpG_nil fun w3 hb3 hF => ?_
  clear hF
  have HB3 : Hid (Below w.heap.size w w3) := hid (HB1.out.trans (hb3.mono HB1.out.size))
  have HX3 : Hid (w3.heap[w.heap.size]? = some (.cells #[.int .i64 3, .string ({ data := #[74] } : ByteArray), .int .i64 11, va, vs] 25 (0, 0))) := hid ((hb3.block _ HLT.out).trans HXR.out)
  have HLT3 : Hid (w.heap.size < w3.heap.size) := hid (Nat.lt_of_lt_of_le HLT.out hb3.size)
  clear hb3
  have hk0 : w3.cell? ⟨w.heap.size, 0, none⟩ = some (.int .i64 3) := by rw [cell_of_row _ _ _ _ _ _ HX3.out]; rfl
  have hk1 : w3.cell? ⟨w.heap.size, 1, none⟩ = some (.string ({ data := #[74] } : ByteArray)) := by rw [cell_of_row _ _ _ _ _ _ HX3.out]; rfl
  have hk2 : w3.cell? ⟨w.heap.size, 2, none⟩ = some (.int .i64 11) := by rw [cell_of_row _ _ _ _ _ _ HX3.out]; rfl
  have HMK := hid (mk_int [74] w3 (by decide))
  have HB5 : Hid (Below w.heap.size w (w3.alloc (.cells #[.string (bs [74]), .string (bs [74])] 9))) := hid (HB3.out.alloc HB3.out.size _)
  have HX5 : Hid ((w3.alloc (.cells #[.string (bs [74]), .string (bs [74])] 9)).heap[w.heap.size]? = some (.cells #[.int .i64 3, .string ({ data := #[74] } : ByteArray), .int .i64 11, va, vs] 25 (0, 0))) := hid ((Below.heap_alloc _ _ _ HLT3.out).trans HX3.out)
  have HR6 : Hid ((w3.alloc (.cells #[.string (bs [74]), .string (bs [74])] 9)).heap[w3.heap.size]? = some (.cells #[.string ({ data := #[74] } : ByteArray), .string ({ data := #[74] } : ByteArray)] 9 (0, 0))) := hid (heap_alloc_new _ _)
  obtain ⟨W5, hW5⟩ : ∃ W5, w3.alloc (.cells #[.string (bs [74]), .string (bs [74])] 9) = W5 := ⟨_, rfl⟩
  rw [hW5] at HMK HB5 HX5 HR6
  change w3.alloc (.cells #[.string ({ data := #[74] } : ByteArray), .string ({ data := #[74] } : ByteArray)] 9) = W5 at hW5
  have hp0 : W5.cell? ⟨w.heap.size, 0, none⟩ = some (.int .i64 3) := by rw [cell_of_row _ _ _ _ _ _ HX5.out]; rfl
  have hp1 : W5.cell? ⟨w.heap.size, 1, none⟩ = some (.string ({ data := #[74] } : ByteArray)) := by rw [cell_of_row _ _ _ _ _ _ HX5.out]; rfl
  have hp2 : W5.cell? ⟨w.heap.size, 2, none⟩ = some (.int .i64 11) := by rw [cell_of_row _ _ _ _ _ _ HX5.out]; rfl
  have hs1 : W5.cell? ⟨w3.heap.size, 1, none⟩ = some (.string ({ data := #[74] } : ByteArray)) := by rw [cell_of_row _ _ _ _ _ _ HR6.out]; rfl
  have fz1 : W5.frozen? ⟨w3.heap.size, 1, none⟩ = false := frozen_of_row _ _ _ _ _ HR6.out
  obtain ⟨W6, hW6⟩ : ∃ W6, W5.setCell ⟨w3.heap.size, 1, none⟩ (.string { data := #[73] }) = W6 := ⟨_, rfl⟩
  rw [hW6] at HMK
  have HB6 : Hid (Below w.heap.size w W6) := hid (hW6 ▸ HB5.out.setCell (p := ⟨w3.heap.size, 1, none⟩) HB3.out.size _)
  have HX6 : Hid (W6.heap[w.heap.size]? = some (.cells #[.int .i64 3, .string ({ data := #[74] } : ByteArray), .int .i64 11, va, vs] 25 (0, 0))) := hid (hW6 ▸ (Below.heap_setCell W5 ⟨w3.heap.size, 1, none⟩ _ _ (Nat.ne_of_lt HLT3.out)).trans HX5.out)
  have hr1 : W6.cell? ⟨w.heap.size, 1, none⟩ = some (.string ({ data := #[74] } : ByteArray)) := by rw [cell_of_row _ _ _ _ _ _ HX6.out]; rfl
  go_wp2_with fail
  refine HMK.out.mono ?_
  intro e w5 hmk
  obtain ⟨rfl, hb5⟩ := makeBy_good hmk (by decide)
  have HB9 : Hid (Below w.heap.size w w5) := hid (HB6.out.trans (hb5.mono HB6.out.size))
  clear hmk hb5
  go_wp2_with fail
  go_ret2
  exact told_ok HR.out HB9.out

theorem leElJ (a : Int) (va vs : Value) (w : World) (h1 : 1 ≤ a) (h2 : a ≤ 8) :
    Calls Tryd.prog 31 #[.agg #[.int .i64 3, .string ({ data := #[74] } : ByteArray), .int .i64 a, va, vs]] w (Go.Proofs.YtikkhjcocmihlaaDoor.mtypes.Told w (leafF 3 [74] a, leafS 3 [74] a)) := by
  have HF : Hid (leafF 3 [74] a = 0) := hid (by unfold leafF; rw [if_neg (by simp [isWd]; omega), if_neg (by simp)])
  have HS : Hid (leafS 3 [74] a = makeText [[74], [74]] [74]) := hid (by unfold leafS; rw [HF.out]; rw [if_pos rfl]; unfold leafT; rw [if_neg (by decide), if_neg (by omega), if_neg (by omega)]; rfl)
  have HR : Hid ((leafF 3 [74] a, leafS 3 [74] a) = (0, makeText [[74], [74]] [74])) := hid (by rw [HF.out, HS.out])
  have n1 : ¬ a < 1 := by omega
  have n2 : ¬ 12 < a := by omega
  have n3 : (a == 12) = false := by simp; omega
  have n4 : ¬ 9 ≤ a := by omega
  obtain ⟨X1, hX1⟩ : ∃ X1, w.alloc (.cells #[.int .i64 3, .string ({ data := #[74] } : ByteArray), .int .i64 a, va, vs] 25) = X1 := ⟨_, rfl⟩
  have HB1 : Hid (Below w.heap.size w X1) := hid (hX1 ▸ ext_alloc _ _)
  have HLT : Hid (w.heap.size < X1.heap.size) := hid (by rw [← hX1]; simp)
  have HXR : Hid (X1.heap[w.heap.size]? = some (.cells #[.int .i64 3, .string ({ data := #[74] } : ByteArray), .int .i64 a, va, vs] 25 (0, 0))) := hid (by rw [← hX1]; exact heap_alloc_new _ _)
  have hq0 : X1.cell? ⟨w.heap.size, 0, none⟩ = some (.int .i64 3) := by rw [cell_of_row _ _ _ _ _ _ HXR.out]; rfl
  have hq1 : X1.cell? ⟨w.heap.size, 1, none⟩ = some (.string ({ data := #[74] } : ByteArray)) := by rw [cell_of_row _ _ _ _ _ _ HXR.out]; rfl
  have hq2 : X1.cell? ⟨w.heap.size, 2, none⟩ = some (.int .i64 a) := by rw [cell_of_row _ _ _ _ _ _ HXR.out]; rfl
  have HW := hid (number_any ({ data := #[74] } : ByteArray))
  rw [show isWd ({ data := #[74] } : ByteArray).data.toList = true from rfl] at HW
  go_enter Tryd.func31, Tryd.ntmps31
  go_wp2_with fail
  refine (HW.out _).mono ?_
  rintro e w1 ⟨rfl, hww⟩
  obtain rfl := hww.symm
  go_wp2_with fail
  clear hq0 hq1 hq2
  refine wp_region_ext [] trivial (by kernel_rfl) (by kernel_rfl) ?_
  refine wpG_calc 1 rfl rfl rfl (fun u => by go_simp; rfl) ?_
  simp only [Act.put, List.setIfInBounds_toArray, List.set_cons_zero, List.set_cons_succ]
  refine wpG_read 2 rfl rfl (.int .i64 3) rfl ?_ ?_
  · intro u hu hh
    have hk : u.cell? ⟨w.heap.size, 0, none⟩ = some (.int .i64 3) := by rw [cell_of_row _ _ _ _ _ _ ((hu.block _ HLT.out).trans HXR.out)]; rfl
    go_simp
  simp only [Act.put, List.setIfInBounds_toArray, List.set_cons_zero, List.set_cons_succ]
  refine wpG_calc 3 rfl rfl rfl (fun u => by go_simp; rfl) ?_
  simp only [Act.put, List.setIfInBounds_toArray, List.set_cons_zero, List.set_cons_succ]
  refine wpG_calc 4 rfl rfl rfl (fun u => by go_simp; rfl) ?_
  simp only [Act.put, List.setIfInBounds_toArray, List.set_cons_zero, List.set_cons_succ]
  refine wpG_skip 5 rfl rfl ?_
  simp only [Act.put, List.setIfInBounds_toArray, List.set_cons_zero, List.set_cons_succ]
  refine wpG_skip 6 rfl rfl ?_
  simp only [Act.put, List.setIfInBounds_toArray, List.set_cons_zero, List.set_cons_succ]
  refine wpG_skip 7 rfl rfl ?_
  simp only [Act.put, List.setIfInBounds_toArray, List.set_cons_zero, List.set_cons_succ]
  refine wpG_calc 8 rfl rfl rfl (fun u => by go_simp; rfl) ?_
  simp only [Act.put, List.setIfInBounds_toArray, List.set_cons_zero, List.set_cons_succ]
  refine wpG_calc 9 rfl rfl rfl (fun u => by go_simp; rfl) ?_
  simp only [Act.put, List.setIfInBounds_toArray, List.set_cons_zero, List.set_cons_succ]
  refine wpG_skip 10 rfl rfl ?_
  simp only [Act.put, List.setIfInBounds_toArray, List.set_cons_zero, List.set_cons_succ]
  refine wpG_skip 11 rfl rfl ?_
  simp only [Act.put, List.setIfInBounds_toArray, List.set_cons_zero, List.set_cons_succ]
  refine wpG_skip 12 rfl rfl ?_
  simp only [Act.put, List.setIfInBounds_toArray, List.set_cons_zero, List.set_cons_succ]
  refine wpG_skip 13 rfl rfl ?_
  simp only [Act.put, List.setIfInBounds_toArray, List.set_cons_zero, List.set_cons_succ]
  refine wpG_skip 14 rfl rfl ?_
  simp only [Act.put, List.setIfInBounds_toArray, List.set_cons_zero, List.set_cons_succ]
  refine wpG_skip 15 rfl rfl ?_
  simp only [Act.put, List.setIfInBounds_toArray, List.set_cons_zero, List.set_cons_succ]
  refine wpG_calc 16 rfl rfl rfl (fun u => by go_simp; rfl) ?_
  simp only [Act.put, List.setIfInBounds_toArray, List.set_cons_zero, List.set_cons_succ]
  refine wpG_nil fun w3 hb3 hF => ?_
  clear hF
  have HB3 : Hid (Below w.heap.size w w3) := hid (HB1.out.trans (hb3.mono HB1.out.size))
  have HX3 : Hid (w3.heap[w.heap.size]? = some (.cells #[.int .i64 3, .string ({ data := #[74] } : ByteArray), .int .i64 a, va, vs] 25 (0, 0))) := hid ((hb3.block _ HLT.out).trans HXR.out)
  have HLT3 : Hid (w.heap.size < w3.heap.size) := hid (Nat.lt_of_lt_of_le HLT.out hb3.size)
  clear hb3
  have hk0 : w3.cell? ⟨w.heap.size, 0, none⟩ = some (.int .i64 3) := by rw [cell_of_row _ _ _ _ _ _ HX3.out]; rfl
  have hk1 : w3.cell? ⟨w.heap.size, 1, none⟩ = some (.string ({ data := #[74] } : ByteArray)) := by rw [cell_of_row _ _ _ _ _ _ HX3.out]; rfl
  have hk2 : w3.cell? ⟨w.heap.size, 2, none⟩ = some (.int .i64 a) := by rw [cell_of_row _ _ _ _ _ _ HX3.out]; rfl
  have HMK := hid (mk_two [74] w3 (by decide))
  have HB5 : Hid (Below w.heap.size w (w3.alloc (.cells #[.string (bs [74]), .string (bs [74])] 9))) := hid (HB3.out.alloc HB3.out.size _)
  have HX5 : Hid ((w3.alloc (.cells #[.string (bs [74]), .string (bs [74])] 9)).heap[w.heap.size]? = some (.cells #[.int .i64 3, .string ({ data := #[74] } : ByteArray), .int .i64 a, va, vs] 25 (0, 0))) := hid ((Below.heap_alloc _ _ _ HLT3.out).trans HX3.out)
  obtain ⟨W5, hW5⟩ : ∃ W5, w3.alloc (.cells #[.string (bs [74]), .string (bs [74])] 9) = W5 := ⟨_, rfl⟩
  rw [hW5] at HMK HB5 HX5
  change w3.alloc (.cells #[.string ({ data := #[74] } : ByteArray), .string ({ data := #[74] } : ByteArray)] 9) = W5 at hW5
  have hp0 : W5.cell? ⟨w.heap.size, 0, none⟩ = some (.int .i64 3) := by rw [cell_of_row _ _ _ _ _ _ HX5.out]; rfl
  have hp1 : W5.cell? ⟨w.heap.size, 1, none⟩ = some (.string ({ data := #[74] } : ByteArray)) := by rw [cell_of_row _ _ _ _ _ _ HX5.out]; rfl
  have hp2 : W5.cell? ⟨w.heap.size, 2, none⟩ = some (.int .i64 a) := by rw [cell_of_row _ _ _ _ _ _ HX5.out]; rfl
  go_wp2_with fail
  refine HMK.out.mono ?_
  intro e w5 hmk
  obtain ⟨rfl, hb5⟩ := makeBy_good hmk (by decide)
  have HB9 : Hid (Below w.heap.size w w5) := hid (HB5.out.trans (hb5.mono HB5.out.size))
  clear hmk hb5
  go_wp2_with fail
  go_ret2
  exact told_ok HR.out HB9.out

theorem leaf_any (k : Int) (t : ByteArray) (a : Int) (va vs : Value) (w : World) (hk : k = 1 ∨ k = 2 ∨ k = 3) :
    Calls Tryd.prog 31 #[.agg #[.int .i64 k, .string t, .int .i64 a, va, vs]] w (Go.Proofs.YtikkhjcocmihlaaDoor.mtypes.Told w (leafF k t.data.toList a, leafS k t.data.toList a)) := by
  cases hw : isWd t.data.toList with
  | false => exact leaf_bad k t a va vs w hw
  | true =>
    have h2 : t.data.toList = [73] ∨ t.data.toList = [74] := by unfold isWd at hw; simpa using hw
    rcases h2 with h2 | h2
    · obtain rfl : t = { data := #[73] } := bs_of h2
      rcases hk with rfl | rfl | rfl
      · by_cases h : -2147483648 ≤ a ∧ a ≤ 2147483647
        · exact le1I a va vs w h
        · exact le1O a va vs w h
      · exact le2I a va vs w
      · by_cases c1 : a < 1
        · exact leLoI a va vs w c1
        by_cases c2 : 12 < a
        · exact leHiI a va vs w c2
        by_cases c3 : a = 12
        · exact le12I a va vs w c3
        by_cases c4 : a = 9
        · exact le9I a va vs w c4
        by_cases c5 : a = 10
        · exact le10I a va vs w c5
        by_cases c6 : a = 11
        · exact le11I a va vs w c6
        exact leElI a va vs w (by omega) (by omega)
    · obtain rfl : t = { data := #[74] } := bs_of h2
      rcases hk with rfl | rfl | rfl
      · exact le1J a va vs w
      · exact le2J a va vs w
      · by_cases c1 : a < 1
        · exact leLoJ a va vs w c1
        by_cases c2 : 12 < a
        · exact leHiJ a va vs w c2
        by_cases c3 : a = 12
        · exact le12J a va vs w c3
        by_cases c4 : a = 9
        · exact le9J a va vs w c4
        by_cases c5 : a = 10
        · exact le10J a va vs w c5
        by_cases c6 : a = 11
        · exact le11J a va vs w c6
        exact leElJ a va vs w (by omega) (by omega)
end Go.Proofs.YtikkhjcocmihlaaDoor.hands
