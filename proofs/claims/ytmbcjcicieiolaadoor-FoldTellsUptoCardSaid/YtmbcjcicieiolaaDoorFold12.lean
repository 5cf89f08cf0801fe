/- Constants folded, as the document does it: FoldAt, of right code. Conditions: the code is right, its numbers are of 64 bits. -/
import Derived.Test.YtmbcjcicieiolaaDoorFold2
set_option linter.unusedSimpArgs false
set_option linter.unusedVariables false
namespace Go.Proofs.YtmbcjcicieiolaaDoor.folds
open Go.RowKit Go.Proofs.YtmbcjcicieiolaaDoor.lib Go.Proofs.YtmbcjcicieiolaaDoor.errs Go.Proofs.YtmbcjcicieiolaaDoor.names Go.Proofs.YtmbcjcicieiolaaDoor.descs Go.Proofs.YtmbcjcicieiolaaDoor.ins Go.Proofs.YtmbcjcicieiolaaDoor.flows Go.Proofs.YtmbcjcicieiolaaDoor.nums

set_option maxRecDepth 100000 in
set_option maxHeartbeats 4000000 in
theorem fa_nopush (l : List I) (i b off c : Nat) (w : World) (hc : Go.Proofs.YtmbcjcicieiolaaDoor.flows.Code w (.slice (some ⟨b, off, none⟩) l.length c) l) (h30 : l.length ≤ 2000000) (x : I) (hx : l[i]? = some x) (h2 : ¬ x.op = 2) :
    Calls Tryd.prog 27 #[.slice (some ⟨b, off, none⟩) l.length c, .int .i64 i] w fun e w' => e = .returned (.tuple #[(knownOf (l.drop i)).1.val, .int .i64 (knownOf (l.drop i)).2]) ∧ Below w.heap.size w w' := by
  have hi0 : (0 : Int) ≤ (i : Int) := by omega
  have hil0 : i < l.length := (List.getElem?_eq_some_iff.1 hx).1
  have hil : (i : Int) < (l.length : Int) := by omega
  have i7 : ((i : Int) + 1).toNat = i + 1 := by omega
  have i8 : IntKind.i64.wrap ((i : Int) + 1) = (i : Int) + 1 := by rw [IntKind.wrap_i64]; omega
  have HC := hid hc
  obtain ⟨X1, hX1⟩ : ∃ X1, w.alloc (.cells #[.int .i64 0, .int .i64 0, .int .i64 0, .string { data := #[] }, .string { data := #[] }, .string { data := #[] }] 37) = X1 := ⟨_, rfl⟩
  have HB1 : Hid (Below w.heap.size w X1) := hid (hX1 ▸ ext_alloc _ _)
  have HR1 : Hid (X1.heap[w.heap.size]? = some (.cells #[.int .i64 0, .int .i64 0, .int .i64 0, .string { data := #[] }, .string { data := #[] }, .string { data := #[] }] 37)) := hid (hX1 ▸ heap_alloc_last _ _)
  obtain ⟨xa0, xa1, xa2, xa3, xa4, xa5⟩ := at6 HC.out HB1.out hx
  have HQ : Hid (knownOf (l.drop i) = (noI, 0)) := hid (by
    obtain ⟨h1, rfl⟩ := List.getElem?_eq_some_iff.1 hx
    rw [List.drop_eq_getElem_cons h1]
    cases l.drop (i + 1) with
    | nil => rfl
    | cons y r => exact if_neg h2)
  have e2 : (x.op != 2) = true := by simpa using h2
  clear hx hc h2
  go_enter Tryd.func27, Tryd.ntmps27
  go_wp2_with (refine wpList_store_row rfl 37 (.tmp 4) (.tmp 28) rfl w.heap.size _ rfl rfl 37 _ HR1.out (by kernel_rfl) rfl (by simp [Value.oneCell']) ?_)
  refine bodyPost_ret (results_cell_at rfl _ _ w.heap.size _ _ _ _ rfl (setRow_heap _ _ _ _ _ _ HR1.out) Tryd.underlying37 rfl (by kernel_rfl)) rfl ?_
  rw [HQ.out]
  exact ⟨rfl, Go.Proofs.YtmbcjcicieiolaaDoor.lib.below_setRow HB1.out (Nat.le_refl _) _⟩

set_option maxRecDepth 100000 in
set_option maxHeartbeats 4000000 in
theorem fa_last (l : List I) (i b off c : Nat) (w : World) (hc : Go.Proofs.YtmbcjcicieiolaaDoor.flows.Code w (.slice (some ⟨b, off, none⟩) l.length c) l) (h30 : l.length ≤ 2000000) (x : I) (hx : l[i]? = some x) (h2 : x.op = 2) (hl : ¬ i + 1 < l.length) :
    Calls Tryd.prog 27 #[.slice (some ⟨b, off, none⟩) l.length c, .int .i64 i] w fun e w' => e = .returned (.tuple #[(knownOf (l.drop i)).1.val, .int .i64 (knownOf (l.drop i)).2]) ∧ Below w.heap.size w w' := by
  have hi0 : (0 : Int) ≤ (i : Int) := by omega
  have hil0 : i < l.length := (List.getElem?_eq_some_iff.1 hx).1
  have hil : (i : Int) < (l.length : Int) := by omega
  have i7 : ((i : Int) + 1).toNat = i + 1 := by omega
  have i8 : IntKind.i64.wrap ((i : Int) + 1) = (i : Int) + 1 := by rw [IntKind.wrap_i64]; omega
  have HC := hid hc
  obtain ⟨X1, hX1⟩ : ∃ X1, w.alloc (.cells #[.int .i64 0, .int .i64 0, .int .i64 0, .string { data := #[] }, .string { data := #[] }, .string { data := #[] }] 37) = X1 := ⟨_, rfl⟩
  have HB1 : Hid (Below w.heap.size w X1) := hid (hX1 ▸ ext_alloc _ _)
  have HR1 : Hid (X1.heap[w.heap.size]? = some (.cells #[.int .i64 0, .int .i64 0, .int .i64 0, .string { data := #[] }, .string { data := #[] }, .string { data := #[] }] 37)) := hid (hX1 ▸ heap_alloc_last _ _)
  obtain ⟨xa0, xa1, xa2, xa3, xa4, xa5⟩ := at6 HC.out HB1.out hx
  have HQ : Hid (knownOf (l.drop i) = (noI, 0)) := hid (by
    obtain ⟨h1, rfl⟩ := List.getElem?_eq_some_iff.1 hx
    rw [List.drop_eq_getElem_cons h1, List.drop_eq_nil_of_le (by omega)]; rfl)
  have e2 : (x.op != 2) = false := by rw [h2]; rfl
  have hge : (l.length : Int) ≤ (i : Int) + 1 := by omega
  clear hx hc h2 hl
  go_enter Tryd.func27, Tryd.ntmps27
  go_wp2_with (refine wpList_store_row rfl 37 (.tmp 4) (.tmp 28) rfl w.heap.size _ rfl rfl 37 _ HR1.out (by kernel_rfl) rfl (by simp [Value.oneCell']) ?_)
  refine bodyPost_ret (results_cell_at rfl _ _ w.heap.size _ _ _ _ rfl (setRow_heap _ _ _ _ _ _ HR1.out) Tryd.underlying37 rfl (by kernel_rfl)) rfl ?_
  rw [HQ.out]
  exact ⟨rfl, Go.Proofs.YtmbcjcicieiolaaDoor.lib.below_setRow HB1.out (Nat.le_refl _) _⟩

set_option maxRecDepth 100000 in
set_option maxHeartbeats 4000000 in
theorem fa_conv_same (l : List I) (i b off c : Nat) (w : World) (hc : Go.Proofs.YtmbcjcicieiolaaDoor.flows.Code w (.slice (some ⟨b, off, none⟩) l.length c) l) (h30 : l.length ≤ 2000000) (x y : I) (hx : l[i]? = some x) (hy : l[i + 1]? = some y) (h2 : x.op = 2) (c1 : y.op = 10) (ct : (x.t.toList == y.t.toList) = true) :
    Calls Tryd.prog 27 #[.slice (some ⟨b, off, none⟩) l.length c, .int .i64 i] w fun e w' => e = .returned (.tuple #[(knownOf (l.drop i)).1.val, .int .i64 (knownOf (l.drop i)).2]) ∧ Below w.heap.size w w' := by
  have hi0 : (0 : Int) ≤ (i : Int) := by omega
  have hil0 : i < l.length := (List.getElem?_eq_some_iff.1 hx).1
  have hil : (i : Int) < (l.length : Int) := by omega
  have i7 : ((i : Int) + 1).toNat = i + 1 := by omega
  have i8 : IntKind.i64.wrap ((i : Int) + 1) = (i : Int) + 1 := by rw [IntKind.wrap_i64]; omega
  have HC := hid hc
  obtain ⟨X1, hX1⟩ : ∃ X1, w.alloc (.cells #[.int .i64 0, .int .i64 0, .int .i64 0, .string { data := #[] }, .string { data := #[] }, .string { data := #[] }] 37) = X1 := ⟨_, rfl⟩
  have HB1 : Hid (Below w.heap.size w X1) := hid (hX1 ▸ ext_alloc _ _)
  have HR1 : Hid (X1.heap[w.heap.size]? = some (.cells #[.int .i64 0, .int .i64 0, .int .i64 0, .string { data := #[] }, .string { data := #[] }, .string { data := #[] }] 37)) := hid (hX1 ▸ heap_alloc_last _ _)
  obtain ⟨xa0, xa1, xa2, xa3, xa4, xa5⟩ := at6 HC.out HB1.out hx
  have e2 : (x.op != 2) = false := by rw [h2]; rfl
  have hil1 : i + 1 < l.length := (List.getElem?_eq_some_iff.1 hy).1
  have hil2 : (i : Int) + 1 < (l.length : Int) := by omega
  have hnge : ¬ (l.length : Int) ≤ (i : Int) + 1 := by omega
  obtain ⟨X2, hX2⟩ : ∃ X2, X1.alloc (.cells #[.int .i64 x.op, .int .i64 x.a, .int .i64 x.b, .string x.t, .string x.c, .string x.n] 37) = X2 := ⟨_, rfl⟩
  have hE2 : Below X1.heap.size X1 X2 := hX2 ▸ ext_alloc _ _
  have HB2 := hid (HB1.out.trans (hE2.mono HB1.out.size))
  have r2 : X2.heap[X1.heap.size]? = some (.cells #[.int .i64 x.op, .int .i64 x.a, .int .i64 x.b, .string x.t, .string x.c, .string x.n] 37) := hX2 ▸ heap_alloc_last _ _
  obtain ⟨ya0, ya1, ya2, ya3, ya4, ya5⟩ := at6 HC.out HB2.out hy
  obtain ⟨X3, hX3⟩ : ∃ X3, X2.alloc (.cells #[.int .i64 y.op, .int .i64 y.a, .int .i64 y.b, .string y.t, .string y.c, .string y.n] 37) = X3 := ⟨_, rfl⟩
  have hE3 : Below X2.heap.size X2 X3 := hX3 ▸ ext_alloc _ _
  have HB3 := hid (HB2.out.trans (hE3.mono HB2.out.size))
  have r3 : X3.heap[X1.heap.size]? = some (.cells #[.int .i64 x.op, .int .i64 x.a, .int .i64 x.b, .string x.t, .string x.c, .string x.n] 37) := (hE3.block _ (Array.getElem?_eq_some_iff.1 r2).1).trans r2
  have r4 : X3.heap[X2.heap.size]? = some (.cells #[.int .i64 y.op, .int .i64 y.a, .int .i64 y.b, .string y.t, .string y.c, .string y.n] 37) := hX3 ▸ heap_alloc_last _ _
  have HR3 : Hid (X3.heap[w.heap.size]? = some (.cells #[.int .i64 0, .int .i64 0, .int .i64 0, .string { data := #[] }, .string { data := #[] }, .string { data := #[] }] 37)) := hid ((hE3.block _ (Nat.lt_of_lt_of_le (Array.getElem?_eq_some_iff.1 HR1.out).1 hE2.size)).trans ((hE2.block _ (Array.getElem?_eq_some_iff.1 HR1.out).1).trans HR1.out))
  have p0 : X3.cell? ⟨X1.heap.size, 0, none⟩ = some (.int .i64 x.op) := by rw [cell_of_row _ _ _ _ _ _ r3]; rfl
  have p1 : X3.cell? ⟨X1.heap.size, 1, none⟩ = some (.int .i64 x.a) := by rw [cell_of_row _ _ _ _ _ _ r3]; rfl
  have p2 : X3.cell? ⟨X1.heap.size, 2, none⟩ = some (.int .i64 x.b) := by rw [cell_of_row _ _ _ _ _ _ r3]; rfl
  have p3 : X3.cell? ⟨X1.heap.size, 3, none⟩ = some (.string x.t) := by rw [cell_of_row _ _ _ _ _ _ r3]; rfl
  have p4 : X3.cell? ⟨X1.heap.size, 4, none⟩ = some (.string x.c) := by rw [cell_of_row _ _ _ _ _ _ r3]; rfl
  have p5 : X3.cell? ⟨X1.heap.size, 5, none⟩ = some (.string x.n) := by rw [cell_of_row _ _ _ _ _ _ r3]; rfl
  have q0 : X3.cell? ⟨X2.heap.size, 0, none⟩ = some (.int .i64 y.op) := by rw [cell_of_row _ _ _ _ _ _ r4]; rfl
  have q1 : X3.cell? ⟨X2.heap.size, 1, none⟩ = some (.int .i64 y.a) := by rw [cell_of_row _ _ _ _ _ _ r4]; rfl
  have q2 : X3.cell? ⟨X2.heap.size, 2, none⟩ = some (.int .i64 y.b) := by rw [cell_of_row _ _ _ _ _ _ r4]; rfl
  have q3 : X3.cell? ⟨X2.heap.size, 3, none⟩ = some (.string y.t) := by rw [cell_of_row _ _ _ _ _ _ r4]; rfl
  have q4 : X3.cell? ⟨X2.heap.size, 4, none⟩ = some (.string y.c) := by rw [cell_of_row _ _ _ _ _ _ r4]; rfl
  have q5 : X3.cell? ⟨X2.heap.size, 5, none⟩ = some (.string y.n) := by rw [cell_of_row _ _ _ _ _ _ r4]; rfl
  have HQ : Hid (knownOf (l.drop i) = (noI, 0)) := hid (by
    rw [drop_two hx hy]
    exact known_op (by omega) (by simp [two, convOf, negOf, c1, ct]))
  have d1 : (y.op == 10) = true := by rw [c1]; rfl
  have d2 : (y.op == 9) = false := by rw [c1]; rfl
  have d3 : (y.op != 2) = true := by rw [c1]; rfl
  have d4 : (x.t.toList != y.t.toList) = false := by simpa using ct
  clear hx hy hc r2 r3 r4 hE2 hE3 h2 c1
  go_enter Tryd.func27, Tryd.ntmps27
  go_wp2_with (refine wpList_store_row rfl 37 (.tmp 4) (.tmp 116) rfl w.heap.size _ rfl rfl 37 _ HR3.out (by kernel_rfl) rfl (by simp [Value.oneCell']) ?_)
  refine bodyPost_ret (results_cell_at rfl _ _ w.heap.size _ _ _ _ rfl (setRow_heap _ _ _ _ _ _ HR3.out) Tryd.underlying37 rfl (by kernel_rfl)) rfl ?_
  rw [HQ.out]
  exact ⟨rfl, Go.Proofs.YtmbcjcicieiolaaDoor.lib.below_setRow HB3.out (Nat.le_refl _) _⟩

set_option maxRecDepth 100000 in
set_option maxHeartbeats 4000000 in
theorem fa_conv_J (l : List I) (i b off c : Nat) (w : World) (hc : Go.Proofs.YtmbcjcicieiolaaDoor.flows.Code w (.slice (some ⟨b, off, none⟩) l.length c) l) (h30 : l.length ≤ 2000000) (x y : I) (hx : l[i]? = some x) (hy : l[i + 1]? = some y) (h2 : x.op = 2) (c1 : y.op = 10) (ct : (x.t.toList == y.t.toList) = false) (cw : (y.t.toList == [73]) = false) (ha : InR x.a) :
    Calls Tryd.prog 27 #[.slice (some ⟨b, off, none⟩) l.length c, .int .i64 i] w fun e w' => e = .returned (.tuple #[(knownOf (l.drop i)).1.val, .int .i64 (knownOf (l.drop i)).2]) ∧ Below w.heap.size w w' := by
  have hi0 : (0 : Int) ≤ (i : Int) := by omega
  have hil0 : i < l.length := (List.getElem?_eq_some_iff.1 hx).1
  have hil : (i : Int) < (l.length : Int) := by omega
  have i7 : ((i : Int) + 1).toNat = i + 1 := by omega
  have i8 : IntKind.i64.wrap ((i : Int) + 1) = (i : Int) + 1 := by rw [IntKind.wrap_i64]; omega
  have HC := hid hc
  obtain ⟨X1, hX1⟩ : ∃ X1, w.alloc (.cells #[.int .i64 0, .int .i64 0, .int .i64 0, .string { data := #[] }, .string { data := #[] }, .string { data := #[] }] 37) = X1 := ⟨_, rfl⟩
  have HB1 : Hid (Below w.heap.size w X1) := hid (hX1 ▸ ext_alloc _ _)
  have HR1 : Hid (X1.heap[w.heap.size]? = some (.cells #[.int .i64 0, .int .i64 0, .int .i64 0, .string { data := #[] }, .string { data := #[] }, .string { data := #[] }] 37)) := hid (hX1 ▸ heap_alloc_last _ _)
  obtain ⟨xa0, xa1, xa2, xa3, xa4, xa5⟩ := at6 HC.out HB1.out hx
  have e2 : (x.op != 2) = false := by rw [h2]; rfl
  have hil1 : i + 1 < l.length := (List.getElem?_eq_some_iff.1 hy).1
  have hil2 : (i : Int) + 1 < (l.length : Int) := by omega
  have hnge : ¬ (l.length : Int) ≤ (i : Int) + 1 := by omega
  obtain ⟨X2, hX2⟩ : ∃ X2, X1.alloc (.cells #[.int .i64 x.op, .int .i64 x.a, .int .i64 x.b, .string x.t, .string x.c, .string x.n] 37) = X2 := ⟨_, rfl⟩
  have hE2 : Below X1.heap.size X1 X2 := hX2 ▸ ext_alloc _ _
  have HB2 := hid (HB1.out.trans (hE2.mono HB1.out.size))
  have r2 : X2.heap[X1.heap.size]? = some (.cells #[.int .i64 x.op, .int .i64 x.a, .int .i64 x.b, .string x.t, .string x.c, .string x.n] 37) := hX2 ▸ heap_alloc_last _ _
  obtain ⟨ya0, ya1, ya2, ya3, ya4, ya5⟩ := at6 HC.out HB2.out hy
  obtain ⟨X3, hX3⟩ : ∃ X3, X2.alloc (.cells #[.int .i64 y.op, .int .i64 y.a, .int .i64 y.b, .string y.t, .string y.c, .string y.n] 37) = X3 := ⟨_, rfl⟩
  have hE3 : Below X2.heap.size X2 X3 := hX3 ▸ ext_alloc _ _
  have HB3 := hid (HB2.out.trans (hE3.mono HB2.out.size))
  have r3 : X3.heap[X1.heap.size]? = some (.cells #[.int .i64 x.op, .int .i64 x.a, .int .i64 x.b, .string x.t, .string x.c, .string x.n] 37) := (hE3.block _ (Array.getElem?_eq_some_iff.1 r2).1).trans r2
  have r4 : X3.heap[X2.heap.size]? = some (.cells #[.int .i64 y.op, .int .i64 y.a, .int .i64 y.b, .string y.t, .string y.c, .string y.n] 37) := hX3 ▸ heap_alloc_last _ _
  have HR3 : Hid (X3.heap[w.heap.size]? = some (.cells #[.int .i64 0, .int .i64 0, .int .i64 0, .string { data := #[] }, .string { data := #[] }, .string { data := #[] }] 37)) := hid ((hE3.block _ (Nat.lt_of_lt_of_le (Array.getElem?_eq_some_iff.1 HR1.out).1 hE2.size)).trans ((hE2.block _ (Array.getElem?_eq_some_iff.1 HR1.out).1).trans HR1.out))
  have p0 : X3.cell? ⟨X1.heap.size, 0, none⟩ = some (.int .i64 x.op) := by rw [cell_of_row _ _ _ _ _ _ r3]; rfl
  have p1 : X3.cell? ⟨X1.heap.size, 1, none⟩ = some (.int .i64 x.a) := by rw [cell_of_row _ _ _ _ _ _ r3]; rfl
  have p2 : X3.cell? ⟨X1.heap.size, 2, none⟩ = some (.int .i64 x.b) := by rw [cell_of_row _ _ _ _ _ _ r3]; rfl
  have p3 : X3.cell? ⟨X1.heap.size, 3, none⟩ = some (.string x.t) := by rw [cell_of_row _ _ _ _ _ _ r3]; rfl
  have p4 : X3.cell? ⟨X1.heap.size, 4, none⟩ = some (.string x.c) := by rw [cell_of_row _ _ _ _ _ _ r3]; rfl
  have p5 : X3.cell? ⟨X1.heap.size, 5, none⟩ = some (.string x.n) := by rw [cell_of_row _ _ _ _ _ _ r3]; rfl
  have q0 : X3.cell? ⟨X2.heap.size, 0, none⟩ = some (.int .i64 y.op) := by rw [cell_of_row _ _ _ _ _ _ r4]; rfl
  have q1 : X3.cell? ⟨X2.heap.size, 1, none⟩ = some (.int .i64 y.a) := by rw [cell_of_row _ _ _ _ _ _ r4]; rfl
  have q2 : X3.cell? ⟨X2.heap.size, 2, none⟩ = some (.int .i64 y.b) := by rw [cell_of_row _ _ _ _ _ _ r4]; rfl
  have q3 : X3.cell? ⟨X2.heap.size, 3, none⟩ = some (.string y.t) := by rw [cell_of_row _ _ _ _ _ _ r4]; rfl
  have q4 : X3.cell? ⟨X2.heap.size, 4, none⟩ = some (.string y.c) := by rw [cell_of_row _ _ _ _ _ _ r4]; rfl
  have q5 : X3.cell? ⟨X2.heap.size, 5, none⟩ = some (.string y.n) := by rw [cell_of_row _ _ _ _ _ _ r4]; rfl
  have HQ : Hid (knownOf (l.drop i) = (made (x.a) y.t, 2)) := hid (by
    rw [drop_two hx hy]
    refine known_two h2 ?_
    have cw' : ¬ y.t.toList = [73] := by simpa using cw
    unfold two; rw [if_pos (by unfold convOf; rw [c1, ct]; rfl), if_neg cw'])
  have d1 : (y.op == 10) = true := by rw [c1]; rfl
  have d4 : (x.t.toList != y.t.toList) = true := by simpa using ct
  have HA := hid ha
  clear hx hy hc r2 r3 r4 hE2 hE3 h2 c1 ha
  go_enter Tryd.func27, Tryd.ntmps27
  go_wp2_with (refine wpList_store_row rfl 37 (.tmp 4) (.tmp 58) rfl w.heap.size _ rfl rfl 37 _ HR3.out (by kernel_rfl) rfl (by simp [Value.oneCell']) ?_)
  refine bodyPost_ret (results_cell_at rfl _ _ w.heap.size _ _ _ _ rfl (setRow_heap _ _ _ _ _ _ HR3.out) Tryd.underlying37 rfl (by kernel_rfl)) rfl ?_
  rw [HQ.out]
  exact ⟨rfl, Go.Proofs.YtmbcjcicieiolaaDoor.lib.below_setRow HB3.out (Nat.le_refl _) _⟩

set_option maxRecDepth 100000 in
set_option maxHeartbeats 4000000 in
theorem fa_conv_I (l : List I) (i b off c : Nat) (w : World) (hc : Go.Proofs.YtmbcjcicieiolaaDoor.flows.Code w (.slice (some ⟨b, off, none⟩) l.length c) l) (h30 : l.length ≤ 2000000) (x y : I) (hx : l[i]? = some x) (hy : l[i + 1]? = some y) (h2 : x.op = 2) (c1 : y.op = 10) (ct : (x.t.toList == y.t.toList) = false) (cw : (y.t.toList == [73]) = true) (ha : InR x.a) :
    Calls Tryd.prog 27 #[.slice (some ⟨b, off, none⟩) l.length c, .int .i64 i] w fun e w' => e = .returned (.tuple #[(knownOf (l.drop i)).1.val, .int .i64 (knownOf (l.drop i)).2]) ∧ Below w.heap.size w w' := by
  have hi0 : (0 : Int) ≤ (i : Int) := by omega
  have hil0 : i < l.length := (List.getElem?_eq_some_iff.1 hx).1
  have hil : (i : Int) < (l.length : Int) := by omega
  have i7 : ((i : Int) + 1).toNat = i + 1 := by omega
  have i8 : IntKind.i64.wrap ((i : Int) + 1) = (i : Int) + 1 := by rw [IntKind.wrap_i64]; omega
  have HC := hid hc
  obtain ⟨X1, hX1⟩ : ∃ X1, w.alloc (.cells #[.int .i64 0, .int .i64 0, .int .i64 0, .string { data := #[] }, .string { data := #[] }, .string { data := #[] }] 37) = X1 := ⟨_, rfl⟩
  have HB1 : Hid (Below w.heap.size w X1) := hid (hX1 ▸ ext_alloc _ _)
  have HR1 : Hid (X1.heap[w.heap.size]? = some (.cells #[.int .i64 0, .int .i64 0, .int .i64 0, .string { data := #[] }, .string { data := #[] }, .string { data := #[] }] 37)) := hid (hX1 ▸ heap_alloc_last _ _)
  obtain ⟨xa0, xa1, xa2, xa3, xa4, xa5⟩ := at6 HC.out HB1.out hx
  have e2 : (x.op != 2) = false := by rw [h2]; rfl
  have hil1 : i + 1 < l.length := (List.getElem?_eq_some_iff.1 hy).1
  have hil2 : (i : Int) + 1 < (l.length : Int) := by omega
  have hnge : ¬ (l.length : Int) ≤ (i : Int) + 1 := by omega
  obtain ⟨X2, hX2⟩ : ∃ X2, X1.alloc (.cells #[.int .i64 x.op, .int .i64 x.a, .int .i64 x.b, .string x.t, .string x.c, .string x.n] 37) = X2 := ⟨_, rfl⟩
  have hE2 : Below X1.heap.size X1 X2 := hX2 ▸ ext_alloc _ _
  have HB2 := hid (HB1.out.trans (hE2.mono HB1.out.size))
  have r2 : X2.heap[X1.heap.size]? = some (.cells #[.int .i64 x.op, .int .i64 x.a, .int .i64 x.b, .string x.t, .string x.c, .string x.n] 37) := hX2 ▸ heap_alloc_last _ _
  obtain ⟨ya0, ya1, ya2, ya3, ya4, ya5⟩ := at6 HC.out HB2.out hy
  obtain ⟨X3, hX3⟩ : ∃ X3, X2.alloc (.cells #[.int .i64 y.op, .int .i64 y.a, .int .i64 y.b, .string y.t, .string y.c, .string y.n] 37) = X3 := ⟨_, rfl⟩
  have hE3 : Below X2.heap.size X2 X3 := hX3 ▸ ext_alloc _ _
  have HB3 := hid (HB2.out.trans (hE3.mono HB2.out.size))
  have r3 : X3.heap[X1.heap.size]? = some (.cells #[.int .i64 x.op, .int .i64 x.a, .int .i64 x.b, .string x.t, .string x.c, .string x.n] 37) := (hE3.block _ (Array.getElem?_eq_some_iff.1 r2).1).trans r2
  have r4 : X3.heap[X2.heap.size]? = some (.cells #[.int .i64 y.op, .int .i64 y.a, .int .i64 y.b, .string y.t, .string y.c, .string y.n] 37) := hX3 ▸ heap_alloc_last _ _
  have HR3 : Hid (X3.heap[w.heap.size]? = some (.cells #[.int .i64 0, .int .i64 0, .int .i64 0, .string { data := #[] }, .string { data := #[] }, .string { data := #[] }] 37)) := hid ((hE3.block _ (Nat.lt_of_lt_of_le (Array.getElem?_eq_some_iff.1 HR1.out).1 hE2.size)).trans ((hE2.block _ (Array.getElem?_eq_some_iff.1 HR1.out).1).trans HR1.out))
  have p0 : X3.cell? ⟨X1.heap.size, 0, none⟩ = some (.int .i64 x.op) := by rw [cell_of_row _ _ _ _ _ _ r3]; rfl
  have p1 : X3.cell? ⟨X1.heap.size, 1, none⟩ = some (.int .i64 x.a) := by rw [cell_of_row _ _ _ _ _ _ r3]; rfl
  have p2 : X3.cell? ⟨X1.heap.size, 2, none⟩ = some (.int .i64 x.b) := by rw [cell_of_row _ _ _ _ _ _ r3]; rfl
  have p3 : X3.cell? ⟨X1.heap.size, 3, none⟩ = some (.string x.t) := by rw [cell_of_row _ _ _ _ _ _ r3]; rfl
  have p4 : X3.cell? ⟨X1.heap.size, 4, none⟩ = some (.string x.c) := by rw [cell_of_row _ _ _ _ _ _ r3]; rfl
  have p5 : X3.cell? ⟨X1.heap.size, 5, none⟩ = some (.string x.n) := by rw [cell_of_row _ _ _ _ _ _ r3]; rfl
  have q0 : X3.cell? ⟨X2.heap.size, 0, none⟩ = some (.int .i64 y.op) := by rw [cell_of_row _ _ _ _ _ _ r4]; rfl
  have q1 : X3.cell? ⟨X2.heap.size, 1, none⟩ = some (.int .i64 y.a) := by rw [cell_of_row _ _ _ _ _ _ r4]; rfl
  have q2 : X3.cell? ⟨X2.heap.size, 2, none⟩ = some (.int .i64 y.b) := by rw [cell_of_row _ _ _ _ _ _ r4]; rfl
  have q3 : X3.cell? ⟨X2.heap.size, 3, none⟩ = some (.string y.t) := by rw [cell_of_row _ _ _ _ _ _ r4]; rfl
  have q4 : X3.cell? ⟨X2.heap.size, 4, none⟩ = some (.string y.c) := by rw [cell_of_row _ _ _ _ _ _ r4]; rfl
  have q5 : X3.cell? ⟨X2.heap.size, 5, none⟩ = some (.string y.n) := by rw [cell_of_row _ _ _ _ _ _ r4]; rfl
  have HQ : Hid (knownOf (l.drop i) = (made (wrap32 x.a) y.t, 2)) := hid (by
    rw [drop_two hx hy]
    refine known_two h2 ?_
    have cw' : y.t.toList = [73] := by simpa using cw
    unfold two; rw [if_pos (by unfold convOf; rw [c1, ct]; rfl), if_pos cw'])
  have d1 : (y.op == 10) = true := by rw [c1]; rfl
  have d4 : (x.t.toList != y.t.toList) = true := by simpa using ct
  have HA := hid ha
  clear hx hy hc r2 r3 r4 hE2 hE3 h2 c1 ha
  go_enter Tryd.func27, Tryd.ntmps27
  go_wp2_with fail
  refine (wrap_any _ _ HA.out).mono ?_
  rintro e w2 ⟨rfl, hww⟩
  obtain rfl := hww.symm
  go_wp2_with (refine wpList_store_row rfl 37 (.tmp 4) (.tmp 58) rfl w.heap.size _ rfl rfl 37 _ HR3.out (by kernel_rfl) rfl (by simp [Value.oneCell']) ?_)
  refine bodyPost_ret (results_cell_at rfl _ _ w.heap.size _ _ _ _ rfl (setRow_heap _ _ _ _ _ _ HR3.out) Tryd.underlying37 rfl (by kernel_rfl)) rfl ?_
  rw [HQ.out]
  exact ⟨rfl, Go.Proofs.YtmbcjcicieiolaaDoor.lib.below_setRow HB3.out (Nat.le_refl _) _⟩

set_option maxRecDepth 100000 in
set_option maxHeartbeats 4000000 in
theorem fa_neg (l : List I) (i b off c : Nat) (w : World) (hc : Go.Proofs.YtmbcjcicieiolaaDoor.flows.Code w (.slice (some ⟨b, off, none⟩) l.length c) l) (h30 : l.length ≤ 2000000) (x y : I) (hx : l[i]? = some x) (hy : l[i + 1]? = some y) (h2 : x.op = 2) (c1 : y.op = 9) (c2 : y.a = 12) (ct : (x.t.toList == y.t.toList) = true) (hX : Sound x) (hY : Sound y) :
    Calls Tryd.prog 27 #[.slice (some ⟨b, off, none⟩) l.length c, .int .i64 i] w fun e w' => e = .returned (.tuple #[(knownOf (l.drop i)).1.val, .int .i64 (knownOf (l.drop i)).2]) ∧ Below w.heap.size w w' := by
  have hi0 : (0 : Int) ≤ (i : Int) := by omega
  have hil0 : i < l.length := (List.getElem?_eq_some_iff.1 hx).1
  have hil : (i : Int) < (l.length : Int) := by omega
  have i7 : ((i : Int) + 1).toNat = i + 1 := by omega
  have i8 : IntKind.i64.wrap ((i : Int) + 1) = (i : Int) + 1 := by rw [IntKind.wrap_i64]; omega
  have HC := hid hc
  obtain ⟨X1, hX1⟩ : ∃ X1, w.alloc (.cells #[.int .i64 0, .int .i64 0, .int .i64 0, .string { data := #[] }, .string { data := #[] }, .string { data := #[] }] 37) = X1 := ⟨_, rfl⟩
  have HB1 : Hid (Below w.heap.size w X1) := hid (hX1 ▸ ext_alloc _ _)
  have HR1 : Hid (X1.heap[w.heap.size]? = some (.cells #[.int .i64 0, .int .i64 0, .int .i64 0, .string { data := #[] }, .string { data := #[] }, .string { data := #[] }] 37)) := hid (hX1 ▸ heap_alloc_last _ _)
  obtain ⟨xa0, xa1, xa2, xa3, xa4, xa5⟩ := at6 HC.out HB1.out hx
  have e2 : (x.op != 2) = false := by rw [h2]; rfl
  have hil1 : i + 1 < l.length := (List.getElem?_eq_some_iff.1 hy).1
  have hil2 : (i : Int) + 1 < (l.length : Int) := by omega
  have hnge : ¬ (l.length : Int) ≤ (i : Int) + 1 := by omega
  obtain ⟨X2, hX2⟩ : ∃ X2, X1.alloc (.cells #[.int .i64 x.op, .int .i64 x.a, .int .i64 x.b, .string x.t, .string x.c, .string x.n] 37) = X2 := ⟨_, rfl⟩
  have hE2 : Below X1.heap.size X1 X2 := hX2 ▸ ext_alloc _ _
  have HB2 := hid (HB1.out.trans (hE2.mono HB1.out.size))
  have r2 : X2.heap[X1.heap.size]? = some (.cells #[.int .i64 x.op, .int .i64 x.a, .int .i64 x.b, .string x.t, .string x.c, .string x.n] 37) := hX2 ▸ heap_alloc_last _ _
  obtain ⟨ya0, ya1, ya2, ya3, ya4, ya5⟩ := at6 HC.out HB2.out hy
  obtain ⟨X3, hX3⟩ : ∃ X3, X2.alloc (.cells #[.int .i64 y.op, .int .i64 y.a, .int .i64 y.b, .string y.t, .string y.c, .string y.n] 37) = X3 := ⟨_, rfl⟩
  have hE3 : Below X2.heap.size X2 X3 := hX3 ▸ ext_alloc _ _
  have HB3 := hid (HB2.out.trans (hE3.mono HB2.out.size))
  have r3 : X3.heap[X1.heap.size]? = some (.cells #[.int .i64 x.op, .int .i64 x.a, .int .i64 x.b, .string x.t, .string x.c, .string x.n] 37) := (hE3.block _ (Array.getElem?_eq_some_iff.1 r2).1).trans r2
  have r4 : X3.heap[X2.heap.size]? = some (.cells #[.int .i64 y.op, .int .i64 y.a, .int .i64 y.b, .string y.t, .string y.c, .string y.n] 37) := hX3 ▸ heap_alloc_last _ _
  have HR3 : Hid (X3.heap[w.heap.size]? = some (.cells #[.int .i64 0, .int .i64 0, .int .i64 0, .string { data := #[] }, .string { data := #[] }, .string { data := #[] }] 37)) := hid ((hE3.block _ (Nat.lt_of_lt_of_le (Array.getElem?_eq_some_iff.1 HR1.out).1 hE2.size)).trans ((hE2.block _ (Array.getElem?_eq_some_iff.1 HR1.out).1).trans HR1.out))
  have p0 : X3.cell? ⟨X1.heap.size, 0, none⟩ = some (.int .i64 x.op) := by rw [cell_of_row _ _ _ _ _ _ r3]; rfl
  have p1 : X3.cell? ⟨X1.heap.size, 1, none⟩ = some (.int .i64 x.a) := by rw [cell_of_row _ _ _ _ _ _ r3]; rfl
  have p2 : X3.cell? ⟨X1.heap.size, 2, none⟩ = some (.int .i64 x.b) := by rw [cell_of_row _ _ _ _ _ _ r3]; rfl
  have p3 : X3.cell? ⟨X1.heap.size, 3, none⟩ = some (.string x.t) := by rw [cell_of_row _ _ _ _ _ _ r3]; rfl
  have p4 : X3.cell? ⟨X1.heap.size, 4, none⟩ = some (.string x.c) := by rw [cell_of_row _ _ _ _ _ _ r3]; rfl
  have p5 : X3.cell? ⟨X1.heap.size, 5, none⟩ = some (.string x.n) := by rw [cell_of_row _ _ _ _ _ _ r3]; rfl
  have q0 : X3.cell? ⟨X2.heap.size, 0, none⟩ = some (.int .i64 y.op) := by rw [cell_of_row _ _ _ _ _ _ r4]; rfl
  have q1 : X3.cell? ⟨X2.heap.size, 1, none⟩ = some (.int .i64 y.a) := by rw [cell_of_row _ _ _ _ _ _ r4]; rfl
  have q2 : X3.cell? ⟨X2.heap.size, 2, none⟩ = some (.int .i64 y.b) := by rw [cell_of_row _ _ _ _ _ _ r4]; rfl
  have q3 : X3.cell? ⟨X2.heap.size, 3, none⟩ = some (.string y.t) := by rw [cell_of_row _ _ _ _ _ _ r4]; rfl
  have q4 : X3.cell? ⟨X2.heap.size, 4, none⟩ = some (.string y.c) := by rw [cell_of_row _ _ _ _ _ _ r4]; rfl
  have q5 : X3.cell? ⟨X2.heap.size, 5, none⟩ = some (.string y.n) := by rw [cell_of_row _ _ _ _ _ _ r4]; rfl
  obtain ⟨⟨m, ok⟩, hM⟩ : ∃ R, ofOf y.t.data.toList 12 x.a 0 = R := ⟨_, rfl⟩
  have HQ : Hid (knownOf (l.drop i) = (made m y.t, 2)) := hid (by
    rw [drop_two hx hy]
    refine known_two h2 ?_
    unfold two; rw [if_neg (by simp [convOf, c1]), if_pos (by unfold negOf pushOf; rw [c1, c2, h2, ct]; rfl), c2, hM])
  have HM := hid (rmath_any y.t 12 x.a 0)
  rw [hM] at HM
  have HT := hid (hY.1 (.inl c1))
  have HA := hid hX.2.2.1
  have HI : Hid (y.t.data.toList = [74] ∨ -2147483648 ≤ x.a ∧ x.a ≤ 2147483647) := hid (by
    rcases HT.out with h | h
    · exact .inr (hX.2.2.2 h2 (by have : x.t.toList = y.t.toList := by simpa using ct
                                  rw [ByteArray.toList_eq, ByteArray.toList_eq] at this; rw [this]; exact h))
    · exact .inl h)
  have d1 : (y.op == 10) = false := by rw [c1]; rfl
  have d2 : (y.op == 9) = true := by rw [c1]; rfl
  have d5 : (y.a == 12) = true := by rw [c2]; rfl
  have HC2 := hid c2
  rw [c2] at q1
  clear hx hy hc r2 r3 r4 hE2 hE3 h2 c1 c2 hX hY hM
  go_enter Tryd.func27, Tryd.ntmps27
  go_wp2_with fail
  refine (HM.out _ HT.out (by omega) HA.out (by unfold InR; omega)).mono ?_
  rintro e w2 ⟨n, rfl, hn, hww⟩
  obtain rfl := hww.symm
  obtain rfl : n = m := hn HI.out
  go_wp2_with (refine wpList_store_row rfl 37 (.tmp 4) (.tmp 87) rfl w.heap.size _ rfl rfl 37 _ HR3.out (by kernel_rfl) rfl (by simp [Value.oneCell']) ?_)
  refine bodyPost_ret (results_cell_at rfl _ _ w.heap.size _ _ _ _ rfl (setRow_heap _ _ _ _ _ _ HR3.out) Tryd.underlying37 rfl (by kernel_rfl)) rfl ?_
  rw [HQ.out]
  exact ⟨rfl, Go.Proofs.YtmbcjcicieiolaaDoor.lib.below_setRow HB3.out (Nat.le_refl _) _⟩

set_option maxRecDepth 100000 in
set_option maxHeartbeats 4000000 in
theorem fa_neg_other (l : List I) (i b off c : Nat) (w : World) (hc : Go.Proofs.YtmbcjcicieiolaaDoor.flows.Code w (.slice (some ⟨b, off, none⟩) l.length c) l) (h30 : l.length ≤ 2000000) (x y : I) (hx : l[i]? = some x) (hy : l[i + 1]? = some y) (h2 : x.op = 2) (c1 : y.op = 9) (c2 : y.a = 12) (ct : (x.t.toList == y.t.toList) = false) :
    Calls Tryd.prog 27 #[.slice (some ⟨b, off, none⟩) l.length c, .int .i64 i] w fun e w' => e = .returned (.tuple #[(knownOf (l.drop i)).1.val, .int .i64 (knownOf (l.drop i)).2]) ∧ Below w.heap.size w w' := by
  have hi0 : (0 : Int) ≤ (i : Int) := by omega
  have hil0 : i < l.length := (List.getElem?_eq_some_iff.1 hx).1
  have hil : (i : Int) < (l.length : Int) := by omega
  have i7 : ((i : Int) + 1).toNat = i + 1 := by omega
  have i8 : IntKind.i64.wrap ((i : Int) + 1) = (i : Int) + 1 := by rw [IntKind.wrap_i64]; omega
  have HC := hid hc
  obtain ⟨X1, hX1⟩ : ∃ X1, w.alloc (.cells #[.int .i64 0, .int .i64 0, .int .i64 0, .string { data := #[] }, .string { data := #[] }, .string { data := #[] }] 37) = X1 := ⟨_, rfl⟩
  have HB1 : Hid (Below w.heap.size w X1) := hid (hX1 ▸ ext_alloc _ _)
  have HR1 : Hid (X1.heap[w.heap.size]? = some (.cells #[.int .i64 0, .int .i64 0, .int .i64 0, .string { data := #[] }, .string { data := #[] }, .string { data := #[] }] 37)) := hid (hX1 ▸ heap_alloc_last _ _)
  obtain ⟨xa0, xa1, xa2, xa3, xa4, xa5⟩ := at6 HC.out HB1.out hx
  have e2 : (x.op != 2) = false := by rw [h2]; rfl
  have hil1 : i + 1 < l.length := (List.getElem?_eq_some_iff.1 hy).1
  have hil2 : (i : Int) + 1 < (l.length : Int) := by omega
  have hnge : ¬ (l.length : Int) ≤ (i : Int) + 1 := by omega
  obtain ⟨X2, hX2⟩ : ∃ X2, X1.alloc (.cells #[.int .i64 x.op, .int .i64 x.a, .int .i64 x.b, .string x.t, .string x.c, .string x.n] 37) = X2 := ⟨_, rfl⟩
  have hE2 : Below X1.heap.size X1 X2 := hX2 ▸ ext_alloc _ _
  have HB2 := hid (HB1.out.trans (hE2.mono HB1.out.size))
  have r2 : X2.heap[X1.heap.size]? = some (.cells #[.int .i64 x.op, .int .i64 x.a, .int .i64 x.b, .string x.t, .string x.c, .string x.n] 37) := hX2 ▸ heap_alloc_last _ _
  obtain ⟨ya0, ya1, ya2, ya3, ya4, ya5⟩ := at6 HC.out HB2.out hy
  obtain ⟨X3, hX3⟩ : ∃ X3, X2.alloc (.cells #[.int .i64 y.op, .int .i64 y.a, .int .i64 y.b, .string y.t, .string y.c, .string y.n] 37) = X3 := ⟨_, rfl⟩
  have hE3 : Below X2.heap.size X2 X3 := hX3 ▸ ext_alloc _ _
  have HB3 := hid (HB2.out.trans (hE3.mono HB2.out.size))
  have r3 : X3.heap[X1.heap.size]? = some (.cells #[.int .i64 x.op, .int .i64 x.a, .int .i64 x.b, .string x.t, .string x.c, .string x.n] 37) := (hE3.block _ (Array.getElem?_eq_some_iff.1 r2).1).trans r2
  have r4 : X3.heap[X2.heap.size]? = some (.cells #[.int .i64 y.op, .int .i64 y.a, .int .i64 y.b, .string y.t, .string y.c, .string y.n] 37) := hX3 ▸ heap_alloc_last _ _
  have HR3 : Hid (X3.heap[w.heap.size]? = some (.cells #[.int .i64 0, .int .i64 0, .int .i64 0, .string { data := #[] }, .string { data := #[] }, .string { data := #[] }] 37)) := hid ((hE3.block _ (Nat.lt_of_lt_of_le (Array.getElem?_eq_some_iff.1 HR1.out).1 hE2.size)).trans ((hE2.block _ (Array.getElem?_eq_some_iff.1 HR1.out).1).trans HR1.out))
  have p0 : X3.cell? ⟨X1.heap.size, 0, none⟩ = some (.int .i64 x.op) := by rw [cell_of_row _ _ _ _ _ _ r3]; rfl
  have p1 : X3.cell? ⟨X1.heap.size, 1, none⟩ = some (.int .i64 x.a) := by rw [cell_of_row _ _ _ _ _ _ r3]; rfl
  have p2 : X3.cell? ⟨X1.heap.size, 2, none⟩ = some (.int .i64 x.b) := by rw [cell_of_row _ _ _ _ _ _ r3]; rfl
  have p3 : X3.cell? ⟨X1.heap.size, 3, none⟩ = some (.string x.t) := by rw [cell_of_row _ _ _ _ _ _ r3]; rfl
  have p4 : X3.cell? ⟨X1.heap.size, 4, none⟩ = some (.string x.c) := by rw [cell_of_row _ _ _ _ _ _ r3]; rfl
  have p5 : X3.cell? ⟨X1.heap.size, 5, none⟩ = some (.string x.n) := by rw [cell_of_row _ _ _ _ _ _ r3]; rfl
  have q0 : X3.cell? ⟨X2.heap.size, 0, none⟩ = some (.int .i64 y.op) := by rw [cell_of_row _ _ _ _ _ _ r4]; rfl
  have q1 : X3.cell? ⟨X2.heap.size, 1, none⟩ = some (.int .i64 y.a) := by rw [cell_of_row _ _ _ _ _ _ r4]; rfl
  have q2 : X3.cell? ⟨X2.heap.size, 2, none⟩ = some (.int .i64 y.b) := by rw [cell_of_row _ _ _ _ _ _ r4]; rfl
  have q3 : X3.cell? ⟨X2.heap.size, 3, none⟩ = some (.string y.t) := by rw [cell_of_row _ _ _ _ _ _ r4]; rfl
  have q4 : X3.cell? ⟨X2.heap.size, 4, none⟩ = some (.string y.c) := by rw [cell_of_row _ _ _ _ _ _ r4]; rfl
  have q5 : X3.cell? ⟨X2.heap.size, 5, none⟩ = some (.string y.n) := by rw [cell_of_row _ _ _ _ _ _ r4]; rfl
  have HQ : Hid (knownOf (l.drop i) = (noI, 0)) := hid (by
    rw [drop_two hx hy]
    exact known_op (by omega) (by simp [two, convOf, negOf, pushOf, c1, c2, ct, h2]))
  have d1 : (y.op == 10) = false := by rw [c1]; rfl
  have d2 : (y.op == 9) = true := by rw [c1]; rfl
  have d3 : (y.op != 2) = true := by rw [c1]; rfl
  have d5 : (y.a == 12) = true := by rw [c2]; rfl
  have d6 : (x.t.toList == y.t.toList) = false := by exact ct
  clear hx hy hc r2 r3 r4 hE2 hE3 h2 c1 c2
  go_enter Tryd.func27, Tryd.ntmps27
  go_wp2_with (refine wpList_store_row rfl 37 (.tmp 4) (.tmp 116) rfl w.heap.size _ rfl rfl 37 _ HR3.out (by kernel_rfl) rfl (by simp [Value.oneCell']) ?_)
  refine bodyPost_ret (results_cell_at rfl _ _ w.heap.size _ _ _ _ rfl (setRow_heap _ _ _ _ _ _ HR3.out) Tryd.underlying37 rfl (by kernel_rfl)) rfl ?_
  rw [HQ.out]
  exact ⟨rfl, Go.Proofs.YtmbcjcicieiolaaDoor.lib.below_setRow HB3.out (Nat.le_refl _) _⟩

set_option maxRecDepth 100000 in
set_option maxHeartbeats 4000000 in
theorem fa_math (l : List I) (i b off c : Nat) (w : World) (hc : Go.Proofs.YtmbcjcicieiolaaDoor.flows.Code w (.slice (some ⟨b, off, none⟩) l.length c) l) (h30 : l.length ≤ 2000000) (x y : I) (hx : l[i]? = some x) (hy : l[i + 1]? = some y) (h2 : x.op = 2) (c1 : y.op = 9) (c2 : ¬ y.a = 12) :
    Calls Tryd.prog 27 #[.slice (some ⟨b, off, none⟩) l.length c, .int .i64 i] w fun e w' => e = .returned (.tuple #[(knownOf (l.drop i)).1.val, .int .i64 (knownOf (l.drop i)).2]) ∧ Below w.heap.size w w' := by
  have hi0 : (0 : Int) ≤ (i : Int) := by omega
  have hil0 : i < l.length := (List.getElem?_eq_some_iff.1 hx).1
  have hil : (i : Int) < (l.length : Int) := by omega
  have i7 : ((i : Int) + 1).toNat = i + 1 := by omega
  have i8 : IntKind.i64.wrap ((i : Int) + 1) = (i : Int) + 1 := by rw [IntKind.wrap_i64]; omega
  have HC := hid hc
  obtain ⟨X1, hX1⟩ : ∃ X1, w.alloc (.cells #[.int .i64 0, .int .i64 0, .int .i64 0, .string { data := #[] }, .string { data := #[] }, .string { data := #[] }] 37) = X1 := ⟨_, rfl⟩
  have HB1 : Hid (Below w.heap.size w X1) := hid (hX1 ▸ ext_alloc _ _)
  have HR1 : Hid (X1.heap[w.heap.size]? = some (.cells #[.int .i64 0, .int .i64 0, .int .i64 0, .string { data := #[] }, .string { data := #[] }, .string { data := #[] }] 37)) := hid (hX1 ▸ heap_alloc_last _ _)
  obtain ⟨xa0, xa1, xa2, xa3, xa4, xa5⟩ := at6 HC.out HB1.out hx
  have e2 : (x.op != 2) = false := by rw [h2]; rfl
  have hil1 : i + 1 < l.length := (List.getElem?_eq_some_iff.1 hy).1
  have hil2 : (i : Int) + 1 < (l.length : Int) := by omega
  have hnge : ¬ (l.length : Int) ≤ (i : Int) + 1 := by omega
  obtain ⟨X2, hX2⟩ : ∃ X2, X1.alloc (.cells #[.int .i64 x.op, .int .i64 x.a, .int .i64 x.b, .string x.t, .string x.c, .string x.n] 37) = X2 := ⟨_, rfl⟩
  have hE2 : Below X1.heap.size X1 X2 := hX2 ▸ ext_alloc _ _
  have HB2 := hid (HB1.out.trans (hE2.mono HB1.out.size))
  have r2 : X2.heap[X1.heap.size]? = some (.cells #[.int .i64 x.op, .int .i64 x.a, .int .i64 x.b, .string x.t, .string x.c, .string x.n] 37) := hX2 ▸ heap_alloc_last _ _
  obtain ⟨ya0, ya1, ya2, ya3, ya4, ya5⟩ := at6 HC.out HB2.out hy
  obtain ⟨X3, hX3⟩ : ∃ X3, X2.alloc (.cells #[.int .i64 y.op, .int .i64 y.a, .int .i64 y.b, .string y.t, .string y.c, .string y.n] 37) = X3 := ⟨_, rfl⟩
  have hE3 : Below X2.heap.size X2 X3 := hX3 ▸ ext_alloc _ _
  have HB3 := hid (HB2.out.trans (hE3.mono HB2.out.size))
  have r3 : X3.heap[X1.heap.size]? = some (.cells #[.int .i64 x.op, .int .i64 x.a, .int .i64 x.b, .string x.t, .string x.c, .string x.n] 37) := (hE3.block _ (Array.getElem?_eq_some_iff.1 r2).1).trans r2
  have r4 : X3.heap[X2.heap.size]? = some (.cells #[.int .i64 y.op, .int .i64 y.a, .int .i64 y.b, .string y.t, .string y.c, .string y.n] 37) := hX3 ▸ heap_alloc_last _ _
  have HR3 : Hid (X3.heap[w.heap.size]? = some (.cells #[.int .i64 0, .int .i64 0, .int .i64 0, .string { data := #[] }, .string { data := #[] }, .string { data := #[] }] 37)) := hid ((hE3.block _ (Nat.lt_of_lt_of_le (Array.getElem?_eq_some_iff.1 HR1.out).1 hE2.size)).trans ((hE2.block _ (Array.getElem?_eq_some_iff.1 HR1.out).1).trans HR1.out))
  have p0 : X3.cell? ⟨X1.heap.size, 0, none⟩ = some (.int .i64 x.op) := by rw [cell_of_row _ _ _ _ _ _ r3]; rfl
  have p1 : X3.cell? ⟨X1.heap.size, 1, none⟩ = some (.int .i64 x.a) := by rw [cell_of_row _ _ _ _ _ _ r3]; rfl
  have p2 : X3.cell? ⟨X1.heap.size, 2, none⟩ = some (.int .i64 x.b) := by rw [cell_of_row _ _ _ _ _ _ r3]; rfl
  have p3 : X3.cell? ⟨X1.heap.size, 3, none⟩ = some (.string x.t) := by rw [cell_of_row _ _ _ _ _ _ r3]; rfl
  have p4 : X3.cell? ⟨X1.heap.size, 4, none⟩ = some (.string x.c) := by rw [cell_of_row _ _ _ _ _ _ r3]; rfl
  have p5 : X3.cell? ⟨X1.heap.size, 5, none⟩ = some (.string x.n) := by rw [cell_of_row _ _ _ _ _ _ r3]; rfl
  have q0 : X3.cell? ⟨X2.heap.size, 0, none⟩ = some (.int .i64 y.op) := by rw [cell_of_row _ _ _ _ _ _ r4]; rfl
  have q1 : X3.cell? ⟨X2.heap.size, 1, none⟩ = some (.int .i64 y.a) := by rw [cell_of_row _ _ _ _ _ _ r4]; rfl
  have q2 : X3.cell? ⟨X2.heap.size, 2, none⟩ = some (.int .i64 y.b) := by rw [cell_of_row _ _ _ _ _ _ r4]; rfl
  have q3 : X3.cell? ⟨X2.heap.size, 3, none⟩ = some (.string y.t) := by rw [cell_of_row _ _ _ _ _ _ r4]; rfl
  have q4 : X3.cell? ⟨X2.heap.size, 4, none⟩ = some (.string y.c) := by rw [cell_of_row _ _ _ _ _ _ r4]; rfl
  have q5 : X3.cell? ⟨X2.heap.size, 5, none⟩ = some (.string y.n) := by rw [cell_of_row _ _ _ _ _ _ r4]; rfl
  have HQ : Hid (knownOf (l.drop i) = (noI, 0)) := hid (by
    rw [drop_two hx hy]
    exact known_op (by omega) (by simp [two, convOf, negOf, c1, c2]))
  have d1 : (y.op == 10) = false := by rw [c1]; rfl
  have d2 : (y.op == 9) = true := by rw [c1]; rfl
  have d3 : (y.op != 2) = true := by rw [c1]; rfl
  have d5 : (y.a == 12) = false := by simpa using c2
  clear hx hy hc r2 r3 r4 hE2 hE3 h2 c1 c2
  go_enter Tryd.func27, Tryd.ntmps27
  go_wp2_with (refine wpList_store_row rfl 37 (.tmp 4) (.tmp 116) rfl w.heap.size _ rfl rfl 37 _ HR3.out (by kernel_rfl) rfl (by simp [Value.oneCell']) ?_)
  refine bodyPost_ret (results_cell_at rfl _ _ w.heap.size _ _ _ _ rfl (setRow_heap _ _ _ _ _ _ HR3.out) Tryd.underlying37 rfl (by kernel_rfl)) rfl ?_
  rw [HQ.out]
  exact ⟨rfl, Go.Proofs.YtmbcjcicieiolaaDoor.lib.below_setRow HB3.out (Nat.le_refl _) _⟩

set_option maxRecDepth 100000 in
set_option maxHeartbeats 4000000 in
theorem fa_oth (l : List I) (i b off c : Nat) (w : World) (hc : Go.Proofs.YtmbcjcicieiolaaDoor.flows.Code w (.slice (some ⟨b, off, none⟩) l.length c) l) (h30 : l.length ≤ 2000000) (x y : I) (hx : l[i]? = some x) (hy : l[i + 1]? = some y) (h2 : x.op = 2) (c1 : ¬ y.op = 10) (c2 : ¬ y.op = 9) (c3 : ¬ y.op = 2) :
    Calls Tryd.prog 27 #[.slice (some ⟨b, off, none⟩) l.length c, .int .i64 i] w fun e w' => e = .returned (.tuple #[(knownOf (l.drop i)).1.val, .int .i64 (knownOf (l.drop i)).2]) ∧ Below w.heap.size w w' := by
  have hi0 : (0 : Int) ≤ (i : Int) := by omega
  have hil0 : i < l.length := (List.getElem?_eq_some_iff.1 hx).1
  have hil : (i : Int) < (l.length : Int) := by omega
  have i7 : ((i : Int) + 1).toNat = i + 1 := by omega
  have i8 : IntKind.i64.wrap ((i : Int) + 1) = (i : Int) + 1 := by rw [IntKind.wrap_i64]; omega
  have HC := hid hc
  obtain ⟨X1, hX1⟩ : ∃ X1, w.alloc (.cells #[.int .i64 0, .int .i64 0, .int .i64 0, .string { data := #[] }, .string { data := #[] }, .string { data := #[] }] 37) = X1 := ⟨_, rfl⟩
  have HB1 : Hid (Below w.heap.size w X1) := hid (hX1 ▸ ext_alloc _ _)
  have HR1 : Hid (X1.heap[w.heap.size]? = some (.cells #[.int .i64 0, .int .i64 0, .int .i64 0, .string { data := #[] }, .string { data := #[] }, .string { data := #[] }] 37)) := hid (hX1 ▸ heap_alloc_last _ _)
  obtain ⟨xa0, xa1, xa2, xa3, xa4, xa5⟩ := at6 HC.out HB1.out hx
  have e2 : (x.op != 2) = false := by rw [h2]; rfl
  have hil1 : i + 1 < l.length := (List.getElem?_eq_some_iff.1 hy).1
  have hil2 : (i : Int) + 1 < (l.length : Int) := by omega
  have hnge : ¬ (l.length : Int) ≤ (i : Int) + 1 := by omega
  obtain ⟨X2, hX2⟩ : ∃ X2, X1.alloc (.cells #[.int .i64 x.op, .int .i64 x.a, .int .i64 x.b, .string x.t, .string x.c, .string x.n] 37) = X2 := ⟨_, rfl⟩
  have hE2 : Below X1.heap.size X1 X2 := hX2 ▸ ext_alloc _ _
  have HB2 := hid (HB1.out.trans (hE2.mono HB1.out.size))
  have r2 : X2.heap[X1.heap.size]? = some (.cells #[.int .i64 x.op, .int .i64 x.a, .int .i64 x.b, .string x.t, .string x.c, .string x.n] 37) := hX2 ▸ heap_alloc_last _ _
  obtain ⟨ya0, ya1, ya2, ya3, ya4, ya5⟩ := at6 HC.out HB2.out hy
  obtain ⟨X3, hX3⟩ : ∃ X3, X2.alloc (.cells #[.int .i64 y.op, .int .i64 y.a, .int .i64 y.b, .string y.t, .string y.c, .string y.n] 37) = X3 := ⟨_, rfl⟩
  have hE3 : Below X2.heap.size X2 X3 := hX3 ▸ ext_alloc _ _
  have HB3 := hid (HB2.out.trans (hE3.mono HB2.out.size))
  have r3 : X3.heap[X1.heap.size]? = some (.cells #[.int .i64 x.op, .int .i64 x.a, .int .i64 x.b, .string x.t, .string x.c, .string x.n] 37) := (hE3.block _ (Array.getElem?_eq_some_iff.1 r2).1).trans r2
  have r4 : X3.heap[X2.heap.size]? = some (.cells #[.int .i64 y.op, .int .i64 y.a, .int .i64 y.b, .string y.t, .string y.c, .string y.n] 37) := hX3 ▸ heap_alloc_last _ _
  have HR3 : Hid (X3.heap[w.heap.size]? = some (.cells #[.int .i64 0, .int .i64 0, .int .i64 0, .string { data := #[] }, .string { data := #[] }, .string { data := #[] }] 37)) := hid ((hE3.block _ (Nat.lt_of_lt_of_le (Array.getElem?_eq_some_iff.1 HR1.out).1 hE2.size)).trans ((hE2.block _ (Array.getElem?_eq_some_iff.1 HR1.out).1).trans HR1.out))
  have p0 : X3.cell? ⟨X1.heap.size, 0, none⟩ = some (.int .i64 x.op) := by rw [cell_of_row _ _ _ _ _ _ r3]; rfl
  have p1 : X3.cell? ⟨X1.heap.size, 1, none⟩ = some (.int .i64 x.a) := by rw [cell_of_row _ _ _ _ _ _ r3]; rfl
  have p2 : X3.cell? ⟨X1.heap.size, 2, none⟩ = some (.int .i64 x.b) := by rw [cell_of_row _ _ _ _ _ _ r3]; rfl
  have p3 : X3.cell? ⟨X1.heap.size, 3, none⟩ = some (.string x.t) := by rw [cell_of_row _ _ _ _ _ _ r3]; rfl
  have p4 : X3.cell? ⟨X1.heap.size, 4, none⟩ = some (.string x.c) := by rw [cell_of_row _ _ _ _ _ _ r3]; rfl
  have p5 : X3.cell? ⟨X1.heap.size, 5, none⟩ = some (.string x.n) := by rw [cell_of_row _ _ _ _ _ _ r3]; rfl
  have q0 : X3.cell? ⟨X2.heap.size, 0, none⟩ = some (.int .i64 y.op) := by rw [cell_of_row _ _ _ _ _ _ r4]; rfl
  have q1 : X3.cell? ⟨X2.heap.size, 1, none⟩ = some (.int .i64 y.a) := by rw [cell_of_row _ _ _ _ _ _ r4]; rfl
  have q2 : X3.cell? ⟨X2.heap.size, 2, none⟩ = some (.int .i64 y.b) := by rw [cell_of_row _ _ _ _ _ _ r4]; rfl
  have q3 : X3.cell? ⟨X2.heap.size, 3, none⟩ = some (.string y.t) := by rw [cell_of_row _ _ _ _ _ _ r4]; rfl
  have q4 : X3.cell? ⟨X2.heap.size, 4, none⟩ = some (.string y.c) := by rw [cell_of_row _ _ _ _ _ _ r4]; rfl
  have q5 : X3.cell? ⟨X2.heap.size, 5, none⟩ = some (.string y.n) := by rw [cell_of_row _ _ _ _ _ _ r4]; rfl
  have HQ : Hid (knownOf (l.drop i) = (noI, 0)) := hid (by
    rw [drop_two hx hy]
    exact known_op c3 (by simp [two, convOf, negOf, c1, c2]))
  have d1 : (y.op == 10) = false := by simpa using c1
  have d2 : (y.op == 9) = false := by simpa using c2
  have d3 : (y.op != 2) = true := by simpa using c3
  clear hx hy hc r2 r3 r4 hE2 hE3 h2 c1 c2 c3
  go_enter Tryd.func27, Tryd.ntmps27
  go_wp2_with (refine wpList_store_row rfl 37 (.tmp 4) (.tmp 116) rfl w.heap.size _ rfl rfl 37 _ HR3.out (by kernel_rfl) rfl (by simp [Value.oneCell']) ?_)
  refine bodyPost_ret (results_cell_at rfl _ _ w.heap.size _ _ _ _ rfl (setRow_heap _ _ _ _ _ _ HR3.out) Tryd.underlying37 rfl (by kernel_rfl)) rfl ?_
  rw [HQ.out]
  exact ⟨rfl, Go.Proofs.YtmbcjcicieiolaaDoor.lib.below_setRow HB3.out (Nat.le_refl _) _⟩

set_option maxRecDepth 100000 in
set_option maxHeartbeats 4000000 in
theorem fa_push2 (l : List I) (i b off c : Nat) (w : World) (hc : Go.Proofs.YtmbcjcicieiolaaDoor.flows.Code w (.slice (some ⟨b, off, none⟩) l.length c) l) (h30 : l.length ≤ 2000000) (x y : I) (hx : l[i]? = some x) (hy : l[i + 1]? = some y) (h2 : x.op = 2) (c3 : y.op = 2) (hl : ¬ i + 2 < l.length) :
    Calls Tryd.prog 27 #[.slice (some ⟨b, off, none⟩) l.length c, .int .i64 i] w fun e w' => e = .returned (.tuple #[(knownOf (l.drop i)).1.val, .int .i64 (knownOf (l.drop i)).2]) ∧ Below w.heap.size w w' := by
  have hi0 : (0 : Int) ≤ (i : Int) := by omega
  have hil0 : i < l.length := (List.getElem?_eq_some_iff.1 hx).1
  have hil : (i : Int) < (l.length : Int) := by omega
  have i7 : ((i : Int) + 1).toNat = i + 1 := by omega
  have i8 : IntKind.i64.wrap ((i : Int) + 1) = (i : Int) + 1 := by rw [IntKind.wrap_i64]; omega
  have HC := hid hc
  obtain ⟨X1, hX1⟩ : ∃ X1, w.alloc (.cells #[.int .i64 0, .int .i64 0, .int .i64 0, .string { data := #[] }, .string { data := #[] }, .string { data := #[] }] 37) = X1 := ⟨_, rfl⟩
  have HB1 : Hid (Below w.heap.size w X1) := hid (hX1 ▸ ext_alloc _ _)
  have HR1 : Hid (X1.heap[w.heap.size]? = some (.cells #[.int .i64 0, .int .i64 0, .int .i64 0, .string { data := #[] }, .string { data := #[] }, .string { data := #[] }] 37)) := hid (hX1 ▸ heap_alloc_last _ _)
  obtain ⟨xa0, xa1, xa2, xa3, xa4, xa5⟩ := at6 HC.out HB1.out hx
  have e2 : (x.op != 2) = false := by rw [h2]; rfl
  have hil1 : i + 1 < l.length := (List.getElem?_eq_some_iff.1 hy).1
  have hil2 : (i : Int) + 1 < (l.length : Int) := by omega
  have hnge : ¬ (l.length : Int) ≤ (i : Int) + 1 := by omega
  obtain ⟨X2, hX2⟩ : ∃ X2, X1.alloc (.cells #[.int .i64 x.op, .int .i64 x.a, .int .i64 x.b, .string x.t, .string x.c, .string x.n] 37) = X2 := ⟨_, rfl⟩
  have hE2 : Below X1.heap.size X1 X2 := hX2 ▸ ext_alloc _ _
  have HB2 := hid (HB1.out.trans (hE2.mono HB1.out.size))
  have r2 : X2.heap[X1.heap.size]? = some (.cells #[.int .i64 x.op, .int .i64 x.a, .int .i64 x.b, .string x.t, .string x.c, .string x.n] 37) := hX2 ▸ heap_alloc_last _ _
  obtain ⟨ya0, ya1, ya2, ya3, ya4, ya5⟩ := at6 HC.out HB2.out hy
  obtain ⟨X3, hX3⟩ : ∃ X3, X2.alloc (.cells #[.int .i64 y.op, .int .i64 y.a, .int .i64 y.b, .string y.t, .string y.c, .string y.n] 37) = X3 := ⟨_, rfl⟩
  have hE3 : Below X2.heap.size X2 X3 := hX3 ▸ ext_alloc _ _
  have HB3 := hid (HB2.out.trans (hE3.mono HB2.out.size))
  have r3 : X3.heap[X1.heap.size]? = some (.cells #[.int .i64 x.op, .int .i64 x.a, .int .i64 x.b, .string x.t, .string x.c, .string x.n] 37) := (hE3.block _ (Array.getElem?_eq_some_iff.1 r2).1).trans r2
  have r4 : X3.heap[X2.heap.size]? = some (.cells #[.int .i64 y.op, .int .i64 y.a, .int .i64 y.b, .string y.t, .string y.c, .string y.n] 37) := hX3 ▸ heap_alloc_last _ _
  have HR3 : Hid (X3.heap[w.heap.size]? = some (.cells #[.int .i64 0, .int .i64 0, .int .i64 0, .string { data := #[] }, .string { data := #[] }, .string { data := #[] }] 37)) := hid ((hE3.block _ (Nat.lt_of_lt_of_le (Array.getElem?_eq_some_iff.1 HR1.out).1 hE2.size)).trans ((hE2.block _ (Array.getElem?_eq_some_iff.1 HR1.out).1).trans HR1.out))
  have p0 : X3.cell? ⟨X1.heap.size, 0, none⟩ = some (.int .i64 x.op) := by rw [cell_of_row _ _ _ _ _ _ r3]; rfl
  have p1 : X3.cell? ⟨X1.heap.size, 1, none⟩ = some (.int .i64 x.a) := by rw [cell_of_row _ _ _ _ _ _ r3]; rfl
  have p2 : X3.cell? ⟨X1.heap.size, 2, none⟩ = some (.int .i64 x.b) := by rw [cell_of_row _ _ _ _ _ _ r3]; rfl
  have p3 : X3.cell? ⟨X1.heap.size, 3, none⟩ = some (.string x.t) := by rw [cell_of_row _ _ _ _ _ _ r3]; rfl
  have p4 : X3.cell? ⟨X1.heap.size, 4, none⟩ = some (.string x.c) := by rw [cell_of_row _ _ _ _ _ _ r3]; rfl
  have p5 : X3.cell? ⟨X1.heap.size, 5, none⟩ = some (.string x.n) := by rw [cell_of_row _ _ _ _ _ _ r3]; rfl
  have q0 : X3.cell? ⟨X2.heap.size, 0, none⟩ = some (.int .i64 y.op) := by rw [cell_of_row _ _ _ _ _ _ r4]; rfl
  have q1 : X3.cell? ⟨X2.heap.size, 1, none⟩ = some (.int .i64 y.a) := by rw [cell_of_row _ _ _ _ _ _ r4]; rfl
  have q2 : X3.cell? ⟨X2.heap.size, 2, none⟩ = some (.int .i64 y.b) := by rw [cell_of_row _ _ _ _ _ _ r4]; rfl
  have q3 : X3.cell? ⟨X2.heap.size, 3, none⟩ = some (.string y.t) := by rw [cell_of_row _ _ _ _ _ _ r4]; rfl
  have q4 : X3.cell? ⟨X2.heap.size, 4, none⟩ = some (.string y.c) := by rw [cell_of_row _ _ _ _ _ _ r4]; rfl
  have q5 : X3.cell? ⟨X2.heap.size, 5, none⟩ = some (.string y.n) := by rw [cell_of_row _ _ _ _ _ _ r4]; rfl
  have j7 : ((i : Int) + 2).toNat = i + 2 := by omega
  have j8 : IntKind.i64.wrap ((i : Int) + 2) = (i : Int) + 2 := by rw [IntKind.wrap_i64]; omega
  have HQ : Hid (knownOf (l.drop i) = (noI, 0)) := hid (by
    rw [drop_two hx hy]
    rw [known_rest h2 (by simp [two, convOf, negOf, c3]), List.drop_eq_nil_of_le (by omega)]; rfl)
  have d1 : (y.op == 10) = false := by rw [c3]; rfl
  have d2 : (y.op == 9) = false := by rw [c3]; rfl
  have d3 : (y.op != 2) = false := by rw [c3]; rfl
  have hge2 : (l.length : Int) ≤ (i : Int) + 2 := by omega
  clear hx hy hc r2 r3 r4 hE2 hE3 h2 c3 hl
  go_enter Tryd.func27, Tryd.ntmps27
  go_wp2_with (refine wpList_store_row rfl 37 (.tmp 4) (.tmp 116) rfl w.heap.size _ rfl rfl 37 _ HR3.out (by kernel_rfl) rfl (by simp [Value.oneCell']) ?_)
  refine bodyPost_ret (results_cell_at rfl _ _ w.heap.size _ _ _ _ rfl (setRow_heap _ _ _ _ _ _ HR3.out) Tryd.underlying37 rfl (by kernel_rfl)) rfl ?_
  rw [HQ.out]
  exact ⟨rfl, Go.Proofs.YtmbcjcicieiolaaDoor.lib.below_setRow HB3.out (Nat.le_refl _) _⟩

set_option maxRecDepth 100000 in
set_option maxHeartbeats 4000000 in
theorem fa_nomath (l : List I) (i b off c : Nat) (w : World) (hc : Go.Proofs.YtmbcjcicieiolaaDoor.flows.Code w (.slice (some ⟨b, off, none⟩) l.length c) l) (h30 : l.length ≤ 2000000) (x y : I) (hx : l[i]? = some x) (hy : l[i + 1]? = some y) (h2 : x.op = 2) (c3 : y.op = 2) (z : I) (hz : l[i + 2]? = some z) (c4 : ¬ z.op = 9) :
    Calls Tryd.prog 27 #[.slice (some ⟨b, off, none⟩) l.length c, .int .i64 i] w fun e w' => e = .returned (.tuple #[(knownOf (l.drop i)).1.val, .int .i64 (knownOf (l.drop i)).2]) ∧ Below w.heap.size w w' := by
  have hi0 : (0 : Int) ≤ (i : Int) := by omega
  have hil0 : i < l.length := (List.getElem?_eq_some_iff.1 hx).1
  have hil : (i : Int) < (l.length : Int) := by omega
  have i7 : ((i : Int) + 1).toNat = i + 1 := by omega
  have i8 : IntKind.i64.wrap ((i : Int) + 1) = (i : Int) + 1 := by rw [IntKind.wrap_i64]; omega
  have HC := hid hc
  obtain ⟨X1, hX1⟩ : ∃ X1, w.alloc (.cells #[.int .i64 0, .int .i64 0, .int .i64 0, .string { data := #[] }, .string { data := #[] }, .string { data := #[] }] 37) = X1 := ⟨_, rfl⟩
  have HB1 : Hid (Below w.heap.size w X1) := hid (hX1 ▸ ext_alloc _ _)
  have HR1 : Hid (X1.heap[w.heap.size]? = some (.cells #[.int .i64 0, .int .i64 0, .int .i64 0, .string { data := #[] }, .string { data := #[] }, .string { data := #[] }] 37)) := hid (hX1 ▸ heap_alloc_last _ _)
  obtain ⟨xa0, xa1, xa2, xa3, xa4, xa5⟩ := at6 HC.out HB1.out hx
  have e2 : (x.op != 2) = false := by rw [h2]; rfl
  have hil1 : i + 1 < l.length := (List.getElem?_eq_some_iff.1 hy).1
  have hil2 : (i : Int) + 1 < (l.length : Int) := by omega
  have hnge : ¬ (l.length : Int) ≤ (i : Int) + 1 := by omega
  obtain ⟨X2, hX2⟩ : ∃ X2, X1.alloc (.cells #[.int .i64 x.op, .int .i64 x.a, .int .i64 x.b, .string x.t, .string x.c, .string x.n] 37) = X2 := ⟨_, rfl⟩
  have hE2 : Below X1.heap.size X1 X2 := hX2 ▸ ext_alloc _ _
  have HB2 := hid (HB1.out.trans (hE2.mono HB1.out.size))
  have r2 : X2.heap[X1.heap.size]? = some (.cells #[.int .i64 x.op, .int .i64 x.a, .int .i64 x.b, .string x.t, .string x.c, .string x.n] 37) := hX2 ▸ heap_alloc_last _ _
  obtain ⟨ya0, ya1, ya2, ya3, ya4, ya5⟩ := at6 HC.out HB2.out hy
  obtain ⟨X3, hX3⟩ : ∃ X3, X2.alloc (.cells #[.int .i64 y.op, .int .i64 y.a, .int .i64 y.b, .string y.t, .string y.c, .string y.n] 37) = X3 := ⟨_, rfl⟩
  have hE3 : Below X2.heap.size X2 X3 := hX3 ▸ ext_alloc _ _
  have HB3 := hid (HB2.out.trans (hE3.mono HB2.out.size))
  have r3 : X3.heap[X1.heap.size]? = some (.cells #[.int .i64 x.op, .int .i64 x.a, .int .i64 x.b, .string x.t, .string x.c, .string x.n] 37) := (hE3.block _ (Array.getElem?_eq_some_iff.1 r2).1).trans r2
  have r4 : X3.heap[X2.heap.size]? = some (.cells #[.int .i64 y.op, .int .i64 y.a, .int .i64 y.b, .string y.t, .string y.c, .string y.n] 37) := hX3 ▸ heap_alloc_last _ _
  have HR3 : Hid (X3.heap[w.heap.size]? = some (.cells #[.int .i64 0, .int .i64 0, .int .i64 0, .string { data := #[] }, .string { data := #[] }, .string { data := #[] }] 37)) := hid ((hE3.block _ (Nat.lt_of_lt_of_le (Array.getElem?_eq_some_iff.1 HR1.out).1 hE2.size)).trans ((hE2.block _ (Array.getElem?_eq_some_iff.1 HR1.out).1).trans HR1.out))
  have p0 : X3.cell? ⟨X1.heap.size, 0, none⟩ = some (.int .i64 x.op) := by rw [cell_of_row _ _ _ _ _ _ r3]; rfl
  have p1 : X3.cell? ⟨X1.heap.size, 1, none⟩ = some (.int .i64 x.a) := by rw [cell_of_row _ _ _ _ _ _ r3]; rfl
  have p2 : X3.cell? ⟨X1.heap.size, 2, none⟩ = some (.int .i64 x.b) := by rw [cell_of_row _ _ _ _ _ _ r3]; rfl
  have p3 : X3.cell? ⟨X1.heap.size, 3, none⟩ = some (.string x.t) := by rw [cell_of_row _ _ _ _ _ _ r3]; rfl
  have p4 : X3.cell? ⟨X1.heap.size, 4, none⟩ = some (.string x.c) := by rw [cell_of_row _ _ _ _ _ _ r3]; rfl
  have p5 : X3.cell? ⟨X1.heap.size, 5, none⟩ = some (.string x.n) := by rw [cell_of_row _ _ _ _ _ _ r3]; rfl
  have q0 : X3.cell? ⟨X2.heap.size, 0, none⟩ = some (.int .i64 y.op) := by rw [cell_of_row _ _ _ _ _ _ r4]; rfl
  have q1 : X3.cell? ⟨X2.heap.size, 1, none⟩ = some (.int .i64 y.a) := by rw [cell_of_row _ _ _ _ _ _ r4]; rfl
  have q2 : X3.cell? ⟨X2.heap.size, 2, none⟩ = some (.int .i64 y.b) := by rw [cell_of_row _ _ _ _ _ _ r4]; rfl
  have q3 : X3.cell? ⟨X2.heap.size, 3, none⟩ = some (.string y.t) := by rw [cell_of_row _ _ _ _ _ _ r4]; rfl
  have q4 : X3.cell? ⟨X2.heap.size, 4, none⟩ = some (.string y.c) := by rw [cell_of_row _ _ _ _ _ _ r4]; rfl
  have q5 : X3.cell? ⟨X2.heap.size, 5, none⟩ = some (.string y.n) := by rw [cell_of_row _ _ _ _ _ _ r4]; rfl
  have j7 : ((i : Int) + 2).toNat = i + 2 := by omega
  have j8 : IntKind.i64.wrap ((i : Int) + 2) = (i : Int) + 2 := by rw [IntKind.wrap_i64]; omega
  have hil3 : i + 2 < l.length := (List.getElem?_eq_some_iff.1 hz).1
  have hil4 : (i : Int) + 2 < (l.length : Int) := by omega
  have hnge2 : ¬ (l.length : Int) ≤ (i : Int) + 2 := by omega
  obtain ⟨za0, za1, za2, za3, za4, za5⟩ := at6 HC.out HB3.out hz
  have HQ : Hid (knownOf (l.drop i) = (noI, 0)) := hid (by
    rw [drop_three hx hy hz, known_rest h2 (by simp [two, convOf, negOf, c3])]
    show (three x y z).elim _ _ = _
    rw [show three x y z = none from if_neg (fun hh => c4 hh.2.1)]; rfl)
  have d1 : (y.op == 10) = false := by rw [c3]; rfl
  have d2 : (y.op == 9) = false := by rw [c3]; rfl
  have d3 : (y.op != 2) = false := by rw [c3]; rfl
  have e4 : (z.op != 9) = true := by simpa using c4
  clear hx hy hz hc r2 r3 r4 hE2 hE3 h2 c3 c4
  go_enter Tryd.func27, Tryd.ntmps27
  go_wp2_with (refine wpList_store_row rfl 37 (.tmp 4) (.tmp 116) rfl w.heap.size _ rfl rfl 37 _ HR3.out (by kernel_rfl) rfl (by simp [Value.oneCell']) ?_)
  refine bodyPost_ret (results_cell_at rfl _ _ w.heap.size _ _ _ _ rfl (setRow_heap _ _ _ _ _ _ HR3.out) Tryd.underlying37 rfl (by kernel_rfl)) rfl ?_
  rw [HQ.out]
  exact ⟨rfl, Go.Proofs.YtmbcjcicieiolaaDoor.lib.below_setRow HB3.out (Nat.le_refl _) _⟩

set_option maxRecDepth 100000 in
set_option maxHeartbeats 4000000 in
theorem fa_z12 (l : List I) (i b off c : Nat) (w : World) (hc : Go.Proofs.YtmbcjcicieiolaaDoor.flows.Code w (.slice (some ⟨b, off, none⟩) l.length c) l) (h30 : l.length ≤ 2000000) (x y : I) (hx : l[i]? = some x) (hy : l[i + 1]? = some y) (h2 : x.op = 2) (c3 : y.op = 2) (z : I) (hz : l[i + 2]? = some z) (c4 : z.op = 9) (c5 : z.a = 12) :
    Calls Tryd.prog 27 #[.slice (some ⟨b, off, none⟩) l.length c, .int .i64 i] w fun e w' => e = .returned (.tuple #[(knownOf (l.drop i)).1.val, .int .i64 (knownOf (l.drop i)).2]) ∧ Below w.heap.size w w' := by
  have hi0 : (0 : Int) ≤ (i : Int) := by omega
  have hil0 : i < l.length := (List.getElem?_eq_some_iff.1 hx).1
  have hil : (i : Int) < (l.length : Int) := by omega
  have i7 : ((i : Int) + 1).toNat = i + 1 := by omega
  have i8 : IntKind.i64.wrap ((i : Int) + 1) = (i : Int) + 1 := by rw [IntKind.wrap_i64]; omega
  have HC := hid hc
  obtain ⟨X1, hX1⟩ : ∃ X1, w.alloc (.cells #[.int .i64 0, .int .i64 0, .int .i64 0, .string { data := #[] }, .string { data := #[] }, .string { data := #[] }] 37) = X1 := ⟨_, rfl⟩
  have HB1 : Hid (Below w.heap.size w X1) := hid (hX1 ▸ ext_alloc _ _)
  have HR1 : Hid (X1.heap[w.heap.size]? = some (.cells #[.int .i64 0, .int .i64 0, .int .i64 0, .string { data := #[] }, .string { data := #[] }, .string { data := #[] }] 37)) := hid (hX1 ▸ heap_alloc_last _ _)
  obtain ⟨xa0, xa1, xa2, xa3, xa4, xa5⟩ := at6 HC.out HB1.out hx
  have e2 : (x.op != 2) = false := by rw [h2]; rfl
  have hil1 : i + 1 < l.length := (List.getElem?_eq_some_iff.1 hy).1
  have hil2 : (i : Int) + 1 < (l.length : Int) := by omega
  have hnge : ¬ (l.length : Int) ≤ (i : Int) + 1 := by omega
  obtain ⟨X2, hX2⟩ : ∃ X2, X1.alloc (.cells #[.int .i64 x.op, .int .i64 x.a, .int .i64 x.b, .string x.t, .string x.c, .string x.n] 37) = X2 := ⟨_, rfl⟩
  have hE2 : Below X1.heap.size X1 X2 := hX2 ▸ ext_alloc _ _
  have HB2 := hid (HB1.out.trans (hE2.mono HB1.out.size))
  have r2 : X2.heap[X1.heap.size]? = some (.cells #[.int .i64 x.op, .int .i64 x.a, .int .i64 x.b, .string x.t, .string x.c, .string x.n] 37) := hX2 ▸ heap_alloc_last _ _
  obtain ⟨ya0, ya1, ya2, ya3, ya4, ya5⟩ := at6 HC.out HB2.out hy
  obtain ⟨X3, hX3⟩ : ∃ X3, X2.alloc (.cells #[.int .i64 y.op, .int .i64 y.a, .int .i64 y.b, .string y.t, .string y.c, .string y.n] 37) = X3 := ⟨_, rfl⟩
  have hE3 : Below X2.heap.size X2 X3 := hX3 ▸ ext_alloc _ _
  have HB3 := hid (HB2.out.trans (hE3.mono HB2.out.size))
  have r3 : X3.heap[X1.heap.size]? = some (.cells #[.int .i64 x.op, .int .i64 x.a, .int .i64 x.b, .string x.t, .string x.c, .string x.n] 37) := (hE3.block _ (Array.getElem?_eq_some_iff.1 r2).1).trans r2
  have r4 : X3.heap[X2.heap.size]? = some (.cells #[.int .i64 y.op, .int .i64 y.a, .int .i64 y.b, .string y.t, .string y.c, .string y.n] 37) := hX3 ▸ heap_alloc_last _ _
  have HR3 : Hid (X3.heap[w.heap.size]? = some (.cells #[.int .i64 0, .int .i64 0, .int .i64 0, .string { data := #[] }, .string { data := #[] }, .string { data := #[] }] 37)) := hid ((hE3.block _ (Nat.lt_of_lt_of_le (Array.getElem?_eq_some_iff.1 HR1.out).1 hE2.size)).trans ((hE2.block _ (Array.getElem?_eq_some_iff.1 HR1.out).1).trans HR1.out))
  have p0 : X3.cell? ⟨X1.heap.size, 0, none⟩ = some (.int .i64 x.op) := by rw [cell_of_row _ _ _ _ _ _ r3]; rfl
  have p1 : X3.cell? ⟨X1.heap.size, 1, none⟩ = some (.int .i64 x.a) := by rw [cell_of_row _ _ _ _ _ _ r3]; rfl
  have p2 : X3.cell? ⟨X1.heap.size, 2, none⟩ = some (.int .i64 x.b) := by rw [cell_of_row _ _ _ _ _ _ r3]; rfl
  have p3 : X3.cell? ⟨X1.heap.size, 3, none⟩ = some (.string x.t) := by rw [cell_of_row _ _ _ _ _ _ r3]; rfl
  have p4 : X3.cell? ⟨X1.heap.size, 4, none⟩ = some (.string x.c) := by rw [cell_of_row _ _ _ _ _ _ r3]; rfl
  have p5 : X3.cell? ⟨X1.heap.size, 5, none⟩ = some (.string x.n) := by rw [cell_of_row _ _ _ _ _ _ r3]; rfl
  have q0 : X3.cell? ⟨X2.heap.size, 0, none⟩ = some (.int .i64 y.op) := by rw [cell_of_row _ _ _ _ _ _ r4]; rfl
  have q1 : X3.cell? ⟨X2.heap.size, 1, none⟩ = some (.int .i64 y.a) := by rw [cell_of_row _ _ _ _ _ _ r4]; rfl
  have q2 : X3.cell? ⟨X2.heap.size, 2, none⟩ = some (.int .i64 y.b) := by rw [cell_of_row _ _ _ _ _ _ r4]; rfl
  have q3 : X3.cell? ⟨X2.heap.size, 3, none⟩ = some (.string y.t) := by rw [cell_of_row _ _ _ _ _ _ r4]; rfl
  have q4 : X3.cell? ⟨X2.heap.size, 4, none⟩ = some (.string y.c) := by rw [cell_of_row _ _ _ _ _ _ r4]; rfl
  have q5 : X3.cell? ⟨X2.heap.size, 5, none⟩ = some (.string y.n) := by rw [cell_of_row _ _ _ _ _ _ r4]; rfl
  have j7 : ((i : Int) + 2).toNat = i + 2 := by omega
  have j8 : IntKind.i64.wrap ((i : Int) + 2) = (i : Int) + 2 := by rw [IntKind.wrap_i64]; omega
  have hil3 : i + 2 < l.length := (List.getElem?_eq_some_iff.1 hz).1
  have hil4 : (i : Int) + 2 < (l.length : Int) := by omega
  have hnge2 : ¬ (l.length : Int) ≤ (i : Int) + 2 := by omega
  obtain ⟨za0, za1, za2, za3, za4, za5⟩ := at6 HC.out HB3.out hz
  have HQ : Hid (knownOf (l.drop i) = (noI, 0)) := hid (by
    rw [drop_three hx hy hz, known_rest h2 (by simp [two, convOf, negOf, c3])]
    show (three x y z).elim _ _ = _
    rw [show three x y z = none from if_neg (fun hh => hh.2.2.1 c5)]; rfl)
  have d1 : (y.op == 10) = false := by rw [c3]; rfl
  have d2 : (y.op == 9) = false := by rw [c3]; rfl
  have d3 : (y.op != 2) = false := by rw [c3]; rfl
  have e4 : (z.op != 9) = false := by rw [c4]; rfl
  have e5 : (z.a == 12) = true := by rw [c5]; rfl
  clear hx hy hz hc r2 r3 r4 hE2 hE3 h2 c3 c4 c5
  go_enter Tryd.func27, Tryd.ntmps27
  go_wp2_with (refine wpList_store_row rfl 37 (.tmp 4) (.tmp 116) rfl w.heap.size _ rfl rfl 37 _ HR3.out (by kernel_rfl) rfl (by simp [Value.oneCell']) ?_)
  refine bodyPost_ret (results_cell_at rfl _ _ w.heap.size _ _ _ _ rfl (setRow_heap _ _ _ _ _ _ HR3.out) Tryd.underlying37 rfl (by kernel_rfl)) rfl ?_
  rw [HQ.out]
  exact ⟨rfl, Go.Proofs.YtmbcjcicieiolaaDoor.lib.below_setRow HB3.out (Nat.le_refl _) _⟩

end Go.Proofs.YtmbcjcicieiolaaDoor.folds
