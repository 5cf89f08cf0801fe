/- Constants folded, as the document does it: FoldAt where two pushes and an operation stand. Conditions: the code is right, its numbers are of 64 bits. -/
import Derived.Test.YtmbcjcicieiolaaDoorFold2
set_option linter.unusedSimpArgs false
set_option linter.unusedVariables false
namespace Go.Proofs.YtmbcjcicieiolaaDoor.folds
open Go.RowKit Go.Proofs.YtmbcjcicieiolaaDoor.lib Go.Proofs.YtmbcjcicieiolaaDoor.errs Go.Proofs.YtmbcjcicieiolaaDoor.names Go.Proofs.YtmbcjcicieiolaaDoor.descs Go.Proofs.YtmbcjcicieiolaaDoor.ins Go.Proofs.YtmbcjcicieiolaaDoor.flows Go.Proofs.YtmbcjcicieiolaaDoor.nums

set_option maxRecDepth 100000 in
set_option maxHeartbeats 4000000 in
theorem fa_shift11 (l : List I) (i b off c : Nat) (w : World) (hc : Go.Proofs.YtmbcjcicieiolaaDoor.flows.Code w (.slice (some ⟨b, off, none⟩) l.length c) l) (h30 : l.length ≤ 2000000) (x y : I) (hx : l[i]? = some x) (hy : l[i + 1]? = some y) (h2 : x.op = 2) (c3 : y.op = 2) (z : I) (hz : l[i + 2]? = some z) (c4 : z.op = 9) (c5 : ¬ z.a = 12) (c6 : z.a = 11) (hX : Sound x) (hY : Sound y) (hZ : Sound z) :
    Calls Tryd.prog 27 #[.slice (some ⟨b, off, none⟩) l.length c, .int .i64 i] w fun e w' => e = .returned (.tuple #[(knownOf (l.drop i)).1.val, .int .i64 (knownOf (l.drop i)).2]) ∧ Below w.heap.size w w' := by
  have hi0 : (0 : Int) ≤ (i : Int) := by omega
  have hil0 : i < l.length := (List.getElem?_eq_some_iff.1 hx).1
  have hil : (i : Int) < (l.length : Int) := by omega
  have i7 : ((i : Int) + 1).toNat = i + 1 := by omega
  have i8 : IntKind.i64.wrap ((i : Int) + 1) = (i : Int) + 1 := by rw [IntKind.wrap_i64]; omega
  have HC := hid hc
  obtain ⟨X1, hX1⟩ : ∃ X1, w.alloc (.cells #[.int .i64 0, .int .i64 0, .int .i64 0, .string { data := #[] }, .string { data := #[] }, .string { data := #[] }] 37) = X1 := ⟨_, rfl⟩
  have HB1 : Hid (Below w.heap.size w X1) := hid (hX1 ▸ ext_alloc _ _)
  have HR1 : Hid (X1.heap[w.heap.size]? = some (.cells #[.int .i64 0, .int .i64 0, .int .i64 0, .string { data := #[] }, .string { data := #[] }, .string { data := #[] }] 37)) := hid (hX1 ▸ heap_alloc_last _ _)
  obtain ⟨xa0, xa1, xa2, xa3, xa4, xa5⟩ := at6 HC.out HB1.out hx
  have e2 : (x.op != 2) = false := by rw [h2]; rfl
  have hil1 : i + 1 < l.length := (List.getElem?_eq_some_iff.1 hy).1
  have hil2 : (i : Int) + 1 < (l.length : Int) := by omega
  have hnge : ¬ (l.length : Int) ≤ (i : Int) + 1 := by omega
  obtain ⟨X2, hX2⟩ : ∃ X2, X1.alloc (.cells #[.int .i64 x.op, .int .i64 x.a, .int .i64 x.b, .string x.t, .string x.c, .string x.n] 37) = X2 := ⟨_, rfl⟩
  have hE2 : Below X1.heap.size X1 X2 := hX2 ▸ ext_alloc _ _
  have HB2 := hid (HB1.out.trans (hE2.mono HB1.out.size))
  have r2 : X2.heap[X1.heap.size]? = some (.cells #[.int .i64 x.op, .int .i64 x.a, .int .i64 x.b, .string x.t, .string x.c, .string x.n] 37) := hX2 ▸ heap_alloc_last _ _
  obtain ⟨ya0, ya1, ya2, ya3, ya4, ya5⟩ := at6 HC.out HB2.out hy
  obtain ⟨X3, hX3⟩ : ∃ X3, X2.alloc (.cells #[.int .i64 y.op, .int .i64 y.a, .int .i64 y.b, .string y.t, .string y.c, .string y.n] 37) = X3 := ⟨_, rfl⟩
  have hE3 : Below X2.heap.size X2 X3 := hX3 ▸ ext_alloc _ _
  have HB3 := hid (HB2.out.trans (hE3.mono HB2.out.size))
  have r3 : X3.heap[X1.heap.size]? = some (.cells #[.int .i64 x.op, .int .i64 x.a, .int .i64 x.b, .string x.t, .string x.c, .string x.n] 37) := (hE3.block _ (Array.getElem?_eq_some_iff.1 r2).1).trans r2
  have r4 : X3.heap[X2.heap.size]? = some (.cells #[.int .i64 y.op, .int .i64 y.a, .int .i64 y.b, .string y.t, .string y.c, .string y.n] 37) := hX3 ▸ heap_alloc_last _ _
  have HR3 : Hid (X3.heap[w.heap.size]? = some (.cells #[.int .i64 0, .int .i64 0, .int .i64 0, .string { data := #[] }, .string { data := #[] }, .string { data := #[] }] 37)) := hid ((hE3.block _ (Nat.lt_of_lt_of_le (Array.getElem?_eq_some_iff.1 HR1.out).1 hE2.size)).trans ((hE2.block _ (Array.getElem?_eq_some_iff.1 HR1.out).1).trans HR1.out))
  have p0 : X3.cell? ⟨X1.heap.size, 0, none⟩ = some (.int .i64 x.op) := by rw [cell_of_row _ _ _ _ _ _ r3]; rfl
  have p1 : X3.cell? ⟨X1.heap.size, 1, none⟩ = some (.int .i64 x.a) := by rw [cell_of_row _ _ _ _ _ _ r3]; rfl
  have p2 : X3.cell? ⟨X1.heap.size, 2, none⟩ = some (.int .i64 x.b) := by rw [cell_of_row _ _ _ _ _ _ r3]; rfl
  have p3 : X3.cell? ⟨X1.heap.size, 3, none⟩ = some (.string x.t) := by rw [cell_of_row _ _ _ _ _ _ r3]; rfl
  have p4 : X3.cell? ⟨X1.heap.size, 4, none⟩ = some (.string x.c) := by rw [cell_of_row _ _ _ _ _ _ r3]; rfl
  have p5 : X3.cell? ⟨X1.heap.size, 5, none⟩ = some (.string x.n) := by rw [cell_of_row _ _ _ _ _ _ r3]; rfl
  have q0 : X3.cell? ⟨X2.heap.size, 0, none⟩ = some (.int .i64 y.op) := by rw [cell_of_row _ _ _ _ _ _ r4]; rfl
  have q1 : X3.cell? ⟨X2.heap.size, 1, none⟩ = some (.int .i64 y.a) := by rw [cell_of_row _ _ _ _ _ _ r4]; rfl
  have q2 : X3.cell? ⟨X2.heap.size, 2, none⟩ = some (.int .i64 y.b) := by rw [cell_of_row _ _ _ _ _ _ r4]; rfl
  have q3 : X3.cell? ⟨X2.heap.size, 3, none⟩ = some (.string y.t) := by rw [cell_of_row _ _ _ _ _ _ r4]; rfl
  have q4 : X3.cell? ⟨X2.heap.size, 4, none⟩ = some (.string y.c) := by rw [cell_of_row _ _ _ _ _ _ r4]; rfl
  have q5 : X3.cell? ⟨X2.heap.size, 5, none⟩ = some (.string y.n) := by rw [cell_of_row _ _ _ _ _ _ r4]; rfl
  have j7 : ((i : Int) + 2).toNat = i + 2 := by omega
  have j8 : IntKind.i64.wrap ((i : Int) + 2) = (i : Int) + 2 := by rw [IntKind.wrap_i64]; omega
  have hil3 : i + 2 < l.length := (List.getElem?_eq_some_iff.1 hz).1
  have hil4 : (i : Int) + 2 < (l.length : Int) := by omega
  have hnge2 : ¬ (l.length : Int) ≤ (i : Int) + 2 := by omega
  obtain ⟨za0, za1, za2, za3, za4, za5⟩ := at6 HC.out HB3.out hz
  obtain ⟨⟨m, ok⟩, hM⟩ : ∃ R, ofOf z.t.data.toList z.a x.a y.a = R := ⟨_, rfl⟩
  obtain ⟨t1, ht1⟩ : ∃ t, (x.t.toList == z.t.toList) = t := ⟨_, rfl⟩
  obtain ⟨t2, ht2⟩ : ∃ t, (y.t.toList == [73]) = t := ⟨_, rfl⟩
  have HQ0 : Hid (knownOf (l.drop i) = if (ok && t1 && t2) = true then (made m z.t, 3) else (noI, 0)) := hid (by
    rw [drop_three hx hy hz, known_rest h2 (by simp [two, convOf, negOf, c3])]
    show (three x y z).elim _ _ = _
    have e2 : (byOf z).toList = [73] := by unfold byOf shiftI; rw [if_pos (by simp only [decide_eq_true_eq]; omega), ByteArray.toList_eq]
    unfold three pushOf
    rw [hM, e2, ht1, ht2, h2, c3]
    cases ok <;> cases t1 <;> cases t2 <;> simp [c4, c5])
  have HM := hid (rmath_any z.t z.a x.a y.a)
  rw [hM] at HM
  have HT := hid (hZ.1 (.inl c4))
  have HK := hid (hZ.2.1 c4)
  have HA := hid hX.2.2.1
  have HY := hid hY.2.2.1
  have HI : Hid (t1 = true → (z.t.data.toList = [74] ∨ -2147483648 ≤ x.a ∧ x.a ≤ 2147483647)) := hid (fun ht => by
    rcases HT.out with h | h
    · exact .inr (hX.2.2.2 h2 (by have : x.t.toList = z.t.toList := by rw [ht] at ht1; simpa using ht1
                                  rw [ByteArray.toList_eq, ByteArray.toList_eq] at this; rw [this]; exact h))
    · exact .inl h)
  have HT1 := hid ht1
  have HT2 := hid ht2
  have d1 : (y.op == 10) = false := by rw [c3]; rfl
  have d2 : (y.op == 9) = false := by rw [c3]; rfl
  have d3 : (y.op != 2) = false := by rw [c3]; rfl
  have e4 : (z.op != 9) = false := by rw [c4]; rfl
  have e5 : (z.a == 12) = false := by simpa using c5
  have f9 : (z.a == 9) = false := by rw [c6]; rfl
  have f10 : (z.a == 10) = false := by rw [c6]; rfl
  have f11 : (z.a == 11) = true := by rw [c6]; rfl
  have HC6 := hid c6
  clear c6
  obtain ⟨X4, hX4⟩ : ∃ X4, X3.alloc (.cells #[.int .i64 z.op, .int .i64 z.a, .int .i64 z.b, .string z.t, .string z.c, .string z.n] 37) = X4 := ⟨_, rfl⟩
  have hE4 : Below X3.heap.size X3 X4 := hX4 ▸ ext_alloc _ _
  have HB4 := hid (HB3.out.trans (hE4.mono HB3.out.size))
  have r5 : X4.heap[X3.heap.size]? = some (.cells #[.int .i64 z.op, .int .i64 z.a, .int .i64 z.b, .string z.t, .string z.c, .string z.n] 37) := hX4 ▸ heap_alloc_last _ _
  have HR4 : Hid (X4.heap[w.heap.size]? = some (.cells #[.int .i64 0, .int .i64 0, .int .i64 0, .string { data := #[] }, .string { data := #[] }, .string { data := #[] }] 37)) := hid ((hE4.block _ (Array.getElem?_eq_some_iff.1 HR3.out).1).trans HR3.out)
  have sp0 : X4.cell? ⟨X1.heap.size, 0, none⟩ = some (.int .i64 x.op) := (hE4.cell (World.block_lt_of_cell? _ _ p0)).trans p0
  have sp1 : X4.cell? ⟨X1.heap.size, 1, none⟩ = some (.int .i64 x.a) := (hE4.cell (World.block_lt_of_cell? _ _ p1)).trans p1
  have sp2 : X4.cell? ⟨X1.heap.size, 2, none⟩ = some (.int .i64 x.b) := (hE4.cell (World.block_lt_of_cell? _ _ p2)).trans p2
  have sp3 : X4.cell? ⟨X1.heap.size, 3, none⟩ = some (.string x.t) := (hE4.cell (World.block_lt_of_cell? _ _ p3)).trans p3
  have sp4 : X4.cell? ⟨X1.heap.size, 4, none⟩ = some (.string x.c) := (hE4.cell (World.block_lt_of_cell? _ _ p4)).trans p4
  have sp5 : X4.cell? ⟨X1.heap.size, 5, none⟩ = some (.string x.n) := (hE4.cell (World.block_lt_of_cell? _ _ p5)).trans p5
  have sq0 : X4.cell? ⟨X2.heap.size, 0, none⟩ = some (.int .i64 y.op) := (hE4.cell (World.block_lt_of_cell? _ _ q0)).trans q0
  have sq1 : X4.cell? ⟨X2.heap.size, 1, none⟩ = some (.int .i64 y.a) := (hE4.cell (World.block_lt_of_cell? _ _ q1)).trans q1
  have sq2 : X4.cell? ⟨X2.heap.size, 2, none⟩ = some (.int .i64 y.b) := (hE4.cell (World.block_lt_of_cell? _ _ q2)).trans q2
  have sq3 : X4.cell? ⟨X2.heap.size, 3, none⟩ = some (.string y.t) := (hE4.cell (World.block_lt_of_cell? _ _ q3)).trans q3
  have sq4 : X4.cell? ⟨X2.heap.size, 4, none⟩ = some (.string y.c) := (hE4.cell (World.block_lt_of_cell? _ _ q4)).trans q4
  have sq5 : X4.cell? ⟨X2.heap.size, 5, none⟩ = some (.string y.n) := (hE4.cell (World.block_lt_of_cell? _ _ q5)).trans q5
  have sz0 : X4.cell? ⟨X3.heap.size, 0, none⟩ = some (.int .i64 z.op) := by rw [cell_of_row _ _ _ _ _ _ r5]; rfl
  have sz1 : X4.cell? ⟨X3.heap.size, 1, none⟩ = some (.int .i64 z.a) := by rw [cell_of_row _ _ _ _ _ _ r5]; rfl
  have sz2 : X4.cell? ⟨X3.heap.size, 2, none⟩ = some (.int .i64 z.b) := by rw [cell_of_row _ _ _ _ _ _ r5]; rfl
  have sz3 : X4.cell? ⟨X3.heap.size, 3, none⟩ = some (.string z.t) := by rw [cell_of_row _ _ _ _ _ _ r5]; rfl
  have sz4 : X4.cell? ⟨X3.heap.size, 4, none⟩ = some (.string z.c) := by rw [cell_of_row _ _ _ _ _ _ r5]; rfl
  have sz5 : X4.cell? ⟨X3.heap.size, 5, none⟩ = some (.string z.n) := by rw [cell_of_row _ _ _ _ _ _ r5]; rfl
  clear hx hy hz hc r2 r3 r4 hE2 hE3 h2 c3 c4 c5 hX hY hZ hM ht1 ht2 hE4 r5
  go_enter Tryd.func27, Tryd.ntmps27
  go_wp2_with fail
  refine (HM.out _ HT.out HK.out HA.out HY.out).mono ?_
  rintro e w2 ⟨n, rfl, hn, hww⟩
  obtain rfl := hww.symm
  have HN := hid hn
  clear hn xa0 xa1 xa2 xa3 xa4 xa5 ya0 ya1 ya2 ya3 ya4 ya5 za0 za1 za2 za3 za4 za5 p0 p1 p2 p3 p4 p5 q0 q1 q2 q3 q4 q5 hX1 hX2 hX3 hX4
  cases t1 with
  | false =>
    have g1e := HT1.out
    have g1n : ¬ x.t.toList = z.t.toList := by simpa using g1e
    have HQ : Hid (knownOf (l.drop i) = (noI, 0)) := hid (HQ0.out.trans (if_neg (by simp)))
    go_wp2_with (refine wpList_store_row rfl 37 (.tmp 4) (.tmp 164) rfl w.heap.size _ rfl rfl 37 _ HR4.out (by kernel_rfl) rfl (by simp [Value.oneCell']) ?_)
    refine bodyPost_ret (results_cell_at rfl _ _ w.heap.size _ _ _ _ rfl (setRow_heap _ _ _ _ _ _ HR4.out) Tryd.underlying37 rfl (by kernel_rfl)) rfl ?_
    rw [HQ.out]
    exact ⟨rfl, Go.Proofs.YtmbcjcicieiolaaDoor.lib.below_setRow HB4.out (Nat.le_refl _) _⟩
  | true =>
    have g1e := HT1.out
    have g1n : x.t.toList = z.t.toList := by simpa using g1e
    have g1e : (x.t.toList == z.t.toList) = true := HT1.out
    have g1d : (x.t.toList != z.t.toList) = false := by simpa using g1e
    clear g1n
    have HNM : Hid (n = m) := hid (HN.out (HI.out rfl))
    cases t2 with
    | false =>
      have g2e := HT2.out
      have g2n : ¬ y.t.toList = [73] := by simpa using g2e
      have HQ : Hid (knownOf (l.drop i) = (noI, 0)) := hid (HQ0.out.trans (if_neg (by simp)))
      go_wp2_with (refine wpList_store_row rfl 37 (.tmp 4) (.tmp 164) rfl w.heap.size _ rfl rfl 37 _ HR4.out (by kernel_rfl) rfl (by simp [Value.oneCell']) ?_)
      refine bodyPost_ret (results_cell_at rfl _ _ w.heap.size _ _ _ _ rfl (setRow_heap _ _ _ _ _ _ HR4.out) Tryd.underlying37 rfl (by kernel_rfl)) rfl ?_
      rw [HQ.out]
      exact ⟨rfl, Go.Proofs.YtmbcjcicieiolaaDoor.lib.below_setRow HB4.out (Nat.le_refl _) _⟩
    | true =>
      have g2e : (y.t.toList == [73]) = true := HT2.out
      have g2d : (y.t.toList != [73]) = false := by simpa using g2e
      cases ok with
      | false =>
        have HQ : Hid (knownOf (l.drop i) = (noI, 0)) := hid (HQ0.out.trans (if_neg (by simp)))
        go_wp2_with (refine wpList_store_row rfl 37 (.tmp 4) (.tmp 164) rfl w.heap.size _ rfl rfl 37 _ HR4.out (by kernel_rfl) rfl (by simp [Value.oneCell']) ?_)
        refine bodyPost_ret (results_cell_at rfl _ _ w.heap.size _ _ _ _ rfl (setRow_heap _ _ _ _ _ _ HR4.out) Tryd.underlying37 rfl (by kernel_rfl)) rfl ?_
        rw [HQ.out]
        exact ⟨rfl, Go.Proofs.YtmbcjcicieiolaaDoor.lib.below_setRow HB4.out (Nat.le_refl _) _⟩
      | true =>
        have HQ : Hid (knownOf (l.drop i) = (made n z.t, 3)) := hid (by rw [HNM.out]; exact HQ0.out.trans (if_pos rfl))
        go_wp2_with (refine wpList_store_row rfl 37 (.tmp 4) (.tmp 168) rfl w.heap.size _ rfl rfl 37 _ HR4.out (by kernel_rfl) rfl (by simp [Value.oneCell']) ?_)
        refine bodyPost_ret (results_cell_at rfl _ _ w.heap.size _ _ _ _ rfl (setRow_heap _ _ _ _ _ _ HR4.out) Tryd.underlying37 rfl (by kernel_rfl)) rfl ?_
        rw [HQ.out]
        exact ⟨rfl, Go.Proofs.YtmbcjcicieiolaaDoor.lib.below_setRow HB4.out (Nat.le_refl _) _⟩

set_option maxRecDepth 100000 in
set_option maxHeartbeats 4000000 in
theorem fa_plain (l : List I) (i b off c : Nat) (w : World) (hc : Go.Proofs.YtmbcjcicieiolaaDoor.flows.Code w (.slice (some ⟨b, off, none⟩) l.length c) l) (h30 : l.length ≤ 2000000) (x y : I) (hx : l[i]? = some x) (hy : l[i + 1]? = some y) (h2 : x.op = 2) (c3 : y.op = 2) (z : I) (hz : l[i + 2]? = some z) (c4 : z.op = 9) (c5 : ¬ z.a = 12) (c6 : ¬ z.a = 9) (c7 : ¬ z.a = 10) (c8 : ¬ z.a = 11) (hX : Sound x) (hY : Sound y) (hZ : Sound z) :
    Calls Tryd.prog 27 #[.slice (some ⟨b, off, none⟩) l.length c, .int .i64 i] w fun e w' => e = .returned (.tuple #[(knownOf (l.drop i)).1.val, .int .i64 (knownOf (l.drop i)).2]) ∧ Below w.heap.size w w' := by
  have hi0 : (0 : Int) ≤ (i : Int) := by omega
  have hil0 : i < l.length := (List.getElem?_eq_some_iff.1 hx).1
  have hil : (i : Int) < (l.length : Int) := by omega
  have i7 : ((i : Int) + 1).toNat = i + 1 := by omega
  have i8 : IntKind.i64.wrap ((i : Int) + 1) = (i : Int) + 1 := by rw [IntKind.wrap_i64]; omega
  have HC := hid hc
  obtain ⟨X1, hX1⟩ : ∃ X1, w.alloc (.cells #[.int .i64 0, .int .i64 0, .int .i64 0, .string { data := #[] }, .string { data := #[] }, .string { data := #[] }] 37) = X1 := ⟨_, rfl⟩
  have HB1 : Hid (Below w.heap.size w X1) := hid (hX1 ▸ ext_alloc _ _)
  have HR1 : Hid (X1.heap[w.heap.size]? = some (.cells #[.int .i64 0, .int .i64 0, .int .i64 0, .string { data := #[] }, .string { data := #[] }, .string { data := #[] }] 37)) := hid (hX1 ▸ heap_alloc_last _ _)
  obtain ⟨xa0, xa1, xa2, xa3, xa4, xa5⟩ := at6 HC.out HB1.out hx
  have e2 : (x.op != 2) = false := by rw [h2]; rfl
  have hil1 : i + 1 < l.length := (List.getElem?_eq_some_iff.1 hy).1
  have hil2 : (i : Int) + 1 < (l.length : Int) := by omega
  have hnge : ¬ (l.length : Int) ≤ (i : Int) + 1 := by omega
  obtain ⟨X2, hX2⟩ : ∃ X2, X1.alloc (.cells #[.int .i64 x.op, .int .i64 x.a, .int .i64 x.b, .string x.t, .string x.c, .string x.n] 37) = X2 := ⟨_, rfl⟩
  have hE2 : Below X1.heap.size X1 X2 := hX2 ▸ ext_alloc _ _
  have HB2 := hid (HB1.out.trans (hE2.mono HB1.out.size))
  have r2 : X2.heap[X1.heap.size]? = some (.cells #[.int .i64 x.op, .int .i64 x.a, .int .i64 x.b, .string x.t, .string x.c, .string x.n] 37) := hX2 ▸ heap_alloc_last _ _
  obtain ⟨ya0, ya1, ya2, ya3, ya4, ya5⟩ := at6 HC.out HB2.out hy
  obtain ⟨X3, hX3⟩ : ∃ X3, X2.alloc (.cells #[.int .i64 y.op, .int .i64 y.a, .int .i64 y.b, .string y.t, .string y.c, .string y.n] 37) = X3 := ⟨_, rfl⟩
  have hE3 : Below X2.heap.size X2 X3 := hX3 ▸ ext_alloc _ _
  have HB3 := hid (HB2.out.trans (hE3.mono HB2.out.size))
  have r3 : X3.heap[X1.heap.size]? = some (.cells #[.int .i64 x.op, .int .i64 x.a, .int .i64 x.b, .string x.t, .string x.c, .string x.n] 37) := (hE3.block _ (Array.getElem?_eq_some_iff.1 r2).1).trans r2
  have r4 : X3.heap[X2.heap.size]? = some (.cells #[.int .i64 y.op, .int .i64 y.a, .int .i64 y.b, .string y.t, .string y.c, .string y.n] 37) := hX3 ▸ heap_alloc_last _ _
  have HR3 : Hid (X3.heap[w.heap.size]? = some (.cells #[.int .i64 0, .int .i64 0, .int .i64 0, .string { data := #[] }, .string { data := #[] }, .string { data := #[] }] 37)) := hid ((hE3.block _ (Nat.lt_of_lt_of_le (Array.getElem?_eq_some_iff.1 HR1.out).1 hE2.size)).trans ((hE2.block _ (Array.getElem?_eq_some_iff.1 HR1.out).1).trans HR1.out))
  have p0 : X3.cell? ⟨X1.heap.size, 0, none⟩ = some (.int .i64 x.op) := by rw [cell_of_row _ _ _ _ _ _ r3]; rfl
  have p1 : X3.cell? ⟨X1.heap.size, 1, none⟩ = some (.int .i64 x.a) := by rw [cell_of_row _ _ _ _ _ _ r3]; rfl
  have p2 : X3.cell? ⟨X1.heap.size, 2, none⟩ = some (.int .i64 x.b) := by rw [cell_of_row _ _ _ _ _ _ r3]; rfl
  have p3 : X3.cell? ⟨X1.heap.size, 3, none⟩ = some (.string x.t) := by rw [cell_of_row _ _ _ _ _ _ r3]; rfl
  have p4 : X3.cell? ⟨X1.heap.size, 4, none⟩ = some (.string x.c) := by rw [cell_of_row _ _ _ _ _ _ r3]; rfl
  have p5 : X3.cell? ⟨X1.heap.size, 5, none⟩ = some (.string x.n) := by rw [cell_of_row _ _ _ _ _ _ r3]; rfl
  have q0 : X3.cell? ⟨X2.heap.size, 0, none⟩ = some (.int .i64 y.op) := by rw [cell_of_row _ _ _ _ _ _ r4]; rfl
  have q1 : X3.cell? ⟨X2.heap.size, 1, none⟩ = some (.int .i64 y.a) := by rw [cell_of_row _ _ _ _ _ _ r4]; rfl
  have q2 : X3.cell? ⟨X2.heap.size, 2, none⟩ = some (.int .i64 y.b) := by rw [cell_of_row _ _ _ _ _ _ r4]; rfl
  have q3 : X3.cell? ⟨X2.heap.size, 3, none⟩ = some (.string y.t) := by rw [cell_of_row _ _ _ _ _ _ r4]; rfl
  have q4 : X3.cell? ⟨X2.heap.size, 4, none⟩ = some (.string y.c) := by rw [cell_of_row _ _ _ _ _ _ r4]; rfl
  have q5 : X3.cell? ⟨X2.heap.size, 5, none⟩ = some (.string y.n) := by rw [cell_of_row _ _ _ _ _ _ r4]; rfl
  have j7 : ((i : Int) + 2).toNat = i + 2 := by omega
  have j8 : IntKind.i64.wrap ((i : Int) + 2) = (i : Int) + 2 := by rw [IntKind.wrap_i64]; omega
  have hil3 : i + 2 < l.length := (List.getElem?_eq_some_iff.1 hz).1
  have hil4 : (i : Int) + 2 < (l.length : Int) := by omega
  have hnge2 : ¬ (l.length : Int) ≤ (i : Int) + 2 := by omega
  obtain ⟨za0, za1, za2, za3, za4, za5⟩ := at6 HC.out HB3.out hz
  obtain ⟨⟨m, ok⟩, hM⟩ : ∃ R, ofOf z.t.data.toList z.a x.a y.a = R := ⟨_, rfl⟩
  obtain ⟨t1, ht1⟩ : ∃ t, (x.t.toList == z.t.toList) = t := ⟨_, rfl⟩
  obtain ⟨t2, ht2⟩ : ∃ t, (y.t.toList == z.t.toList) = t := ⟨_, rfl⟩
  have HQ0 : Hid (knownOf (l.drop i) = if (ok && t1 && t2) = true then (made m z.t, 3) else (noI, 0)) := hid (by
    rw [drop_three hx hy hz, known_rest h2 (by simp [two, convOf, negOf, c3])]
    show (three x y z).elim _ _ = _
    have e2 : (byOf z).toList = z.t.toList := by unfold byOf shiftI; rw [if_neg (by simp only [decide_eq_true_eq]; omega)]
    unfold three pushOf
    rw [hM, e2, ht1, ht2, h2, c3]
    cases ok <;> cases t1 <;> cases t2 <;> simp [c4, c5])
  have HM := hid (rmath_any z.t z.a x.a y.a)
  rw [hM] at HM
  have HT := hid (hZ.1 (.inl c4))
  have HK := hid (hZ.2.1 c4)
  have HA := hid hX.2.2.1
  have HY := hid hY.2.2.1
  have HI : Hid (t1 = true → (z.t.data.toList = [74] ∨ -2147483648 ≤ x.a ∧ x.a ≤ 2147483647)) := hid (fun ht => by
    rcases HT.out with h | h
    · exact .inr (hX.2.2.2 h2 (by have : x.t.toList = z.t.toList := by rw [ht] at ht1; simpa using ht1
                                  rw [ByteArray.toList_eq, ByteArray.toList_eq] at this; rw [this]; exact h))
    · exact .inl h)
  have HT1 := hid ht1
  have HT2 := hid ht2
  have d1 : (y.op == 10) = false := by rw [c3]; rfl
  have d2 : (y.op == 9) = false := by rw [c3]; rfl
  have d3 : (y.op != 2) = false := by rw [c3]; rfl
  have e4 : (z.op != 9) = false := by rw [c4]; rfl
  have e5 : (z.a == 12) = false := by simpa using c5
  have f9 : (z.a == 9) = false := by simpa using c6
  have f10 : (z.a == 10) = false := by simpa using c7
  have f11 : (z.a == 11) = false := by simpa using c8
  clear c6 c7 c8
  obtain ⟨X4, hX4⟩ : ∃ X4, X3.alloc (.cells #[.int .i64 z.op, .int .i64 z.a, .int .i64 z.b, .string z.t, .string z.c, .string z.n] 37) = X4 := ⟨_, rfl⟩
  have hE4 : Below X3.heap.size X3 X4 := hX4 ▸ ext_alloc _ _
  have HB4 := hid (HB3.out.trans (hE4.mono HB3.out.size))
  have r5 : X4.heap[X3.heap.size]? = some (.cells #[.int .i64 z.op, .int .i64 z.a, .int .i64 z.b, .string z.t, .string z.c, .string z.n] 37) := hX4 ▸ heap_alloc_last _ _
  have HR4 : Hid (X4.heap[w.heap.size]? = some (.cells #[.int .i64 0, .int .i64 0, .int .i64 0, .string { data := #[] }, .string { data := #[] }, .string { data := #[] }] 37)) := hid ((hE4.block _ (Array.getElem?_eq_some_iff.1 HR3.out).1).trans HR3.out)
  have sp0 : X4.cell? ⟨X1.heap.size, 0, none⟩ = some (.int .i64 x.op) := (hE4.cell (World.block_lt_of_cell? _ _ p0)).trans p0
  have sp1 : X4.cell? ⟨X1.heap.size, 1, none⟩ = some (.int .i64 x.a) := (hE4.cell (World.block_lt_of_cell? _ _ p1)).trans p1
  have sp2 : X4.cell? ⟨X1.heap.size, 2, none⟩ = some (.int .i64 x.b) := (hE4.cell (World.block_lt_of_cell? _ _ p2)).trans p2
  have sp3 : X4.cell? ⟨X1.heap.size, 3, none⟩ = some (.string x.t) := (hE4.cell (World.block_lt_of_cell? _ _ p3)).trans p3
  have sp4 : X4.cell? ⟨X1.heap.size, 4, none⟩ = some (.string x.c) := (hE4.cell (World.block_lt_of_cell? _ _ p4)).trans p4
  have sp5 : X4.cell? ⟨X1.heap.size, 5, none⟩ = some (.string x.n) := (hE4.cell (World.block_lt_of_cell? _ _ p5)).trans p5
  have sq0 : X4.cell? ⟨X2.heap.size, 0, none⟩ = some (.int .i64 y.op) := (hE4.cell (World.block_lt_of_cell? _ _ q0)).trans q0
  have sq1 : X4.cell? ⟨X2.heap.size, 1, none⟩ = some (.int .i64 y.a) := (hE4.cell (World.block_lt_of_cell? _ _ q1)).trans q1
  have sq2 : X4.cell? ⟨X2.heap.size, 2, none⟩ = some (.int .i64 y.b) := (hE4.cell (World.block_lt_of_cell? _ _ q2)).trans q2
  have sq3 : X4.cell? ⟨X2.heap.size, 3, none⟩ = some (.string y.t) := (hE4.cell (World.block_lt_of_cell? _ _ q3)).trans q3
  have sq4 : X4.cell? ⟨X2.heap.size, 4, none⟩ = some (.string y.c) := (hE4.cell (World.block_lt_of_cell? _ _ q4)).trans q4
  have sq5 : X4.cell? ⟨X2.heap.size, 5, none⟩ = some (.string y.n) := (hE4.cell (World.block_lt_of_cell? _ _ q5)).trans q5
  have sz0 : X4.cell? ⟨X3.heap.size, 0, none⟩ = some (.int .i64 z.op) := by rw [cell_of_row _ _ _ _ _ _ r5]; rfl
  have sz1 : X4.cell? ⟨X3.heap.size, 1, none⟩ = some (.int .i64 z.a) := by rw [cell_of_row _ _ _ _ _ _ r5]; rfl
  have sz2 : X4.cell? ⟨X3.heap.size, 2, none⟩ = some (.int .i64 z.b) := by rw [cell_of_row _ _ _ _ _ _ r5]; rfl
  have sz3 : X4.cell? ⟨X3.heap.size, 3, none⟩ = some (.string z.t) := by rw [cell_of_row _ _ _ _ _ _ r5]; rfl
  have sz4 : X4.cell? ⟨X3.heap.size, 4, none⟩ = some (.string z.c) := by rw [cell_of_row _ _ _ _ _ _ r5]; rfl
  have sz5 : X4.cell? ⟨X3.heap.size, 5, none⟩ = some (.string z.n) := by rw [cell_of_row _ _ _ _ _ _ r5]; rfl
  clear hx hy hz hc r2 r3 r4 hE2 hE3 h2 c3 c4 c5 hX hY hZ hM ht1 ht2 hE4 r5
  go_enter Tryd.func27, Tryd.ntmps27
  go_wp2_with fail
  refine (HM.out _ HT.out HK.out HA.out HY.out).mono ?_
  rintro e w2 ⟨n, rfl, hn, hww⟩
  obtain rfl := hww.symm
  have HN := hid hn
  clear hn xa0 xa1 xa2 xa3 xa4 xa5 ya0 ya1 ya2 ya3 ya4 ya5 za0 za1 za2 za3 za4 za5 p0 p1 p2 p3 p4 p5 q0 q1 q2 q3 q4 q5 hX1 hX2 hX3 hX4
  cases t1 with
  | false =>
    have g1e := HT1.out
    have g1n : ¬ x.t.toList = z.t.toList := by simpa using g1e
    have HQ : Hid (knownOf (l.drop i) = (noI, 0)) := hid (HQ0.out.trans (if_neg (by simp)))
    go_wp2_with (refine wpList_store_row rfl 37 (.tmp 4) (.tmp 164) rfl w.heap.size _ rfl rfl 37 _ HR4.out (by kernel_rfl) rfl (by simp [Value.oneCell']) ?_)
    refine bodyPost_ret (results_cell_at rfl _ _ w.heap.size _ _ _ _ rfl (setRow_heap _ _ _ _ _ _ HR4.out) Tryd.underlying37 rfl (by kernel_rfl)) rfl ?_
    rw [HQ.out]
    exact ⟨rfl, Go.Proofs.YtmbcjcicieiolaaDoor.lib.below_setRow HB4.out (Nat.le_refl _) _⟩
  | true =>
    have g1e := HT1.out
    have g1n : x.t.toList = z.t.toList := by simpa using g1e
    have g1e : (x.t.toList == z.t.toList) = true := HT1.out
    have g1d : (x.t.toList != z.t.toList) = false := by simpa using g1e
    clear g1n
    have HNM : Hid (n = m) := hid (HN.out (HI.out rfl))
    cases t2 with
    | false =>
      have g2e := HT2.out
      have g2n : ¬ y.t.toList = z.t.toList := by simpa using g2e
      have HQ : Hid (knownOf (l.drop i) = (noI, 0)) := hid (HQ0.out.trans (if_neg (by simp)))
      go_wp2_with (refine wpList_store_row rfl 37 (.tmp 4) (.tmp 164) rfl w.heap.size _ rfl rfl 37 _ HR4.out (by kernel_rfl) rfl (by simp [Value.oneCell']) ?_)
      refine bodyPost_ret (results_cell_at rfl _ _ w.heap.size _ _ _ _ rfl (setRow_heap _ _ _ _ _ _ HR4.out) Tryd.underlying37 rfl (by kernel_rfl)) rfl ?_
      rw [HQ.out]
      exact ⟨rfl, Go.Proofs.YtmbcjcicieiolaaDoor.lib.below_setRow HB4.out (Nat.le_refl _) _⟩
    | true =>
      have g2e : (y.t.toList == z.t.toList) = true := HT2.out
      have g2d : (y.t.toList != z.t.toList) = false := by simpa using g2e
      cases ok with
      | false =>
        have HQ : Hid (knownOf (l.drop i) = (noI, 0)) := hid (HQ0.out.trans (if_neg (by simp)))
        go_wp2_with (refine wpList_store_row rfl 37 (.tmp 4) (.tmp 164) rfl w.heap.size _ rfl rfl 37 _ HR4.out (by kernel_rfl) rfl (by simp [Value.oneCell']) ?_)
        refine bodyPost_ret (results_cell_at rfl _ _ w.heap.size _ _ _ _ rfl (setRow_heap _ _ _ _ _ _ HR4.out) Tryd.underlying37 rfl (by kernel_rfl)) rfl ?_
        rw [HQ.out]
        exact ⟨rfl, Go.Proofs.YtmbcjcicieiolaaDoor.lib.below_setRow HB4.out (Nat.le_refl _) _⟩
      | true =>
        have HQ : Hid (knownOf (l.drop i) = (made n z.t, 3)) := hid (by rw [HNM.out]; exact HQ0.out.trans (if_pos rfl))
        go_wp2_with (refine wpList_store_row rfl 37 (.tmp 4) (.tmp 168) rfl w.heap.size _ rfl rfl 37 _ HR4.out (by kernel_rfl) rfl (by simp [Value.oneCell']) ?_)
        refine bodyPost_ret (results_cell_at rfl _ _ w.heap.size _ _ _ _ rfl (setRow_heap _ _ _ _ _ _ HR4.out) Tryd.underlying37 rfl (by kernel_rfl)) rfl ?_
        rw [HQ.out]
        exact ⟨rfl, Go.Proofs.YtmbcjcicieiolaaDoor.lib.below_setRow HB4.out (Nat.le_refl _) _⟩

end Go.Proofs.YtmbcjcicieiolaaDoor.folds
