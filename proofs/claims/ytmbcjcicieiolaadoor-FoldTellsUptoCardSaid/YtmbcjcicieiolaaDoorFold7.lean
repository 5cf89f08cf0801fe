/- Constants folded: fold.known where two pushes and an operation stand first. Condition: the list is not long. -/
import Derived.Test.YtmbcjcicieiolaaDoorFold2
set_option linter.unusedSimpArgs false
namespace Go.Proofs.YtmbcjcicieiolaaDoor.folds
open Go.RowKit Go.Proofs.YtmbcjcicieiolaaDoor.lib Go.Proofs.YtmbcjcicieiolaaDoor.errs Go.Proofs.YtmbcjcicieiolaaDoor.names Go.Proofs.YtmbcjcicieiolaaDoor.descs Go.Proofs.YtmbcjcicieiolaaDoor.ins Go.Proofs.YtmbcjcicieiolaaDoor.flows Go.Proofs.YtmbcjcicieiolaaDoor.nums Go.Proofs.YtmbcjcicieiolaaDoor.grow

set_option maxRecDepth 100000 in
set_option maxHeartbeats 4000000 in
theorem known_low (x y : I) (r : List I) (b off c n : Nat) (w : World) (hc : Go.Proofs.YtmbcjcicieiolaaDoor.flows.Code w (.slice (some ⟨b, off, none⟩) n c) (x :: y :: r)) (hn : n = r.length + 2) (hx : x.op = 2) (c3 : y.op = 2) (z : I) (r2 : List I) (hr : r = z :: r2) (c4 : z.op = 9) (c5 : ¬ z.a = 12) (c6 : pushOf x z.t = true) (a9 : ¬ 9 ≤ z.a) (h30 : n ≤ 2000000) :
   Calls Tryd.prog 42 #[.slice (some ⟨b, off, none⟩) n c] w fun e w' =>
     e = .returned (.tuple #[(knownOf (x :: y :: r)).1.val, .int .i64 (knownOf (x :: y :: r)).2]) ∧ Below w.heap.size w w' := by
  have HRR := hid hr
  clear hr
  obtain ⟨Z, hZ⟩ : ∃ Z, knownOf (x :: y :: r) = Z := ⟨_, rfl⟩
  rw [hZ]
  have HZ : Hid ((two x y).elim (rest3 x y r) (fun m => (m, 2)) = Z) := hid (by rw [← hZ]; exact (if_pos hx).symm)
  clear hZ
  have g1 : (2 : Int) ≤ (n : Int) := by omega
  have g2 : ¬ (n : Int) < 2 := by omega
  have g3 : (1 : Int) < (n : Int) := by omega
  have g4 : (0 : Int) < (n : Int) := by omega
  have k0 : w.cell? ⟨b, off, none⟩ = some (.int .i64 2) := by
    have := ins_cells hc (Below.refl _ _) (k := 0) (by simp) off (by omega) 0 (show 0 < 6 by omega)
    rw [← hx]; exact this
  have hbs : b < w.heap.size := World.block_lt_of_cell? _ _ k0
  have g3' : (1 : Int) < (r.length : Int) + 2 := by omega
  have HC := hid hc
  clear hc hx
  obtain ⟨W1, hW1⟩ : ∃ W1, w.alloc (.cells #[.int .i64 0, .int .i64 0, .int .i64 0, .string { data := #[] }, .string { data := #[] }, .string { data := #[] }] 37) = W1 := ⟨_, rfl⟩
  have HB1 : Hid (Below w.heap.size w W1) := hid (hW1 ▸ ext_alloc _ _)
  have HR1 : Hid (W1.heap[w.heap.size]? = some (.cells #[.int .i64 0, .int .i64 0, .int .i64 0, .string { data := #[] }, .string { data := #[] }, .string { data := #[] }] 37)) := hid (hW1 ▸ heap_alloc_last _ _)
  have k1 : W1.cell? ⟨b, off, none⟩ = some (.int .i64 2) := (HB1.out.cell hbs).trans k0
  have HRD : Hid (∀ w', Below W1.drew.heap.size W1.drew w' → Below w.heap.size w w') := hid (fun w' h => HB1.out.drew.trans (h.mono HB1.out.size))
  go_enter Tryd.func42, Tryd.ntmps42
  go_wp2_with fail
  refine wp_region_two (by kernel_rfl) ?_
  change wpAnyW _ .any _ _ _ 10 (Array.replicate 10 false) _ _
  refine w_read (Below.refl _ _) 0 _ _ rfl (by kernel_rfl) (by kernel_rfl) (by kernel_rfl) (by rfl) (fun u _ => by go_simp; rfl) ?_
  simp only [List.getElem_toArray, List.getElem_cons_zero, List.getElem_cons_succ, Act.put, List.setIfInBounds_toArray, List.set_cons_zero, List.set_cons_succ]
  refine w_read (Below.refl _ _) 1 _ _ rfl (by kernel_rfl) (by kernel_rfl) (by kernel_rfl) (by rfl) (fun u _ => by go_simp; rfl) ?_
  simp only [List.getElem_toArray, List.getElem_cons_zero, List.getElem_cons_succ, Act.put, List.setIfInBounds_toArray, List.set_cons_zero, List.set_cons_succ]
  refine w_flat (Below.refl _ _) 2 _ x.cells.toArray rfl (by kernel_rfl) (by kernel_rfl) (by kernel_rfl) (by rfl) 37 _ rfl b (off) rfl _ Tryd.underlying37 rfl (by kernel_rfl) (fun u hu => ins_cells HC.out (HRD.out u hu) (k := 0) (by simp) _ (by omega)) ?_
  simp only [List.getElem_toArray, List.getElem_cons_zero, List.getElem_cons_succ, Act.put, List.setIfInBounds_toArray, List.set_cons_zero, List.set_cons_succ]
  refine w_read (Below.refl _ _) 3 _ _ rfl (by kernel_rfl) (by kernel_rfl) (by kernel_rfl) (by rfl) (fun u _ => by go_simp; rfl) ?_
  simp only [List.getElem_toArray, List.getElem_cons_zero, List.getElem_cons_succ, Act.put, List.setIfInBounds_toArray, List.set_cons_zero, List.set_cons_succ]
  refine w_read (Below.refl _ _) 4 _ _ rfl (by kernel_rfl) (by kernel_rfl) (by kernel_rfl) (by rfl) (fun u _ => by go_simp; rfl) ?_
  simp only [List.getElem_toArray, List.getElem_cons_zero, List.getElem_cons_succ, Act.put, List.setIfInBounds_toArray, List.set_cons_zero, List.set_cons_succ]
  refine w_flat (Below.refl _ _) 5 _ y.cells.toArray rfl (by kernel_rfl) (by kernel_rfl) (by kernel_rfl) (by rfl) 37 _ rfl b (off + 6) rfl _ Tryd.underlying37 rfl (by kernel_rfl) (fun u hu => ins_cells HC.out (HRD.out u hu) (k := 1) (by simp) _ (by omega)) ?_
  simp only [List.getElem_toArray, List.getElem_cons_zero, List.getElem_cons_succ, Act.put, List.setIfInBounds_toArray, List.set_cons_zero, List.set_cons_succ]
  refine w_pair 6 7 8 9 _ _ _ _ 37 #[.int .i64 0, .int .i64 0, .int .i64 0, .string { data := #[] }, .string { data := #[] }, .string { data := #[] }] x.cells.toArray y.cells.toArray (.tmp 4) (.tmp 24) (.tmp 5) (.tmp 27) (by kernel_rfl) rfl rfl rfl rfl rfl rfl rfl rfl rfl rfl rfl rfl (by intro d hd; cases hd; decide)
    (fun a w => by go_simp) (fun a w => by go_simp) (fun _ _ => ⟨rfl, rfl⟩) (fun _ _ => ⟨rfl, rfl⟩) (by kernel_rfl) (by kernel_rfl) rfl rfl (one_cells x) (one_cells y) (Below.refl _ _) ?_
  intro b4 b5 w3 hne h4 h5 r4 r5 hb3
  simp only [List.getElem_toArray, List.getElem_cons_zero, List.getElem_cons_succ, Act.put, List.setIfInBounds_toArray, List.set_cons_zero, List.set_cons_succ]
  have p0 : w3.cell? ⟨b4, 0, none⟩ = some (.int .i64 x.op) := by rw [cell_of_row _ _ _ _ _ _ r4]; rfl
  have p1 : w3.cell? ⟨b4, 1, none⟩ = some (.int .i64 x.a) := by rw [cell_of_row _ _ _ _ _ _ r4]; rfl
  have p2 : w3.cell? ⟨b4, 2, none⟩ = some (.int .i64 x.b) := by rw [cell_of_row _ _ _ _ _ _ r4]; rfl
  have p3 : w3.cell? ⟨b4, 3, none⟩ = some (.string x.t) := by rw [cell_of_row _ _ _ _ _ _ r4]; rfl
  have p4 : w3.cell? ⟨b4, 4, none⟩ = some (.string x.c) := by rw [cell_of_row _ _ _ _ _ _ r4]; rfl
  have p5 : w3.cell? ⟨b4, 5, none⟩ = some (.string x.n) := by rw [cell_of_row _ _ _ _ _ _ r4]; rfl
  have q0 : w3.cell? ⟨b5, 0, none⟩ = some (.int .i64 y.op) := by rw [cell_of_row _ _ _ _ _ _ r5]; rfl
  have q1 : w3.cell? ⟨b5, 1, none⟩ = some (.int .i64 y.a) := by rw [cell_of_row _ _ _ _ _ _ r5]; rfl
  have q2 : w3.cell? ⟨b5, 2, none⟩ = some (.int .i64 y.b) := by rw [cell_of_row _ _ _ _ _ _ r5]; rfl
  have q3 : w3.cell? ⟨b5, 3, none⟩ = some (.string y.t) := by rw [cell_of_row _ _ _ _ _ _ r5]; rfl
  have q4 : w3.cell? ⟨b5, 4, none⟩ = some (.string y.c) := by rw [cell_of_row _ _ _ _ _ _ r5]; rfl
  have q5 : w3.cell? ⟨b5, 5, none⟩ = some (.string y.n) := by rw [cell_of_row _ _ _ _ _ _ r5]; rfl
  have HB3 := hid (HRD.out w3 hb3)
  have l4 : b4 < w3.heap.size := World.block_lt_of_cell? _ _ p0
  have l5 : b5 < w3.heap.size := World.block_lt_of_cell? _ _ q0
  have HS : Hid (w.heap.size < W1.heap.size ∧ W1.heap.size ≤ b4 ∧ W1.heap.size ≤ b5) := hid ⟨(Array.getElem?_eq_some_iff.1 HR1.out).1, h4, h5⟩
  have HR3 : Hid (w3.heap[w.heap.size]? = some (.cells #[.int .i64 0, .int .i64 0, .int .i64 0, .string { data := #[] }, .string { data := #[] }, .string { data := #[] }] 37)) := hid ((hb3.block _ (show w.heap.size < W1.drew.heap.size from HS.out.1)).trans HR1.out)
  have HR4 := hid r4
  have HR5 := hid r5
  have HBB3 := hid hb3
  have HRA : Hid (∀ o, (w3.alloc o).heap[w.heap.size]? = some (.cells #[.int .i64 0, .int .i64 0, .int .i64 0, .string { data := #[] }, .string { data := #[] }, .string { data := #[] }] 37)) := hid (fun o => (Below.heap_alloc w3 o _ (Nat.lt_of_lt_of_le (Nat.lt_of_lt_of_le HS.out.1 HS.out.2.1) (Nat.le_of_lt l4))).trans HR3.out)
  clear r4 r5 hb3 h4 h5 k1 k0
  obtain ⟨⟨m, ok⟩, hR⟩ : ∃ R, ofOf z.t.data.toList z.a x.a y.a = R := ⟨_, rfl⟩
  have HQ : Hid (Z = if (ok && pushOf y z.t) = true then (made m z.t, 3) else (noI, 0)) := hid (by
    rw [← HZ.out]
    have e1 : two x y = none := by simp [two, convOf, negOf, c3]
    have e2 : byOf z = z.t := by unfold byOf shiftI; rw [if_neg (by simp only [decide_eq_true_eq]; omega)]
    have e3 : three x y z = if (ok && pushOf y z.t) = true then some (made m z.t) else none := by
      unfold three; rw [hR, e2]; simp [c3, c4, c5, c6]
    rw [e1, HRR.out]; show (three x y z).elim _ _ = _; rw [e3]; cases ok <;> cases pushOf y z.t <;> rfl)
  have c1 : ¬ y.op = 10 := by omega
  have c2 : ¬ y.op = 9 := by omega
  have HC3 := hid c3; have HC4 := hid c4
  clear c3 c4
  go_wp2_with fail
  obtain ⟨V, hV⟩ : ∃ V, w3.alloc (.cells #[.int .i64 2, .int .i64 0, .int .i64 0, .string y.t, .string { data := #[] }, .string { data := #[] }] 37) = V := ⟨_, rfl⟩
  have HBV : Hid (Below w.heap.size w V) := hid (hV ▸ HB3.out.alloc HB3.out.size _)
  have HBV3 : Hid (Below w3.heap.size w3 V) := hid (hV ▸ ext_alloc w3 _)
  have HRV : Hid (V.heap[w.heap.size]? = some (.cells #[.int .i64 0, .int .i64 0, .int .i64 0, .string { data := #[] }, .string { data := #[] }, .string { data := #[] }] 37)) := hid (hV ▸ HRA.out _)
  have q0V : V.cell? ⟨b5, 0, none⟩ = some (.int .i64 y.op) := (HBV3.out.cell l5).trans q0
  have HL5 : Hid (b5 < V.heap.size) := hid (World.block_lt_of_cell? _ _ q0V)
  rw [hV]
  clear hV
  have HZC : Hid (∀ u, Below V.heap.size V u → ∀ j v, z.cells[j]? = some v → u.cell? ⟨b, off + 12 + j, none⟩ = some v) := hid (fun u hu j v hv => by
    have hj : j < 6 := by
      rcases Nat.lt_or_ge j 6 with h | h
      · exact h
      · rw [List.getElem?_eq_none (by simpa [I.cells] using h)] at hv; cases hv
    have hr := HRR.out
    have h2 : 2 < (x :: y :: r).length := by rw [hr]; simp
    have := ins_cells HC.out (HBV.out.trans (hu.mono HBV.out.size)) (k := 2) h2 (off + 12) (by omega) j hj
    rw [this]
    have e : (x :: y :: r)[2] = z := by subst hr; rfl
    rw [e, ← hv, List.getElem?_toArray])
  have g5 : (2 : Int) < (r.length : Int) + 2 := by rw [HRR.out, List.length_cons]; omega
  have g6 : ¬ (r.length : Int) + 2 < 3 := by omega
  have HRB : Hid (∀ u, Below V.heap.size V u → u.heap[b4]? = w3.heap[b4]?) := hid (fun u hu => (hu.block _ (Nat.lt_of_lt_of_le l4 HBV3.out.size)).trans (HBV3.out.block _ l4))
  refine wp_region_ext [(28, is (.bool true))] ⟨is_stays _, trivial⟩ (by kernel_rfl) (by kernel_rfl) ?_
  refine wpG_calc 1 rfl rfl rfl (fun u => by go_simp; rfl) ?_
  simp only [Act.put, List.setIfInBounds_toArray, List.set_cons_zero, List.set_cons_succ]
  refine wpG_calc 2 rfl rfl rfl (fun u => by go_simp; rfl) ?_
  simp only [Act.put, List.setIfInBounds_toArray, List.set_cons_zero, List.set_cons_succ]
  refine wpG_calc (v := .bool false) 3 rfl rfl rfl (fun u => by go_simp) ?_
  simp only [Act.put, List.setIfInBounds_toArray, List.set_cons_zero, List.set_cons_succ]
  refine wpG_calc 4 rfl rfl rfl (fun u => by go_simp; rfl) ?_
  simp only [Act.put, List.setIfInBounds_toArray, List.set_cons_zero, List.set_cons_succ]
  refine wpG_calc 5 rfl rfl rfl (fun u => by go_simp; rfl) ?_
  simp only [Act.put, List.setIfInBounds_toArray, List.set_cons_zero, List.set_cons_succ]
  refine wpG_read 6 rfl rfl (.int .i64 y.op) rfl ?_ ?_
  · intro u hu hh
    have hk : u.cell? ⟨b5, 0, none⟩ = some (.int .i64 y.op) := (hu.cell HL5.out).trans q0V
    go_simp
  simp only [Act.put, List.setIfInBounds_toArray, List.set_cons_zero, List.set_cons_succ]
  refine wpG_calc (v := .bool false) 7 rfl rfl rfl (fun u => by have c3 := HC3.out; go_simp) ?_
  simp only [Act.put, List.setIfInBounds_toArray, List.set_cons_zero, List.set_cons_succ]
  refine wpG_calc (v := .bool false) 8 rfl rfl rfl (fun u => by go_simp) ?_
  simp only [Act.put, List.setIfInBounds_toArray, List.set_cons_zero, List.set_cons_succ]
  refine wpG_calc 9 rfl rfl rfl (fun u => by go_simp; rfl) ?_
  simp only [Act.put, List.setIfInBounds_toArray, List.set_cons_zero, List.set_cons_succ]
  refine wpG_calc 10 rfl rfl rfl (fun u => by go_simp; rfl) ?_
  simp only [Act.put, List.setIfInBounds_toArray, List.set_cons_zero, List.set_cons_succ]
  refine wpG_calc 11 rfl rfl rfl (fun u => by go_simp; rfl) ?_
  simp only [Act.put, List.setIfInBounds_toArray, List.set_cons_zero, List.set_cons_succ]
  refine wpG_calc 12 rfl rfl rfl (fun u => by go_simp; rfl) ?_
  simp only [Act.put, List.setIfInBounds_toArray, List.set_cons_zero, List.set_cons_succ]
  refine wpG_read 13 rfl rfl (.int .i64 z.op) rfl ?_ ?_
  · intro u hu hh
    have hk : u.cell? ⟨b, off + 12, none⟩ = some (.int .i64 z.op) := HZC.out u hu 0 _ rfl
    go_simp
  simp only [Act.put, List.setIfInBounds_toArray, List.set_cons_zero, List.set_cons_succ]
  refine wpG_calc (v := .bool false) 14 rfl rfl rfl (fun u => by have c4 := HC4.out; go_simp) ?_
  simp only [Act.put, List.setIfInBounds_toArray, List.set_cons_zero, List.set_cons_succ]
  refine wpG_calc (v := .bool false) 15 rfl rfl rfl (fun u => by go_simp) ?_
  simp only [Act.put, List.setIfInBounds_toArray, List.set_cons_zero, List.set_cons_succ]
  refine wpG_calc 16 rfl rfl rfl (fun u => by go_simp; rfl) ?_
  simp only [Act.put, List.setIfInBounds_toArray, List.set_cons_zero, List.set_cons_succ]
  refine wpG_calc 17 rfl rfl rfl (fun u => by go_simp; rfl) ?_
  simp only [Act.put, List.setIfInBounds_toArray, List.set_cons_zero, List.set_cons_succ]
  refine wpG_calc 18 rfl rfl rfl (fun u => by go_simp; rfl) ?_
  simp only [Act.put, List.setIfInBounds_toArray, List.set_cons_zero, List.set_cons_succ]
  refine wpG_calc 19 rfl rfl rfl (fun u => by go_simp; rfl) ?_
  simp only [Act.put, List.setIfInBounds_toArray, List.set_cons_zero, List.set_cons_succ]
  refine wpG_read 20 rfl rfl (.int .i64 z.a) rfl ?_ ?_
  · intro u hu hh
    have hk : u.cell? ⟨b, off + 12 + 1, none⟩ = some (.int .i64 z.a) := HZC.out u hu 1 _ rfl
    go_simp
  simp only [Act.put, List.setIfInBounds_toArray, List.set_cons_zero, List.set_cons_succ]
  refine wpG_calc (v := .bool false) 21 rfl rfl rfl (fun u => by go_simp) ?_
  simp only [Act.put, List.setIfInBounds_toArray, List.set_cons_zero, List.set_cons_succ]
  refine wpG_calc (v := .bool false) 22 rfl rfl rfl (fun u => by go_simp) ?_
  simp only [Act.put, List.setIfInBounds_toArray, List.set_cons_zero, List.set_cons_succ]
  refine wpG_calc 23 rfl rfl rfl (fun u => by go_simp; rfl) ?_
  simp only [Act.put, List.setIfInBounds_toArray, List.set_cons_zero, List.set_cons_succ]
  refine wpG_read 24 rfl rfl (.agg x.cells.toArray) rfl ?_ ?_
  · intro u hu hh
    have hrow := (HRB.out u hu).trans HR4.out
    have hld := run_loadVar_row (P := Tryd.prog) u b4 37 37 _ _ _ hrow Tryd.underlying37 rfl (by kernel_rfl)
    unfold execOp
    simp only [Act.eval, Instr.loadAt, Instr.sureAddr, Sem.run_bind, Sem.run_pure]
    change ((Sem.run Tryd.prog (loadVar 37 ⟨b4, 0, none⟩) u).andThen fun a w' => Result.ok (Next.value a) w') = _
    rw [hld]
    rfl
  simp only [Act.put, List.setIfInBounds_toArray, List.set_cons_zero, List.set_cons_succ]
  refine wpG_calc 25 rfl rfl rfl (fun u => by go_simp; rfl) ?_
  simp only [Act.put, List.setIfInBounds_toArray, List.set_cons_zero, List.set_cons_succ]
  refine wpG_calc 26 rfl rfl rfl (fun u => by go_simp; rfl) ?_
  simp only [Act.put, List.setIfInBounds_toArray, List.set_cons_zero, List.set_cons_succ]
  refine wpG_calc 27 rfl rfl rfl (fun u => by go_simp; rfl) ?_
  simp only [Act.put, List.setIfInBounds_toArray, List.set_cons_zero, List.set_cons_succ]
  refine wpG_read 28 rfl rfl (.string z.t) rfl ?_ ?_
  · intro u hu hh
    have hk : u.cell? ⟨b, off + 12 + 3, none⟩ = some (.string z.t) := HZC.out u hu 3 _ rfl
    go_simp
  simp only [Act.put, List.setIfInBounds_toArray, List.set_cons_zero, List.set_cons_succ]
  refine wpG_rel 29 rfl rfl rfl ?_ ?_
  · intro u hu hh
    go_simp
    refine (push_any x z.t u).mono ?_
    rintro e w6 ⟨rfl, hb6⟩
    exact ⟨_, rfl, (by rw [c6]; rfl), hb6⟩
  intro v28 ⟨u28, _, hr28⟩
  cases hr28
  simp only [Act.put, List.setIfInBounds_toArray, List.set_cons_zero, List.set_cons_succ]
  refine wpG_calc 30 rfl rfl rfl (fun u => by go_simp; rfl) ?_
  simp only [Act.put, List.setIfInBounds_toArray, List.set_cons_zero, List.set_cons_succ]
  refine wpG_calc 31 rfl rfl rfl (fun u => by go_simp; rfl) ?_
  simp only [Act.put, List.setIfInBounds_toArray, List.set_cons_zero, List.set_cons_succ]
  refine wpG_calc 32 rfl rfl rfl (fun u => by go_simp; rfl) ?_
  simp only [Act.put, List.setIfInBounds_toArray, List.set_cons_zero, List.set_cons_succ]
  refine wpG_nil fun w' hb' hF => ?_
  have HBW := hid (HBV.out.trans (hb'.mono HBV.out.size))
  have BW : Below w3.heap.size w3 w' := HBV3.out.trans (hb'.mono HBV3.out.size)
  have P1 := (BW.cell (p := ⟨b4, 1, none⟩) l4).trans p1
  have Q0 := (BW.cell (p := ⟨b5, 0, none⟩) l5).trans q0
  have Q1 := (BW.cell (p := ⟨b5, 1, none⟩) l5).trans q1
  have Q2 := (BW.cell (p := ⟨b5, 2, none⟩) l5).trans q2
  have Q3 := (BW.cell (p := ⟨b5, 3, none⟩) l5).trans q3
  have Q4 := (BW.cell (p := ⟨b5, 4, none⟩) l5).trans q4
  have Q5 := (BW.cell (p := ⟨b5, 5, none⟩) l5).trans q5
  have L4 : b4 < w'.heap.size := Nat.lt_of_lt_of_le l4 BW.size
  have L5 : b5 < w'.heap.size := Nat.lt_of_lt_of_le l5 BW.size
  have Z0 : w'.cell? ⟨b, off + 12, none⟩ = some (.int .i64 z.op) := HZC.out w' hb' 0 _ rfl
  have Z1 : w'.cell? ⟨b, off + 13, none⟩ = some (.int .i64 z.a) := HZC.out w' hb' 1 _ rfl
  have Z2 : w'.cell? ⟨b, off + 14, none⟩ = some (.int .i64 z.b) := HZC.out w' hb' 2 _ rfl
  have Z3 : w'.cell? ⟨b, off + 15, none⟩ = some (.string z.t) := HZC.out w' hb' 3 _ rfl
  have Z4 : w'.cell? ⟨b, off + 16, none⟩ = some (.string z.c) := HZC.out w' hb' 4 _ rfl
  have Z5 : w'.cell? ⟨b, off + 17, none⟩ = some (.string z.n) := HZC.out w' hb' 5 _ rfl
  have LB : b < w'.heap.size := World.block_lt_of_cell? _ _ Z0
  have HLT : Hid (w.heap.size < w'.heap.size) := hid (Nat.lt_of_lt_of_le (Nat.lt_of_lt_of_le HS.out.1 HS.out.2.1) (Nat.le_of_lt L4))
  have HRU : Hid (∀ o, (w'.alloc o).heap[w.heap.size]? = some (.cells #[.int .i64 0, .int .i64 0, .int .i64 0, .string { data := #[] }, .string { data := #[] }, .string { data := #[] }] 37)) := hid (fun o => (Below.heap_alloc w' o _ HLT.out).trans ((hb'.block _ (Array.getElem?_eq_some_iff.1 HRV.out).1).trans HRV.out))
  have HBU : Hid (∀ o, Below w.heap.size w (w'.alloc o)) := hid (fun o => HBW.out.alloc HBW.out.size _)
  have HSZ : Hid (∀ o, (w'.alloc o).heap.size = w'.heap.size + 1) := hid (fun o => Array.size_push _)
  clear p0 p1 p2 p3 p4 p5 q0 q1 q2 q3 q4 q5 q0V l4 l5 BW hb' hF
  go_wp2_with fail
  refine (of_any z.t z.a x.a y.a _).mono ?_
  rw [hR]
  rintro e w5 ⟨rfl, hww⟩
  obtain rfl := hww.symm
  cases ok
  · skip
    go_wp2_with (refine wpList_store_row rfl 37 (.tmp 2) (.tmp 146) rfl w.heap.size _ rfl rfl 37 _ (HRU.out _) (by kernel_rfl) rfl (by simp [Value.oneCell']) ?_)
    refine bodyPost_ret (results_cell_at rfl _ _ w.heap.size _ _ _ _ rfl (setRow_heap _ _ _ _ _ _ (HRU.out _)) Tryd.underlying37 rfl (by kernel_rfl)) rfl ?_
    rw [HQ.out]
    exact ⟨rfl, Go.Proofs.YtmbcjcicieiolaaDoor.lib.below_setRow (HBU.out _) (Nat.le_refl _) _⟩
  · skip
    go_wp2_with fail
    refine (push_any y z.t _).mono ?_
    rintro e w6 ⟨rfl, hb6⟩
    obtain ⟨pv, hpv⟩ : ∃ p, pushOf y z.t = p := ⟨_, rfl⟩
    rw [hpv] at HQ ⊢
    have hT := (hb6.block w'.heap.size (by rw [HSZ.out]; omega)).trans (heap_alloc_last _ _)
    have HR6 : Hid (w6.heap[w.heap.size]? = some (.cells #[.int .i64 0, .int .i64 0, .int .i64 0, .string { data := #[] }, .string { data := #[] }, .string { data := #[] }] 37)) := hid ((hb6.block _ (by rw [HSZ.out]; have := HLT.out; omega)).trans (HRU.out _))
    have HB6 : Hid (Below w.heap.size w w6) := hid ((HBU.out _).trans (hb6.mono (by rw [HSZ.out]; have := HLT.out; omega)))
    have T3 : w6.cell? ⟨w'.heap.size, 3, none⟩ = some (.string z.t) := by rw [cell_of_row _ _ _ _ _ _ hT]; rfl
    clear hT hb6
    cases pv
    · skip
      go_wp2_with (refine wpList_store_row rfl 37 (.tmp 2) (.tmp 146) rfl w.heap.size _ rfl rfl 37 _ (HR6.out) (by kernel_rfl) rfl (by simp [Value.oneCell']) ?_)
      refine bodyPost_ret (results_cell_at rfl _ _ w.heap.size _ _ _ _ rfl (setRow_heap _ _ _ _ _ _ (HR6.out)) Tryd.underlying37 rfl (by kernel_rfl)) rfl ?_
      rw [HQ.out]
      exact ⟨rfl, Go.Proofs.YtmbcjcicieiolaaDoor.lib.below_setRow (HB6.out) (Nat.le_refl _) _⟩
    · skip
      go_wp2_with (refine wpList_store_row rfl 37 (.tmp 2) (.tmp 150) rfl w.heap.size _ rfl rfl 37 _ (HR6.out) (by kernel_rfl) rfl (by simp [Value.oneCell']) ?_)
      refine bodyPost_ret (results_cell_at rfl _ _ w.heap.size _ _ _ _ rfl (setRow_heap _ _ _ _ _ _ (HR6.out)) Tryd.underlying37 rfl (by kernel_rfl)) rfl ?_
      rw [HQ.out]
      exact ⟨rfl, Go.Proofs.YtmbcjcicieiolaaDoor.lib.below_setRow (HB6.out) (Nat.le_refl _) _⟩
set_option maxRecDepth 100000 in
set_option maxHeartbeats 4000000 in
theorem known_high (x y : I) (r : List I) (b off c n : Nat) (w : World) (hc : Go.Proofs.YtmbcjcicieiolaaDoor.flows.Code w (.slice (some ⟨b, off, none⟩) n c) (x :: y :: r)) (hn : n = r.length + 2) (hx : x.op = 2) (c3 : y.op = 2) (z : I) (r2 : List I) (hr : r = z :: r2) (c4 : z.op = 9) (c5 : ¬ z.a = 12) (c6 : pushOf x z.t = true) (a9 : 9 ≤ z.a) (a11 : ¬ z.a ≤ 11) (h30 : n ≤ 2000000) :
   Calls Tryd.prog 42 #[.slice (some ⟨b, off, none⟩) n c] w fun e w' =>
     e = .returned (.tuple #[(knownOf (x :: y :: r)).1.val, .int .i64 (knownOf (x :: y :: r)).2]) ∧ Below w.heap.size w w' := by
  have HRR := hid hr
  clear hr
  obtain ⟨Z, hZ⟩ : ∃ Z, knownOf (x :: y :: r) = Z := ⟨_, rfl⟩
  rw [hZ]
  have HZ : Hid ((two x y).elim (rest3 x y r) (fun m => (m, 2)) = Z) := hid (by rw [← hZ]; exact (if_pos hx).symm)
  clear hZ
  have g1 : (2 : Int) ≤ (n : Int) := by omega
  have g2 : ¬ (n : Int) < 2 := by omega
  have g3 : (1 : Int) < (n : Int) := by omega
  have g4 : (0 : Int) < (n : Int) := by omega
  have k0 : w.cell? ⟨b, off, none⟩ = some (.int .i64 2) := by
    have := ins_cells hc (Below.refl _ _) (k := 0) (by simp) off (by omega) 0 (show 0 < 6 by omega)
    rw [← hx]; exact this
  have hbs : b < w.heap.size := World.block_lt_of_cell? _ _ k0
  have g3' : (1 : Int) < (r.length : Int) + 2 := by omega
  have HC := hid hc
  clear hc hx
  obtain ⟨W1, hW1⟩ : ∃ W1, w.alloc (.cells #[.int .i64 0, .int .i64 0, .int .i64 0, .string { data := #[] }, .string { data := #[] }, .string { data := #[] }] 37) = W1 := ⟨_, rfl⟩
  have HB1 : Hid (Below w.heap.size w W1) := hid (hW1 ▸ ext_alloc _ _)
  have HR1 : Hid (W1.heap[w.heap.size]? = some (.cells #[.int .i64 0, .int .i64 0, .int .i64 0, .string { data := #[] }, .string { data := #[] }, .string { data := #[] }] 37)) := hid (hW1 ▸ heap_alloc_last _ _)
  have k1 : W1.cell? ⟨b, off, none⟩ = some (.int .i64 2) := (HB1.out.cell hbs).trans k0
  have HRD : Hid (∀ w', Below W1.drew.heap.size W1.drew w' → Below w.heap.size w w') := hid (fun w' h => HB1.out.drew.trans (h.mono HB1.out.size))
  go_enter Tryd.func42, Tryd.ntmps42
  go_wp2_with fail
  refine wp_region_two (by kernel_rfl) ?_
  change wpAnyW _ .any _ _ _ 10 (Array.replicate 10 false) _ _
  refine w_read (Below.refl _ _) 0 _ _ rfl (by kernel_rfl) (by kernel_rfl) (by kernel_rfl) (by rfl) (fun u _ => by go_simp; rfl) ?_
  simp only [List.getElem_toArray, List.getElem_cons_zero, List.getElem_cons_succ, Act.put, List.setIfInBounds_toArray, List.set_cons_zero, List.set_cons_succ]
  refine w_read (Below.refl _ _) 1 _ _ rfl (by kernel_rfl) (by kernel_rfl) (by kernel_rfl) (by rfl) (fun u _ => by go_simp; rfl) ?_
  simp only [List.getElem_toArray, List.getElem_cons_zero, List.getElem_cons_succ, Act.put, List.setIfInBounds_toArray, List.set_cons_zero, List.set_cons_succ]
  refine w_flat (Below.refl _ _) 2 _ x.cells.toArray rfl (by kernel_rfl) (by kernel_rfl) (by kernel_rfl) (by rfl) 37 _ rfl b (off) rfl _ Tryd.underlying37 rfl (by kernel_rfl) (fun u hu => ins_cells HC.out (HRD.out u hu) (k := 0) (by simp) _ (by omega)) ?_
  simp only [List.getElem_toArray, List.getElem_cons_zero, List.getElem_cons_succ, Act.put, List.setIfInBounds_toArray, List.set_cons_zero, List.set_cons_succ]
  refine w_read (Below.refl _ _) 3 _ _ rfl (by kernel_rfl) (by kernel_rfl) (by kernel_rfl) (by rfl) (fun u _ => by go_simp; rfl) ?_
  simp only [List.getElem_toArray, List.getElem_cons_zero, List.getElem_cons_succ, Act.put, List.setIfInBounds_toArray, List.set_cons_zero, List.set_cons_succ]
  refine w_read (Below.refl _ _) 4 _ _ rfl (by kernel_rfl) (by kernel_rfl) (by kernel_rfl) (by rfl) (fun u _ => by go_simp; rfl) ?_
  simp only [List.getElem_toArray, List.getElem_cons_zero, List.getElem_cons_succ, Act.put, List.setIfInBounds_toArray, List.set_cons_zero, List.set_cons_succ]
  refine w_flat (Below.refl _ _) 5 _ y.cells.toArray rfl (by kernel_rfl) (by kernel_rfl) (by kernel_rfl) (by rfl) 37 _ rfl b (off + 6) rfl _ Tryd.underlying37 rfl (by kernel_rfl) (fun u hu => ins_cells HC.out (HRD.out u hu) (k := 1) (by simp) _ (by omega)) ?_
  simp only [List.getElem_toArray, List.getElem_cons_zero, List.getElem_cons_succ, Act.put, List.setIfInBounds_toArray, List.set_cons_zero, List.set_cons_succ]
  refine w_pair 6 7 8 9 _ _ _ _ 37 #[.int .i64 0, .int .i64 0, .int .i64 0, .string { data := #[] }, .string { data := #[] }, .string { data := #[] }] x.cells.toArray y.cells.toArray (.tmp 4) (.tmp 24) (.tmp 5) (.tmp 27) (by kernel_rfl) rfl rfl rfl rfl rfl rfl rfl rfl rfl rfl rfl rfl (by intro d hd; cases hd; decide)
    (fun a w => by go_simp) (fun a w => by go_simp) (fun _ _ => ⟨rfl, rfl⟩) (fun _ _ => ⟨rfl, rfl⟩) (by kernel_rfl) (by kernel_rfl) rfl rfl (one_cells x) (one_cells y) (Below.refl _ _) ?_
  intro b4 b5 w3 hne h4 h5 r4 r5 hb3
  simp only [List.getElem_toArray, List.getElem_cons_zero, List.getElem_cons_succ, Act.put, List.setIfInBounds_toArray, List.set_cons_zero, List.set_cons_succ]
  have p0 : w3.cell? ⟨b4, 0, none⟩ = some (.int .i64 x.op) := by rw [cell_of_row _ _ _ _ _ _ r4]; rfl
  have p1 : w3.cell? ⟨b4, 1, none⟩ = some (.int .i64 x.a) := by rw [cell_of_row _ _ _ _ _ _ r4]; rfl
  have p2 : w3.cell? ⟨b4, 2, none⟩ = some (.int .i64 x.b) := by rw [cell_of_row _ _ _ _ _ _ r4]; rfl
  have p3 : w3.cell? ⟨b4, 3, none⟩ = some (.string x.t) := by rw [cell_of_row _ _ _ _ _ _ r4]; rfl
  have p4 : w3.cell? ⟨b4, 4, none⟩ = some (.string x.c) := by rw [cell_of_row _ _ _ _ _ _ r4]; rfl
  have p5 : w3.cell? ⟨b4, 5, none⟩ = some (.string x.n) := by rw [cell_of_row _ _ _ _ _ _ r4]; rfl
  have q0 : w3.cell? ⟨b5, 0, none⟩ = some (.int .i64 y.op) := by rw [cell_of_row _ _ _ _ _ _ r5]; rfl
  have q1 : w3.cell? ⟨b5, 1, none⟩ = some (.int .i64 y.a) := by rw [cell_of_row _ _ _ _ _ _ r5]; rfl
  have q2 : w3.cell? ⟨b5, 2, none⟩ = some (.int .i64 y.b) := by rw [cell_of_row _ _ _ _ _ _ r5]; rfl
  have q3 : w3.cell? ⟨b5, 3, none⟩ = some (.string y.t) := by rw [cell_of_row _ _ _ _ _ _ r5]; rfl
  have q4 : w3.cell? ⟨b5, 4, none⟩ = some (.string y.c) := by rw [cell_of_row _ _ _ _ _ _ r5]; rfl
  have q5 : w3.cell? ⟨b5, 5, none⟩ = some (.string y.n) := by rw [cell_of_row _ _ _ _ _ _ r5]; rfl
  have HB3 := hid (HRD.out w3 hb3)
  have l4 : b4 < w3.heap.size := World.block_lt_of_cell? _ _ p0
  have l5 : b5 < w3.heap.size := World.block_lt_of_cell? _ _ q0
  have HS : Hid (w.heap.size < W1.heap.size ∧ W1.heap.size ≤ b4 ∧ W1.heap.size ≤ b5) := hid ⟨(Array.getElem?_eq_some_iff.1 HR1.out).1, h4, h5⟩
  have HR3 : Hid (w3.heap[w.heap.size]? = some (.cells #[.int .i64 0, .int .i64 0, .int .i64 0, .string { data := #[] }, .string { data := #[] }, .string { data := #[] }] 37)) := hid ((hb3.block _ (show w.heap.size < W1.drew.heap.size from HS.out.1)).trans HR1.out)
  have HR4 := hid r4
  have HR5 := hid r5
  have HBB3 := hid hb3
  have HRA : Hid (∀ o, (w3.alloc o).heap[w.heap.size]? = some (.cells #[.int .i64 0, .int .i64 0, .int .i64 0, .string { data := #[] }, .string { data := #[] }, .string { data := #[] }] 37)) := hid (fun o => (Below.heap_alloc w3 o _ (Nat.lt_of_lt_of_le (Nat.lt_of_lt_of_le HS.out.1 HS.out.2.1) (Nat.le_of_lt l4))).trans HR3.out)
  clear r4 r5 hb3 h4 h5 k1 k0
  obtain ⟨⟨m, ok⟩, hR⟩ : ∃ R, ofOf z.t.data.toList z.a x.a y.a = R := ⟨_, rfl⟩
  have HQ : Hid (Z = if (ok && pushOf y z.t) = true then (made m z.t, 3) else (noI, 0)) := hid (by
    rw [← HZ.out]
    have e1 : two x y = none := by simp [two, convOf, negOf, c3]
    have e2 : byOf z = z.t := by unfold byOf shiftI; rw [if_neg (by simp only [decide_eq_true_eq]; omega)]
    have e3 : three x y z = if (ok && pushOf y z.t) = true then some (made m z.t) else none := by
      unfold three; rw [hR, e2]; simp [c3, c4, c5, c6]
    rw [e1, HRR.out]; show (three x y z).elim _ _ = _; rw [e3]; cases ok <;> cases pushOf y z.t <;> rfl)
  have c1 : ¬ y.op = 10 := by omega
  have c2 : ¬ y.op = 9 := by omega
  have HC3 := hid c3; have HC4 := hid c4
  clear c3 c4
  go_wp2_with fail
  obtain ⟨V, hV⟩ : ∃ V, w3.alloc (.cells #[.int .i64 2, .int .i64 0, .int .i64 0, .string y.t, .string { data := #[] }, .string { data := #[] }] 37) = V := ⟨_, rfl⟩
  have HBV : Hid (Below w.heap.size w V) := hid (hV ▸ HB3.out.alloc HB3.out.size _)
  have HBV3 : Hid (Below w3.heap.size w3 V) := hid (hV ▸ ext_alloc w3 _)
  have HRV : Hid (V.heap[w.heap.size]? = some (.cells #[.int .i64 0, .int .i64 0, .int .i64 0, .string { data := #[] }, .string { data := #[] }, .string { data := #[] }] 37)) := hid (hV ▸ HRA.out _)
  have q0V : V.cell? ⟨b5, 0, none⟩ = some (.int .i64 y.op) := (HBV3.out.cell l5).trans q0
  have HL5 : Hid (b5 < V.heap.size) := hid (World.block_lt_of_cell? _ _ q0V)
  rw [hV]
  clear hV
  have HZC : Hid (∀ u, Below V.heap.size V u → ∀ j v, z.cells[j]? = some v → u.cell? ⟨b, off + 12 + j, none⟩ = some v) := hid (fun u hu j v hv => by
    have hj : j < 6 := by
      rcases Nat.lt_or_ge j 6 with h | h
      · exact h
      · rw [List.getElem?_eq_none (by simpa [I.cells] using h)] at hv; cases hv
    have hr := HRR.out
    have h2 : 2 < (x :: y :: r).length := by rw [hr]; simp
    have := ins_cells HC.out (HBV.out.trans (hu.mono HBV.out.size)) (k := 2) h2 (off + 12) (by omega) j hj
    rw [this]
    have e : (x :: y :: r)[2] = z := by subst hr; rfl
    rw [e, ← hv, List.getElem?_toArray])
  have g5 : (2 : Int) < (r.length : Int) + 2 := by rw [HRR.out, List.length_cons]; omega
  have g6 : ¬ (r.length : Int) + 2 < 3 := by omega
  have HRB : Hid (∀ u, Below V.heap.size V u → u.heap[b4]? = w3.heap[b4]?) := hid (fun u hu => (hu.block _ (Nat.lt_of_lt_of_le l4 HBV3.out.size)).trans (HBV3.out.block _ l4))
  refine wp_region_ext [(28, is (.bool true))] ⟨is_stays _, trivial⟩ (by kernel_rfl) (by kernel_rfl) ?_
  refine wpG_calc 1 rfl rfl rfl (fun u => by go_simp; rfl) ?_
  simp only [Act.put, List.setIfInBounds_toArray, List.set_cons_zero, List.set_cons_succ]
  refine wpG_calc 2 rfl rfl rfl (fun u => by go_simp; rfl) ?_
  simp only [Act.put, List.setIfInBounds_toArray, List.set_cons_zero, List.set_cons_succ]
  refine wpG_calc (v := .bool false) 3 rfl rfl rfl (fun u => by go_simp) ?_
  simp only [Act.put, List.setIfInBounds_toArray, List.set_cons_zero, List.set_cons_succ]
  refine wpG_calc 4 rfl rfl rfl (fun u => by go_simp; rfl) ?_
  simp only [Act.put, List.setIfInBounds_toArray, List.set_cons_zero, List.set_cons_succ]
  refine wpG_calc 5 rfl rfl rfl (fun u => by go_simp; rfl) ?_
  simp only [Act.put, List.setIfInBounds_toArray, List.set_cons_zero, List.set_cons_succ]
  refine wpG_read 6 rfl rfl (.int .i64 y.op) rfl ?_ ?_
  · intro u hu hh
    have hk : u.cell? ⟨b5, 0, none⟩ = some (.int .i64 y.op) := (hu.cell HL5.out).trans q0V
    go_simp
  simp only [Act.put, List.setIfInBounds_toArray, List.set_cons_zero, List.set_cons_succ]
  refine wpG_calc (v := .bool false) 7 rfl rfl rfl (fun u => by have c3 := HC3.out; go_simp) ?_
  simp only [Act.put, List.setIfInBounds_toArray, List.set_cons_zero, List.set_cons_succ]
  refine wpG_calc (v := .bool false) 8 rfl rfl rfl (fun u => by go_simp) ?_
  simp only [Act.put, List.setIfInBounds_toArray, List.set_cons_zero, List.set_cons_succ]
  refine wpG_calc 9 rfl rfl rfl (fun u => by go_simp; rfl) ?_
  simp only [Act.put, List.setIfInBounds_toArray, List.set_cons_zero, List.set_cons_succ]
  refine wpG_calc 10 rfl rfl rfl (fun u => by go_simp; rfl) ?_
  simp only [Act.put, List.setIfInBounds_toArray, List.set_cons_zero, List.set_cons_succ]
  refine wpG_calc 11 rfl rfl rfl (fun u => by go_simp; rfl) ?_
  simp only [Act.put, List.setIfInBounds_toArray, List.set_cons_zero, List.set_cons_succ]
  refine wpG_calc 12 rfl rfl rfl (fun u => by go_simp; rfl) ?_
  simp only [Act.put, List.setIfInBounds_toArray, List.set_cons_zero, List.set_cons_succ]
  refine wpG_read 13 rfl rfl (.int .i64 z.op) rfl ?_ ?_
  · intro u hu hh
    have hk : u.cell? ⟨b, off + 12, none⟩ = some (.int .i64 z.op) := HZC.out u hu 0 _ rfl
    go_simp
  simp only [Act.put, List.setIfInBounds_toArray, List.set_cons_zero, List.set_cons_succ]
  refine wpG_calc (v := .bool false) 14 rfl rfl rfl (fun u => by have c4 := HC4.out; go_simp) ?_
  simp only [Act.put, List.setIfInBounds_toArray, List.set_cons_zero, List.set_cons_succ]
  refine wpG_calc (v := .bool false) 15 rfl rfl rfl (fun u => by go_simp) ?_
  simp only [Act.put, List.setIfInBounds_toArray, List.set_cons_zero, List.set_cons_succ]
  refine wpG_calc 16 rfl rfl rfl (fun u => by go_simp; rfl) ?_
  simp only [Act.put, List.setIfInBounds_toArray, List.set_cons_zero, List.set_cons_succ]
  refine wpG_calc 17 rfl rfl rfl (fun u => by go_simp; rfl) ?_
  simp only [Act.put, List.setIfInBounds_toArray, List.set_cons_zero, List.set_cons_succ]
  refine wpG_calc 18 rfl rfl rfl (fun u => by go_simp; rfl) ?_
  simp only [Act.put, List.setIfInBounds_toArray, List.set_cons_zero, List.set_cons_succ]
  refine wpG_calc 19 rfl rfl rfl (fun u => by go_simp; rfl) ?_
  simp only [Act.put, List.setIfInBounds_toArray, List.set_cons_zero, List.set_cons_succ]
  refine wpG_read 20 rfl rfl (.int .i64 z.a) rfl ?_ ?_
  · intro u hu hh
    have hk : u.cell? ⟨b, off + 12 + 1, none⟩ = some (.int .i64 z.a) := HZC.out u hu 1 _ rfl
    go_simp
  simp only [Act.put, List.setIfInBounds_toArray, List.set_cons_zero, List.set_cons_succ]
  refine wpG_calc (v := .bool false) 21 rfl rfl rfl (fun u => by go_simp) ?_
  simp only [Act.put, List.setIfInBounds_toArray, List.set_cons_zero, List.set_cons_succ]
  refine wpG_calc (v := .bool false) 22 rfl rfl rfl (fun u => by go_simp) ?_
  simp only [Act.put, List.setIfInBounds_toArray, List.set_cons_zero, List.set_cons_succ]
  refine wpG_calc 23 rfl rfl rfl (fun u => by go_simp; rfl) ?_
  simp only [Act.put, List.setIfInBounds_toArray, List.set_cons_zero, List.set_cons_succ]
  refine wpG_read 24 rfl rfl (.agg x.cells.toArray) rfl ?_ ?_
  · intro u hu hh
    have hrow := (HRB.out u hu).trans HR4.out
    have hld := run_loadVar_row (P := Tryd.prog) u b4 37 37 _ _ _ hrow Tryd.underlying37 rfl (by kernel_rfl)
    unfold execOp
    simp only [Act.eval, Instr.loadAt, Instr.sureAddr, Sem.run_bind, Sem.run_pure]
    change ((Sem.run Tryd.prog (loadVar 37 ⟨b4, 0, none⟩) u).andThen fun a w' => Result.ok (Next.value a) w') = _
    rw [hld]
    rfl
  simp only [Act.put, List.setIfInBounds_toArray, List.set_cons_zero, List.set_cons_succ]
  refine wpG_calc 25 rfl rfl rfl (fun u => by go_simp; rfl) ?_
  simp only [Act.put, List.setIfInBounds_toArray, List.set_cons_zero, List.set_cons_succ]
  refine wpG_calc 26 rfl rfl rfl (fun u => by go_simp; rfl) ?_
  simp only [Act.put, List.setIfInBounds_toArray, List.set_cons_zero, List.set_cons_succ]
  refine wpG_calc 27 rfl rfl rfl (fun u => by go_simp; rfl) ?_
  simp only [Act.put, List.setIfInBounds_toArray, List.set_cons_zero, List.set_cons_succ]
  refine wpG_read 28 rfl rfl (.string z.t) rfl ?_ ?_
  · intro u hu hh
    have hk : u.cell? ⟨b, off + 12 + 3, none⟩ = some (.string z.t) := HZC.out u hu 3 _ rfl
    go_simp
  simp only [Act.put, List.setIfInBounds_toArray, List.set_cons_zero, List.set_cons_succ]
  refine wpG_rel 29 rfl rfl rfl ?_ ?_
  · intro u hu hh
    go_simp
    refine (push_any x z.t u).mono ?_
    rintro e w6 ⟨rfl, hb6⟩
    exact ⟨_, rfl, (by rw [c6]; rfl), hb6⟩
  intro v28 ⟨u28, _, hr28⟩
  cases hr28
  simp only [Act.put, List.setIfInBounds_toArray, List.set_cons_zero, List.set_cons_succ]
  refine wpG_calc 30 rfl rfl rfl (fun u => by go_simp; rfl) ?_
  simp only [Act.put, List.setIfInBounds_toArray, List.set_cons_zero, List.set_cons_succ]
  refine wpG_calc 31 rfl rfl rfl (fun u => by go_simp; rfl) ?_
  simp only [Act.put, List.setIfInBounds_toArray, List.set_cons_zero, List.set_cons_succ]
  refine wpG_calc 32 rfl rfl rfl (fun u => by go_simp; rfl) ?_
  simp only [Act.put, List.setIfInBounds_toArray, List.set_cons_zero, List.set_cons_succ]
  refine wpG_nil fun w' hb' hF => ?_
  have HBW := hid (HBV.out.trans (hb'.mono HBV.out.size))
  have BW : Below w3.heap.size w3 w' := HBV3.out.trans (hb'.mono HBV3.out.size)
  have P1 := (BW.cell (p := ⟨b4, 1, none⟩) l4).trans p1
  have Q0 := (BW.cell (p := ⟨b5, 0, none⟩) l5).trans q0
  have Q1 := (BW.cell (p := ⟨b5, 1, none⟩) l5).trans q1
  have Q2 := (BW.cell (p := ⟨b5, 2, none⟩) l5).trans q2
  have Q3 := (BW.cell (p := ⟨b5, 3, none⟩) l5).trans q3
  have Q4 := (BW.cell (p := ⟨b5, 4, none⟩) l5).trans q4
  have Q5 := (BW.cell (p := ⟨b5, 5, none⟩) l5).trans q5
  have L4 : b4 < w'.heap.size := Nat.lt_of_lt_of_le l4 BW.size
  have L5 : b5 < w'.heap.size := Nat.lt_of_lt_of_le l5 BW.size
  have Z0 : w'.cell? ⟨b, off + 12, none⟩ = some (.int .i64 z.op) := HZC.out w' hb' 0 _ rfl
  have Z1 : w'.cell? ⟨b, off + 13, none⟩ = some (.int .i64 z.a) := HZC.out w' hb' 1 _ rfl
  have Z2 : w'.cell? ⟨b, off + 14, none⟩ = some (.int .i64 z.b) := HZC.out w' hb' 2 _ rfl
  have Z3 : w'.cell? ⟨b, off + 15, none⟩ = some (.string z.t) := HZC.out w' hb' 3 _ rfl
  have Z4 : w'.cell? ⟨b, off + 16, none⟩ = some (.string z.c) := HZC.out w' hb' 4 _ rfl
  have Z5 : w'.cell? ⟨b, off + 17, none⟩ = some (.string z.n) := HZC.out w' hb' 5 _ rfl
  have LB : b < w'.heap.size := World.block_lt_of_cell? _ _ Z0
  have HLT : Hid (w.heap.size < w'.heap.size) := hid (Nat.lt_of_lt_of_le (Nat.lt_of_lt_of_le HS.out.1 HS.out.2.1) (Nat.le_of_lt L4))
  have HRU : Hid (∀ o, (w'.alloc o).heap[w.heap.size]? = some (.cells #[.int .i64 0, .int .i64 0, .int .i64 0, .string { data := #[] }, .string { data := #[] }, .string { data := #[] }] 37)) := hid (fun o => (Below.heap_alloc w' o _ HLT.out).trans ((hb'.block _ (Array.getElem?_eq_some_iff.1 HRV.out).1).trans HRV.out))
  have HBU : Hid (∀ o, Below w.heap.size w (w'.alloc o)) := hid (fun o => HBW.out.alloc HBW.out.size _)
  have HSZ : Hid (∀ o, (w'.alloc o).heap.size = w'.heap.size + 1) := hid (fun o => Array.size_push _)
  clear p0 p1 p2 p3 p4 p5 q0 q1 q2 q3 q4 q5 q0V l4 l5 BW hb' hF
  go_wp2_with fail
  refine (of_any z.t z.a x.a y.a _).mono ?_
  rw [hR]
  rintro e w5 ⟨rfl, hww⟩
  obtain rfl := hww.symm
  cases ok
  · skip
    go_wp2_with (refine wpList_store_row rfl 37 (.tmp 2) (.tmp 146) rfl w.heap.size _ rfl rfl 37 _ (HRU.out _) (by kernel_rfl) rfl (by simp [Value.oneCell']) ?_)
    refine bodyPost_ret (results_cell_at rfl _ _ w.heap.size _ _ _ _ rfl (setRow_heap _ _ _ _ _ _ (HRU.out _)) Tryd.underlying37 rfl (by kernel_rfl)) rfl ?_
    rw [HQ.out]
    exact ⟨rfl, Go.Proofs.YtmbcjcicieiolaaDoor.lib.below_setRow (HBU.out _) (Nat.le_refl _) _⟩
  · skip
    go_wp2_with fail
    refine (push_any y z.t _).mono ?_
    rintro e w6 ⟨rfl, hb6⟩
    obtain ⟨pv, hpv⟩ : ∃ p, pushOf y z.t = p := ⟨_, rfl⟩
    rw [hpv] at HQ ⊢
    have hT := (hb6.block w'.heap.size (by rw [HSZ.out]; omega)).trans (heap_alloc_last _ _)
    have HR6 : Hid (w6.heap[w.heap.size]? = some (.cells #[.int .i64 0, .int .i64 0, .int .i64 0, .string { data := #[] }, .string { data := #[] }, .string { data := #[] }] 37)) := hid ((hb6.block _ (by rw [HSZ.out]; have := HLT.out; omega)).trans (HRU.out _))
    have HB6 : Hid (Below w.heap.size w w6) := hid ((HBU.out _).trans (hb6.mono (by rw [HSZ.out]; have := HLT.out; omega)))
    have T3 : w6.cell? ⟨w'.heap.size, 3, none⟩ = some (.string z.t) := by rw [cell_of_row _ _ _ _ _ _ hT]; rfl
    clear hT hb6
    cases pv
    · skip
      go_wp2_with (refine wpList_store_row rfl 37 (.tmp 2) (.tmp 146) rfl w.heap.size _ rfl rfl 37 _ (HR6.out) (by kernel_rfl) rfl (by simp [Value.oneCell']) ?_)
      refine bodyPost_ret (results_cell_at rfl _ _ w.heap.size _ _ _ _ rfl (setRow_heap _ _ _ _ _ _ (HR6.out)) Tryd.underlying37 rfl (by kernel_rfl)) rfl ?_
      rw [HQ.out]
      exact ⟨rfl, Go.Proofs.YtmbcjcicieiolaaDoor.lib.below_setRow (HB6.out) (Nat.le_refl _) _⟩
    · skip
      go_wp2_with (refine wpList_store_row rfl 37 (.tmp 2) (.tmp 150) rfl w.heap.size _ rfl rfl 37 _ (HR6.out) (by kernel_rfl) rfl (by simp [Value.oneCell']) ?_)
      refine bodyPost_ret (results_cell_at rfl _ _ w.heap.size _ _ _ _ rfl (setRow_heap _ _ _ _ _ _ (HR6.out)) Tryd.underlying37 rfl (by kernel_rfl)) rfl ?_
      rw [HQ.out]
      exact ⟨rfl, Go.Proofs.YtmbcjcicieiolaaDoor.lib.below_setRow (HB6.out) (Nat.le_refl _) _⟩
end Go.Proofs.YtmbcjcicieiolaaDoor.folds
