/- Constants folded: fold.known. Condition: the list is not long. -/
import Derived.Test.YtmbcjcicieiolaaDoorFold1
set_option linter.unusedSimpArgs false
namespace Go.Proofs.YtmbcjcicieiolaaDoor.folds
open Go.RowKit Go.Proofs.YtmbcjcicieiolaaDoor.lib Go.Proofs.YtmbcjcicieiolaaDoor.errs Go.Proofs.YtmbcjcicieiolaaDoor.names Go.Proofs.YtmbcjcicieiolaaDoor.descs Go.Proofs.YtmbcjcicieiolaaDoor.ins Go.Proofs.YtmbcjcicieiolaaDoor.flows Go.Proofs.YtmbcjcicieiolaaDoor.nums Go.Proofs.YtmbcjcicieiolaaDoor.grow

/-- the cells of an instruction in a list, now and after memory has grown -/
theorem ins_cells {w w' : World} {b off n c : Nat} {l : List I} (h : Go.Proofs.YtmbcjcicieiolaaDoor.flows.Code w (.slice (some ⟨b, off, none⟩) n c) l) (hb : Below w.heap.size w w') {k : Nat} (hk : k < l.length) (o : Nat) (ho : o = off + k * 6) (j : Nat) (hj : j < l[k].cells.toArray.size) :
    w'.cell? ⟨b, o + j, none⟩ = l[k].cells.toArray[j]? := by
  subst ho
  obtain ⟨b', off', he, h0, h1, h2, h3, h4, h5⟩ := code_at (h.below hb) hk
  cases he
  have hj6 : j < 6 := hj
  have : j = 0 ∨ j = 1 ∨ j = 2 ∨ j = 3 ∨ j = 4 ∨ j = 5 := by omega
  rcases this with rfl | rfl | rfl | rfl | rfl | rfl
  · exact h0
  · exact h1
  · exact h2
  · exact h3
  · exact h4
  · exact h5

theorem one_cells (x : I) : x.cells.toArray.all (·.oneCell') = true := by simp [I.cells, Value.oneCell']

set_option maxRecDepth 100000 in
set_option maxHeartbeats 4000000 in
theorem known_conv (x y : I) (r : List I) (b off c n : Nat) (w : World) (hc : Go.Proofs.YtmbcjcicieiolaaDoor.flows.Code w (.slice (some ⟨b, off, none⟩) n c) (x :: y :: r)) (hn : n = r.length + 2) (hx : x.op = 2) (c1 : y.op = 10) (h30 : n ≤ 2000000) :
   Calls Tryd.prog 42 #[.slice (some ⟨b, off, none⟩) n c] w fun e w' =>
     e = .returned (.tuple #[(knownOf (x :: y :: r)).1.val, .int .i64 (knownOf (x :: y :: r)).2]) ∧ Below w.heap.size w w' := by
  obtain ⟨Z, hZ⟩ : ∃ Z, knownOf (x :: y :: r) = Z := ⟨_, rfl⟩
  rw [hZ]
  have HZ : Hid ((two x y).elim (rest3 x y r) (fun m => (m, 2)) = Z) := hid (by rw [← hZ]; exact (if_pos hx).symm)
  clear hZ
  have g1 : (2 : Int) ≤ (n : Int) := by omega
  have g2 : ¬ (n : Int) < 2 := by omega
  have g3 : (1 : Int) < (n : Int) := by omega
  have g4 : (0 : Int) < (n : Int) := by omega
  have k0 : w.cell? ⟨b, off, none⟩ = some (.int .i64 2) := by
    have := ins_cells hc (Below.refl _ _) (k := 0) (by simp) off (by omega) 0 (show 0 < 6 by omega)
    rw [← hx]; exact this
  have hbs : b < w.heap.size := World.block_lt_of_cell? _ _ k0
  have g3' : (1 : Int) < (r.length : Int) + 2 := by omega
  have HC := hid hc
  clear hc hx
  obtain ⟨W1, hW1⟩ : ∃ W1, w.alloc (.cells #[.int .i64 0, .int .i64 0, .int .i64 0, .string { data := #[] }, .string { data := #[] }, .string { data := #[] }] 37) = W1 := ⟨_, rfl⟩
  have HB1 : Hid (Below w.heap.size w W1) := hid (hW1 ▸ ext_alloc _ _)
  have HR1 : Hid (W1.heap[w.heap.size]? = some (.cells #[.int .i64 0, .int .i64 0, .int .i64 0, .string { data := #[] }, .string { data := #[] }, .string { data := #[] }] 37)) := hid (hW1 ▸ heap_alloc_last _ _)
  have k1 : W1.cell? ⟨b, off, none⟩ = some (.int .i64 2) := (HB1.out.cell hbs).trans k0
  have HRD : Hid (∀ w', Below W1.drew.heap.size W1.drew w' → Below w.heap.size w w') := hid (fun w' h => HB1.out.drew.trans (h.mono HB1.out.size))
  go_enter Tryd.func42, Tryd.ntmps42
  go_wp2_with fail
  refine wp_region_two (by kernel_rfl) ?_
  change wpAnyW _ .any _ _ _ 10 (Array.replicate 10 false) _ _
  refine w_read (Below.refl _ _) 0 _ _ rfl (by kernel_rfl) (by kernel_rfl) (by kernel_rfl) (by rfl) (fun u _ => by go_simp; rfl) ?_
  simp only [List.getElem_toArray, List.getElem_cons_zero, List.getElem_cons_succ, Act.put, List.setIfInBounds_toArray, List.set_cons_zero, List.set_cons_succ]
  refine w_read (Below.refl _ _) 1 _ _ rfl (by kernel_rfl) (by kernel_rfl) (by kernel_rfl) (by rfl) (fun u _ => by go_simp; rfl) ?_
  simp only [List.getElem_toArray, List.getElem_cons_zero, List.getElem_cons_succ, Act.put, List.setIfInBounds_toArray, List.set_cons_zero, List.set_cons_succ]
  refine w_flat (Below.refl _ _) 2 _ x.cells.toArray rfl (by kernel_rfl) (by kernel_rfl) (by kernel_rfl) (by rfl) 37 _ rfl b (off) rfl _ Tryd.underlying37 rfl (by kernel_rfl) (fun u hu => ins_cells HC.out (HRD.out u hu) (k := 0) (by simp) _ (by omega)) ?_
  simp only [List.getElem_toArray, List.getElem_cons_zero, List.getElem_cons_succ, Act.put, List.setIfInBounds_toArray, List.set_cons_zero, List.set_cons_succ]
  refine w_read (Below.refl _ _) 3 _ _ rfl (by kernel_rfl) (by kernel_rfl) (by kernel_rfl) (by rfl) (fun u _ => by go_simp; rfl) ?_
  simp only [List.getElem_toArray, List.getElem_cons_zero, List.getElem_cons_succ, Act.put, List.setIfInBounds_toArray, List.set_cons_zero, List.set_cons_succ]
  refine w_read (Below.refl _ _) 4 _ _ rfl (by kernel_rfl) (by kernel_rfl) (by kernel_rfl) (by rfl) (fun u _ => by go_simp; rfl) ?_
  simp only [List.getElem_toArray, List.getElem_cons_zero, List.getElem_cons_succ, Act.put, List.setIfInBounds_toArray, List.set_cons_zero, List.set_cons_succ]
  refine w_flat (Below.refl _ _) 5 _ y.cells.toArray rfl (by kernel_rfl) (by kernel_rfl) (by kernel_rfl) (by rfl) 37 _ rfl b (off + 6) rfl _ Tryd.underlying37 rfl (by kernel_rfl) (fun u hu => ins_cells HC.out (HRD.out u hu) (k := 1) (by simp) _ (by omega)) ?_
  simp only [List.getElem_toArray, List.getElem_cons_zero, List.getElem_cons_succ, Act.put, List.setIfInBounds_toArray, List.set_cons_zero, List.set_cons_succ]
  refine w_pair 6 7 8 9 _ _ _ _ 37 #[.int .i64 0, .int .i64 0, .int .i64 0, .string { data := #[] }, .string { data := #[] }, .string { data := #[] }] x.cells.toArray y.cells.toArray (.tmp 4) (.tmp 24) (.tmp 5) (.tmp 27) (by kernel_rfl) rfl rfl rfl rfl rfl rfl rfl rfl rfl rfl rfl rfl (by intro d hd; cases hd; decide)
    (fun a w => by go_simp) (fun a w => by go_simp) (fun _ _ => ⟨rfl, rfl⟩) (fun _ _ => ⟨rfl, rfl⟩) (by kernel_rfl) (by kernel_rfl) rfl rfl (one_cells x) (one_cells y) (Below.refl _ _) ?_
  intro b4 b5 w3 hne h4 h5 r4 r5 hb3
  simp only [List.getElem_toArray, List.getElem_cons_zero, List.getElem_cons_succ, Act.put, List.setIfInBounds_toArray, List.set_cons_zero, List.set_cons_succ]
  have p0 : w3.cell? ⟨b4, 0, none⟩ = some (.int .i64 x.op) := by rw [cell_of_row _ _ _ _ _ _ r4]; rfl
  have p1 : w3.cell? ⟨b4, 1, none⟩ = some (.int .i64 x.a) := by rw [cell_of_row _ _ _ _ _ _ r4]; rfl
  have p2 : w3.cell? ⟨b4, 2, none⟩ = some (.int .i64 x.b) := by rw [cell_of_row _ _ _ _ _ _ r4]; rfl
  have p3 : w3.cell? ⟨b4, 3, none⟩ = some (.string x.t) := by rw [cell_of_row _ _ _ _ _ _ r4]; rfl
  have p4 : w3.cell? ⟨b4, 4, none⟩ = some (.string x.c) := by rw [cell_of_row _ _ _ _ _ _ r4]; rfl
  have p5 : w3.cell? ⟨b4, 5, none⟩ = some (.string x.n) := by rw [cell_of_row _ _ _ _ _ _ r4]; rfl
  have q0 : w3.cell? ⟨b5, 0, none⟩ = some (.int .i64 y.op) := by rw [cell_of_row _ _ _ _ _ _ r5]; rfl
  have q1 : w3.cell? ⟨b5, 1, none⟩ = some (.int .i64 y.a) := by rw [cell_of_row _ _ _ _ _ _ r5]; rfl
  have q2 : w3.cell? ⟨b5, 2, none⟩ = some (.int .i64 y.b) := by rw [cell_of_row _ _ _ _ _ _ r5]; rfl
  have q3 : w3.cell? ⟨b5, 3, none⟩ = some (.string y.t) := by rw [cell_of_row _ _ _ _ _ _ r5]; rfl
  have q4 : w3.cell? ⟨b5, 4, none⟩ = some (.string y.c) := by rw [cell_of_row _ _ _ _ _ _ r5]; rfl
  have q5 : w3.cell? ⟨b5, 5, none⟩ = some (.string y.n) := by rw [cell_of_row _ _ _ _ _ _ r5]; rfl
  have HB3 := hid (HRD.out w3 hb3)
  have l4 : b4 < w3.heap.size := World.block_lt_of_cell? _ _ p0
  have l5 : b5 < w3.heap.size := World.block_lt_of_cell? _ _ q0
  have HS : Hid (w.heap.size < W1.heap.size ∧ W1.heap.size ≤ b4 ∧ W1.heap.size ≤ b5) := hid ⟨(Array.getElem?_eq_some_iff.1 HR1.out).1, h4, h5⟩
  have HR3 : Hid (w3.heap[w.heap.size]? = some (.cells #[.int .i64 0, .int .i64 0, .int .i64 0, .string { data := #[] }, .string { data := #[] }, .string { data := #[] }] 37)) := hid ((hb3.block _ (show w.heap.size < W1.drew.heap.size from HS.out.1)).trans HR1.out)
  have HR4 := hid r4
  have HR5 := hid r5
  have HBB3 := hid hb3
  have HRA : Hid (∀ o, (w3.alloc o).heap[w.heap.size]? = some (.cells #[.int .i64 0, .int .i64 0, .int .i64 0, .string { data := #[] }, .string { data := #[] }, .string { data := #[] }] 37)) := hid (fun o => (Below.heap_alloc w3 o _ (Nat.lt_of_lt_of_le (Nat.lt_of_lt_of_le HS.out.1 HS.out.2.1) (Nat.le_of_lt l4))).trans HR3.out)
  clear r4 r5 hb3 h4 h5 k1 k0
  by_cases c2 : (x.t.toList == y.t.toList) = true
  · have HQ : Hid (Z = (noI, 0)) := hid (by
      rw [← HZ.out]
      have e1 : two x y = none := by simp [two, convOf, negOf, c1, c2]
      have e2 : ∀ z, three x y z = none := fun z => by simp [three, c1]
      rw [e1]
      cases r with
      | nil => rfl
      | cons z r => show (three x y z).elim _ _ = _; rw [e2 z]; rfl)
    go_wp2_with fail
    obtain ⟨V, hV⟩ : ∃ V, w3.alloc (.cells #[.int .i64 2, .int .i64 0, .int .i64 0, .string y.t, .string { data := #[] }, .string { data := #[] }] 37) = V := ⟨_, rfl⟩
    have HBV : Hid (Below w.heap.size w V) := hid (hV ▸ HB3.out.alloc HB3.out.size _)
    have HRV : Hid (V.heap[w.heap.size]? = some (.cells #[.int .i64 0, .int .i64 0, .int .i64 0, .string { data := #[] }, .string { data := #[] }, .string { data := #[] }] 37)) := hid (hV ▸ HRA.out _)
    have q0V : V.cell? ⟨b5, 0, none⟩ = some (.int .i64 y.op) := ((hV ▸ ext_alloc w3 _ : Below w3.heap.size w3 V).cell l5).trans q0
    have HL5 : Hid (b5 < V.heap.size) := hid (World.block_lt_of_cell? _ _ q0V)
    have HY : Hid ((y.op != 2) = true) := hid (by rw [c1]; rfl)
    rw [hV]
    clear hV
    by_cases n3 : (r.length : Int) + 2 < 3
    · skip
      --R13 short
      refine wp_region_ext [] trivial (by kernel_rfl) (by kernel_rfl) ?_
      refine wpG_calc 1 rfl rfl rfl (fun u => by go_simp; rfl) ?_
      simp only [Act.put, List.setIfInBounds_toArray, List.set_cons_zero, List.set_cons_succ]
      refine wpG_calc 2 rfl rfl rfl (fun u => by go_simp; rfl) ?_
      simp only [Act.put, List.setIfInBounds_toArray, List.set_cons_zero, List.set_cons_succ]
      refine wpG_calc (v := .bool true) 3 rfl rfl rfl (fun u => by go_simp) ?_
      simp only [Act.put, List.setIfInBounds_toArray, List.set_cons_zero, List.set_cons_succ]
      refine wpG_calc 4 rfl rfl rfl (fun u => by go_simp; rfl) ?_
      simp only [Act.put, List.setIfInBounds_toArray, List.set_cons_zero, List.set_cons_succ]
      refine wpG_skip 5 rfl rfl ?_
      simp only [Act.put, List.setIfInBounds_toArray, List.set_cons_zero, List.set_cons_succ]
      refine wpG_skip 6 rfl rfl ?_
      simp only [Act.put, List.setIfInBounds_toArray, List.set_cons_zero, List.set_cons_succ]
      refine wpG_skip 7 rfl rfl ?_
      simp only [Act.put, List.setIfInBounds_toArray, List.set_cons_zero, List.set_cons_succ]
      refine wpG_calc 8 rfl rfl rfl (fun u => by go_simp; rfl) ?_
      simp only [Act.put, List.setIfInBounds_toArray, List.set_cons_zero, List.set_cons_succ]
      refine wpG_calc 9 rfl rfl rfl (fun u => by go_simp; rfl) ?_
      simp only [Act.put, List.setIfInBounds_toArray, List.set_cons_zero, List.set_cons_succ]
      refine wpG_skip 10 rfl rfl ?_
      simp only [Act.put, List.setIfInBounds_toArray, List.set_cons_zero, List.set_cons_succ]
      refine wpG_skip 11 rfl rfl ?_
      simp only [Act.put, List.setIfInBounds_toArray, List.set_cons_zero, List.set_cons_succ]
      refine wpG_skip 12 rfl rfl ?_
      simp only [Act.put, List.setIfInBounds_toArray, List.set_cons_zero, List.set_cons_succ]
      refine wpG_skip 13 rfl rfl ?_
      simp only [Act.put, List.setIfInBounds_toArray, List.set_cons_zero, List.set_cons_succ]
      refine wpG_skip 14 rfl rfl ?_
      simp only [Act.put, List.setIfInBounds_toArray, List.set_cons_zero, List.set_cons_succ]
      refine wpG_calc 15 rfl rfl rfl (fun u => by go_simp; rfl) ?_
      simp only [Act.put, List.setIfInBounds_toArray, List.set_cons_zero, List.set_cons_succ]
      refine wpG_calc 16 rfl rfl rfl (fun u => by go_simp; rfl) ?_
      simp only [Act.put, List.setIfInBounds_toArray, List.set_cons_zero, List.set_cons_succ]
      refine wpG_skip 17 rfl rfl ?_
      simp only [Act.put, List.setIfInBounds_toArray, List.set_cons_zero, List.set_cons_succ]
      refine wpG_skip 18 rfl rfl ?_
      simp only [Act.put, List.setIfInBounds_toArray, List.set_cons_zero, List.set_cons_succ]
      refine wpG_skip 19 rfl rfl ?_
      simp only [Act.put, List.setIfInBounds_toArray, List.set_cons_zero, List.set_cons_succ]
      refine wpG_skip 20 rfl rfl ?_
      simp only [Act.put, List.setIfInBounds_toArray, List.set_cons_zero, List.set_cons_succ]
      refine wpG_skip 21 rfl rfl ?_
      simp only [Act.put, List.setIfInBounds_toArray, List.set_cons_zero, List.set_cons_succ]
      refine wpG_calc 22 rfl rfl rfl (fun u => by go_simp; rfl) ?_
      simp only [Act.put, List.setIfInBounds_toArray, List.set_cons_zero, List.set_cons_succ]
      refine wpG_calc 23 rfl rfl rfl (fun u => by go_simp; rfl) ?_
      simp only [Act.put, List.setIfInBounds_toArray, List.set_cons_zero, List.set_cons_succ]
      refine wpG_skip 24 rfl rfl ?_
      simp only [Act.put, List.setIfInBounds_toArray, List.set_cons_zero, List.set_cons_succ]
      refine wpG_skip 25 rfl rfl ?_
      simp only [Act.put, List.setIfInBounds_toArray, List.set_cons_zero, List.set_cons_succ]
      refine wpG_skip 26 rfl rfl ?_
      simp only [Act.put, List.setIfInBounds_toArray, List.set_cons_zero, List.set_cons_succ]
      refine wpG_skip 27 rfl rfl ?_
      simp only [Act.put, List.setIfInBounds_toArray, List.set_cons_zero, List.set_cons_succ]
      refine wpG_skip 28 rfl rfl ?_
      simp only [Act.put, List.setIfInBounds_toArray, List.set_cons_zero, List.set_cons_succ]
      refine wpG_skip 29 rfl rfl ?_
      simp only [Act.put, List.setIfInBounds_toArray, List.set_cons_zero, List.set_cons_succ]
      refine wpG_skip 30 rfl rfl ?_
      simp only [Act.put, List.setIfInBounds_toArray, List.set_cons_zero, List.set_cons_succ]
      refine wpG_calc 31 rfl rfl rfl (fun u => by go_simp; rfl) ?_
      simp only [Act.put, List.setIfInBounds_toArray, List.set_cons_zero, List.set_cons_succ]
      refine wpG_calc 32 rfl rfl rfl (fun u => by go_simp; rfl) ?_
      simp only [Act.put, List.setIfInBounds_toArray, List.set_cons_zero, List.set_cons_succ]
      refine wpG_nil fun w' hb' hF => ?_
      --END13
      have HRW := hid ((hb'.block _ (Array.getElem?_eq_some_iff.1 HRV.out).1).trans HRV.out)
      have HBW := hid (HBV.out.trans (hb'.mono HBV.out.size))
      go_wp2_with (refine wpList_store_row rfl 37 (.tmp 2) (.tmp 112) rfl w.heap.size _ rfl rfl 37 _ HRW.out (by kernel_rfl) rfl (by simp [Value.oneCell']) ?_)
      refine bodyPost_ret (results_cell_at rfl _ _ w.heap.size _ _ _ _ rfl (setRow_heap _ _ _ _ _ _ HRW.out) Tryd.underlying37 rfl (by kernel_rfl)) rfl ?_
      rw [HQ.out]
      exact ⟨rfl, Go.Proofs.YtmbcjcicieiolaaDoor.lib.below_setRow HBW.out (Nat.le_refl _) _⟩
    · skip
      --R13 noty
      refine wp_region_ext [] trivial (by kernel_rfl) (by kernel_rfl) ?_
      refine wpG_calc 1 rfl rfl rfl (fun u => by go_simp; rfl) ?_
      simp only [Act.put, List.setIfInBounds_toArray, List.set_cons_zero, List.set_cons_succ]
      refine wpG_calc 2 rfl rfl rfl (fun u => by go_simp; rfl) ?_
      simp only [Act.put, List.setIfInBounds_toArray, List.set_cons_zero, List.set_cons_succ]
      refine wpG_calc (v := .bool false) 3 rfl rfl rfl (fun u => by go_simp) ?_
      simp only [Act.put, List.setIfInBounds_toArray, List.set_cons_zero, List.set_cons_succ]
      refine wpG_calc 4 rfl rfl rfl (fun u => by go_simp; rfl) ?_
      simp only [Act.put, List.setIfInBounds_toArray, List.set_cons_zero, List.set_cons_succ]
      refine wpG_calc 5 rfl rfl rfl (fun u => by go_simp; rfl) ?_
      simp only [Act.put, List.setIfInBounds_toArray, List.set_cons_zero, List.set_cons_succ]
      refine wpG_read 6 rfl rfl (.int .i64 y.op) rfl ?_ ?_
      · intro u hu hh
        have hk : u.cell? ⟨b5, 0, none⟩ = some (.int .i64 y.op) := (hu.cell HL5.out).trans q0V
        go_simp
      simp only [Act.put, List.setIfInBounds_toArray, List.set_cons_zero, List.set_cons_succ]
      refine wpG_calc (v := .bool true) 7 rfl rfl rfl (fun u => by go_simp) ?_
      simp only [Act.put, List.setIfInBounds_toArray, List.set_cons_zero, List.set_cons_succ]
      refine wpG_calc 8 rfl rfl rfl (fun u => by go_simp; rfl) ?_
      simp only [Act.put, List.setIfInBounds_toArray, List.set_cons_zero, List.set_cons_succ]
      refine wpG_calc 9 rfl rfl rfl (fun u => by go_simp; rfl) ?_
      simp only [Act.put, List.setIfInBounds_toArray, List.set_cons_zero, List.set_cons_succ]
      refine wpG_skip 10 rfl rfl ?_
      simp only [Act.put, List.setIfInBounds_toArray, List.set_cons_zero, List.set_cons_succ]
      refine wpG_skip 11 rfl rfl ?_
      simp only [Act.put, List.setIfInBounds_toArray, List.set_cons_zero, List.set_cons_succ]
      refine wpG_skip 12 rfl rfl ?_
      simp only [Act.put, List.setIfInBounds_toArray, List.set_cons_zero, List.set_cons_succ]
      refine wpG_skip 13 rfl rfl ?_
      simp only [Act.put, List.setIfInBounds_toArray, List.set_cons_zero, List.set_cons_succ]
      refine wpG_skip 14 rfl rfl ?_
      simp only [Act.put, List.setIfInBounds_toArray, List.set_cons_zero, List.set_cons_succ]
      refine wpG_calc 15 rfl rfl rfl (fun u => by go_simp; rfl) ?_
      simp only [Act.put, List.setIfInBounds_toArray, List.set_cons_zero, List.set_cons_succ]
      refine wpG_calc 16 rfl rfl rfl (fun u => by go_simp; rfl) ?_
      simp only [Act.put, List.setIfInBounds_toArray, List.set_cons_zero, List.set_cons_succ]
      refine wpG_skip 17 rfl rfl ?_
      simp only [Act.put, List.setIfInBounds_toArray, List.set_cons_zero, List.set_cons_succ]
      refine wpG_skip 18 rfl rfl ?_
      simp only [Act.put, List.setIfInBounds_toArray, List.set_cons_zero, List.set_cons_succ]
      refine wpG_skip 19 rfl rfl ?_
      simp only [Act.put, List.setIfInBounds_toArray, List.set_cons_zero, List.set_cons_succ]
      refine wpG_skip 20 rfl rfl ?_
      simp only [Act.put, List.setIfInBounds_toArray, List.set_cons_zero, List.set_cons_succ]
      refine wpG_skip 21 rfl rfl ?_
      simp only [Act.put, List.setIfInBounds_toArray, List.set_cons_zero, List.set_cons_succ]
      refine wpG_calc 22 rfl rfl rfl (fun u => by go_simp; rfl) ?_
      simp only [Act.put, List.setIfInBounds_toArray, List.set_cons_zero, List.set_cons_succ]
      refine wpG_calc 23 rfl rfl rfl (fun u => by go_simp; rfl) ?_
      simp only [Act.put, List.setIfInBounds_toArray, List.set_cons_zero, List.set_cons_succ]
      refine wpG_skip 24 rfl rfl ?_
      simp only [Act.put, List.setIfInBounds_toArray, List.set_cons_zero, List.set_cons_succ]
      refine wpG_skip 25 rfl rfl ?_
      simp only [Act.put, List.setIfInBounds_toArray, List.set_cons_zero, List.set_cons_succ]
      refine wpG_skip 26 rfl rfl ?_
      simp only [Act.put, List.setIfInBounds_toArray, List.set_cons_zero, List.set_cons_succ]
      refine wpG_skip 27 rfl rfl ?_
      simp only [Act.put, List.setIfInBounds_toArray, List.set_cons_zero, List.set_cons_succ]
      refine wpG_skip 28 rfl rfl ?_
      simp only [Act.put, List.setIfInBounds_toArray, List.set_cons_zero, List.set_cons_succ]
      refine wpG_skip 29 rfl rfl ?_
      simp only [Act.put, List.setIfInBounds_toArray, List.set_cons_zero, List.set_cons_succ]
      refine wpG_skip 30 rfl rfl ?_
      simp only [Act.put, List.setIfInBounds_toArray, List.set_cons_zero, List.set_cons_succ]
      refine wpG_calc 31 rfl rfl rfl (fun u => by go_simp; rfl) ?_
      simp only [Act.put, List.setIfInBounds_toArray, List.set_cons_zero, List.set_cons_succ]
      refine wpG_calc 32 rfl rfl rfl (fun u => by go_simp; rfl) ?_
      simp only [Act.put, List.setIfInBounds_toArray, List.set_cons_zero, List.set_cons_succ]
      refine wpG_nil fun w' hb' hF => ?_
      --END13
      have HRW := hid ((hb'.block _ (Array.getElem?_eq_some_iff.1 HRV.out).1).trans HRV.out)
      have HBW := hid (HBV.out.trans (hb'.mono HBV.out.size))
      go_wp2_with (refine wpList_store_row rfl 37 (.tmp 2) (.tmp 112) rfl w.heap.size _ rfl rfl 37 _ HRW.out (by kernel_rfl) rfl (by simp [Value.oneCell']) ?_)
      refine bodyPost_ret (results_cell_at rfl _ _ w.heap.size _ _ _ _ rfl (setRow_heap _ _ _ _ _ _ HRW.out) Tryd.underlying37 rfl (by kernel_rfl)) rfl ?_
      rw [HQ.out]
      exact ⟨rfl, Go.Proofs.YtmbcjcicieiolaaDoor.lib.below_setRow HBW.out (Nat.le_refl _) _⟩
  · have c2' : (x.t.toList == y.t.toList) = false := by simpa using c2
    by_cases c3 : (y.t.toList == [73]) = true
    · have HQ : Hid (Z = (made (wrap32 x.a) y.t, 2)) := hid (by
        rw [← HZ.out]
        have e1 : two x y = some (made (wrap32 x.a) y.t) := by
          have c3' : y.t.toList = [73] := by simpa using c3
          unfold two; rw [if_pos (by unfold convOf; rw [c1, c2']; rfl), if_pos c3']
        rw [e1]; rfl)
      clear c2
      go_wp2_with fail
      refine (word_any _ _).mono ?_
      rintro e w4 ⟨rfl, hww⟩
      obtain rfl := hww.symm
      go_wp2_with (refine wpList_store_row rfl 37 (.tmp 2) (.tmp 52) rfl w.heap.size _ rfl rfl 37 _ (HRA.out _) (by kernel_rfl) rfl (by simp [Value.oneCell']) ?_)
      refine bodyPost_ret (results_cell_at rfl _ _ w.heap.size _ _ _ _ rfl (setRow_heap _ _ _ _ _ _ (HRA.out _)) Tryd.underlying37 rfl (by kernel_rfl)) rfl ?_
      rw [HQ.out]
      exact ⟨rfl, Go.Proofs.YtmbcjcicieiolaaDoor.lib.below_setRow (HB3.out.alloc HB3.out.size _) (Nat.le_refl _) _⟩
    · have c3' : (y.t.toList == [73]) = false := by simpa using c3
      have HQ : Hid (Z = (made x.a y.t, 2)) := hid (by
        rw [← HZ.out]
        have e1 : two x y = some (made x.a y.t) := by
          have c3' : ¬ y.t.toList = [73] := by simpa using c3
          unfold two; rw [if_pos (by unfold convOf; rw [c1, c2']; rfl), if_neg c3']
        rw [e1]; rfl)
      clear c2 c3
      go_wp2_with (refine wpList_store_row rfl 37 (.tmp 2) (.tmp 52) rfl w.heap.size _ rfl rfl 37 _ (HRA.out _) (by kernel_rfl) rfl (by simp [Value.oneCell']) ?_)
      refine bodyPost_ret (results_cell_at rfl _ _ w.heap.size _ _ _ _ rfl (setRow_heap _ _ _ _ _ _ (HRA.out _)) Tryd.underlying37 rfl (by kernel_rfl)) rfl ?_
      rw [HQ.out]
      exact ⟨rfl, Go.Proofs.YtmbcjcicieiolaaDoor.lib.below_setRow (HB3.out.alloc HB3.out.size _) (Nat.le_refl _) _⟩
end Go.Proofs.YtmbcjcicieiolaaDoor.folds
