/- coffeehousesame.Values and coffeehousesame.Heap of two lists, of two heaps that read alike: true. No condition but the lengths'. -/
import Derived.Test.YtkfkdbmgmifopaaGreatDoorWld1
import Derived.Test.YtkfkdbmgmifopaaGreatDoorGrow
import Derived.Test.YtkfkdbmgmifopaaGreatDoorLive1
import Derived.Laws.StructEq
import Derived.BigQuiet
import Derived.Test.YtkfkdbmgmifopaaGreatDoorOwn
set_option linter.unusedSimpArgs false
set_option linter.unusedVariables false
namespace Go.Proofs.YtkfkdbmgmifopaaGreatDoor.worlds
open Go.RowKit Go.Proofs.YtkfkdbmgmifopaaGreatDoor.lib Go.Proofs.YtkfkdbmgmifopaaGreatDoor.errs Go.Proofs.YtkfkdbmgmifopaaGreatDoor.grow

theorem vpart_int (w : World) (cs : Array Value) (off : Nat) (v : Value) (h : cs[off]? = some v) : (part 3 cs off).run Tryz.prog w = .ok v w := by
  simp [part, h, Result.andThen]
theorem val_fields : Tryz.prog.underlying 37 = some (.struct (Tryz.prog.fieldsOf 37)) := by kernel_rfl
theorem val_stood : Tryz.prog.stoodInHeld 37 = false := by kernel_rfl
theorem val_guard : Tryz.prog.eqGuardType Tryz.prog.depth 37 = false := by kernel_rfl
theorem val_len : (Tryz.prog.fieldsOf 37).toList.length = 2 := by kernel_rfl
theorem val_names : (Tryz.prog.fieldsOf 37).toList.map (fun f => (f.type, f.offset, decide (f.name ≠ "_"))) = [(3, 0, true), (3, 1, true)] := by kernel_rfl
theorem eq_val (d : Nat) (k n : Int) (w : World) : (Op.equalIn (d + 2) 37 (.agg #[.int .i64 k, .int .i64 n]) (.agg #[.int .i64 k, .int .i64 n])).run Tryz.prog w = .ok true w := by
  rw [run_equalIn_agg w _ _ _ _ val_fields val_stood]
  have hn := val_names
  have hl := val_len
  generalize (Tryz.prog.fieldsOf 37).toList = fs at hn hl
  match fs, hl with
  | [f0, f1], _ =>
    simp only [List.map_cons, List.map_nil, List.cons.injEq, Prod.mk.injEq, decide_eq_true_eq, and_true] at hn
    obtain ⟨⟨t0, o0, n0⟩, t1, o1, n1⟩ := hn
    have ui := Tryz.underlying3
    simp only [Op.eqFields, n0, n1, t0, t1, o0, o1, ne_eq, not_false_eq_true, if_true, Sem.run_bind]
    have p0 := vpart_int w #[.int .i64 k, .int .i64 n] 0 (.int .i64 k) rfl
    have p1 := vpart_int w #[.int .i64 k, .int .i64 n] 1 (.int .i64 n) rfl
    have e0 := run_equalIn_int w d _ .i64 _ k k ui
    have e1 := run_equalIn_int w d _ .i64 _ n n ui
    simp [p0, p1, e0, e1, Result.andThen]
theorem neq_val (k n : Int) (w : World) : (binOp .neq 37 (.agg #[.int .i64 k, .int .i64 n]) (.agg #[.int .i64 k, .int .i64 n])).run Tryz.prog w = .ok (.bool false) w := by
  rw [run_neq_struct, eq_val 9998]; rfl

set_option maxRecDepth 100000 in
set_option maxHeartbeats 2000000 in
theorem svals_same (va vb : Value) (l : List Vl) (w : World) (ha : Vls w va l) (hb : Vls w vb l) (hn : l.length ≤ 1000000000000) :
    Calls Tryz.prog 13 #[va, vb] w fun e w' => e = .returned (.bool true) ∧ Below w.heap.size w w' := by
  obtain ⟨a, c, rfl⟩ := ha.val
  obtain ⟨b, d, rfl⟩ := hb.val
  have HA := hid ha; have HB := hid hb
  have hg := val_guard
  clear ha hb
  go_enter Tryz.func13, Tryz.ntmps13
  go_wp2_with fail
  go_loopw [5] (fun i wr => ∃ k : Nat, k ≤ l.length ∧ i = .int .i64 k ∧ Hid (Below w.heap.size w wr)) (fun i _ => l.length - (intOf i).toNat)
  case atStart => exact ⟨0, Nat.zero_le _, rfl, hid (Below.refl _ _)⟩
  case round =>
    obtain ⟨k, hk, rfl, HR⟩ := hrel
    by_cases hlt : k < l.length
    · obtain ⟨b1, o1, h1, hc0, hc1⟩ := vl_at (HA.out.below HR.out) hlt
      obtain ⟨b2, o2, h2, hd0, hd1⟩ := vl_at (HB.out.below HR.out) hlt
      subst h1
      subst h2
      have hi : (0 : Int) ≤ (k : Int) := by omega
      have hkl : (k : Int) < (l.length : Int) := by omega
      generalize l[k] = x at hc0 hc1 hd0 hd1
      obtain ⟨xk, xn⟩ := x
      have hq := neq_val xk xn
      go_wp2_with fail
      go_quiet (fail)
      go_wp2
      go_roundw
      case rel => exact ⟨k + 1, by omega, by go_num, hid (below_drewN HR.out _)⟩
      case measure => simp [intOf]; omega
    · go_wp2
      go_ret
      exact ⟨rfl, HR.out⟩
/-! the heap -/
theorem bare_at {H1 H2 : List Th} (h : H1.map bare = H2.map bare) {k : Nat} (h1 : k < H1.length) (h2 : k < H2.length) : H2[k].ty = H1[k].ty ∧ H2[k].has = H1[k].has := by
  have e : (H1.map bare)[k]? = (H2.map bare)[k]? := by rw [h]
  rw [List.getElem?_map, List.getElem?_map, List.getElem?_eq_getElem h1, List.getElem?_eq_getElem h2] at e
  simp only [Option.map_some, Option.some.injEq, bare, Th.mk.injEq, true_and] at e
  exact ⟨e.1.symm, e.2.symm⟩
set_option maxRecDepth 100000 in
set_option maxHeartbeats 8000000 in
theorem sheap_same (va vb : Value) (H1 H2 : List Th) (w : World) (ha : Ths w va H1) (hb : Ths w vb H2) (he : H1.map bare = H2.map bare) (hs : ∀ x ∈ H1, x.has.length ≤ 2000000) (hn : H1.length ≤ 2000000) :
    Calls Tryz.prog 12 #[.agg #[va], .agg #[vb]] w fun e w' => e = .returned (.bool true) ∧ Below w.heap.size w w' := by
  obtain ⟨aa, ca, rfl⟩ := ha.sl.val
  obtain ⟨ab, cb, rfl⟩ := hb.sl.val
  have HLE : Hid (H1.length = H2.length) := hid (by have := congrArg List.length he; rwa [List.length_map, List.length_map] at this)
  have HA := hid ha; have HB := hid hb; have HE := hid he; have HS := hid hs
  obtain ⟨b1, hb1⟩ : ∃ b1, w.heap.size = b1 := ⟨_, rfl⟩
  obtain ⟨W2, hW2⟩ : ∃ W2, (w.alloc (.cells #[.slice aa H1.length ca] 25)).alloc (.cells #[.slice ab H2.length cb] 25) = W2 := ⟨_, rfl⟩
  have HW2 : Hid (Below w.heap.size w W2) := hid (hW2 ▸ (ext_alloc _ _).trans ((ext_alloc _ _).mono (ext_alloc _ _).size))
  have hrb : W2.heap[b1 + 1]? = some (.cells #[.slice ab H2.length cb] 25 (0, 0)) := by
    rw [← hW2, ← hb1, ← World.size_alloc w (.cells #[.slice aa H1.length ca] 25)]; exact heap_alloc_new _ _
  have hra : W2.heap[b1]? = some (.cells #[.slice aa H1.length ca] 25 (0, 0)) := by
    rw [← hW2, ← hb1]
    exact ((ext_alloc _ _).block _ (by rw [World.size_alloc]; omega)).trans (heap_alloc_new _ _)
  have HX : Hid (∀ u, Below W2.heap.size W2 u → u.cell? ⟨b1, 0, none⟩ = some (.slice aa H1.length ca) ∧ u.cell? ⟨b1 + 1, 0, none⟩ = some (.slice ab H2.length cb)) := hid (fun u hu => by
    have h1 := (hu.block _ (Array.getElem?_eq_some_iff.1 hra).1).trans hra
    have h2 := (hu.block _ (Array.getElem?_eq_some_iff.1 hrb).1).trans hrb
    exact ⟨by rw [cell_of_row _ _ _ _ _ _ h1]; rfl, by rw [cell_of_row _ _ _ _ _ _ h2]; rfl⟩)
  obtain ⟨x0, x1⟩ := HX.out _ (Below.refl _ _)
  have hle : (H1.length : Int) = (H2.length : Int) := by have := HLE.out; omega
  clear ha hb he hs hra hrb
  go_enter Tryz.func12, Tryz.ntmps12
  go_wp2_with fail
  clear hle x0 x1
  go_loopw [5] (fun i wr => ∃ k : Nat, k ≤ H1.length ∧ i = .int .i64 (k : Int) ∧ Hid (Below W2.heap.size W2 wr)) (fun i _ => H1.length - (intOf i).toNat)
  case atStart => exact ⟨0, Nat.zero_le _, rfl, hid (Below.refl _ _)⟩
  case round =>
    obtain ⟨k, hk, rfl, HR⟩ := hrel
    obtain ⟨wb, hwb⟩ : ∃ wb, wb = wr := ⟨_, rfl⟩
    subst hwb
    obtain ⟨x0, x1⟩ := HX.out _ HR.out
    have hk0 : (0 : Int) ≤ (k : Int) := by omega
    by_cases hlt : k < H1.length
    · have hlt2 : k < H2.length := by have := HLE.out; omega
      have hk1 : (k : Int) < (H1.length : Int) := by omega
      have hk2 : (k : Int) < (H2.length : Int) := by omega
      have HBw := hid (HW2.out.trans (HR.out.mono HW2.out.size))
      obtain ⟨ba, oa, hab, he0, he1⟩ := th_at (HA.out.below HBw.out) hlt
      obtain ⟨bb, ob, hbb, hf0, hf1⟩ := th_at (HB.out.below HBw.out) hlt2
      obtain ⟨hty, hhas⟩ := bare_at HE.out hlt hlt2
      have HVA := hid (HA.out.at_ _ (List.getElem_mem hlt))
      have HVB := hid (HB.out.at_ _ (List.getElem_mem hlt2))
      have HSX := hid (HS.out _ (List.getElem_mem hlt))
      rw [hty] at hf0
      rw [hhas] at HVB
      subst hab hbb
      generalize H1[k] = x at he0 he1 hf0 HVA HVB HSX
      generalize H2[k] = y at hf1 HVB
      obtain ⟨ty, vh, has⟩ := x
      obtain ⟨ty2, vh2, has2⟩ := y
      simp only at he0 he1 hf0 hf1 HVA HVB HSX
      obtain ⟨ax, cx, hvx⟩ := HVA.out.val
      obtain ⟨ay, cy, hvy⟩ := HVB.out.val
      subst hvx hvy
      have HRD : Hid (∀ u, Below wb.heap.size wb u → u.cell? ⟨b1, 0, none⟩ = some (.slice (some ⟨ba, oa, none⟩) H1.length ca) ∧ u.cell? ⟨b1 + 1, 0, none⟩ = some (.slice (some ⟨bb, ob, none⟩) H2.length cb) ∧ u.cell? ⟨ba, oa + k * 2, none⟩ = some (.string ty) ∧ u.cell? ⟨ba, oa + k * 2 + 1, none⟩ = some (.slice ax has.length cx) ∧ u.cell? ⟨bb, ob + k * 2, none⟩ = some (.string ty) ∧ u.cell? ⟨bb, ob + k * 2 + 1, none⟩ = some (.slice ay has.length cy)) := hid (fun u hu => by
        obtain ⟨z0, z1⟩ := HX.out u (HR.out.trans (hu.mono HR.out.size))
        exact ⟨z0, z1, (hu.cell (World.block_lt_of_cell? _ _ he0)).trans he0, (hu.cell (World.block_lt_of_cell? _ _ he1)).trans he1, (hu.cell (World.block_lt_of_cell? _ _ hf0)).trans hf0, (hu.cell (World.block_lt_of_cell? _ _ hf1)).trans hf1⟩)
      have HBd : Hid (Below wb.heap.size wb wb) := hid (Below.refl _ _)
      clear he0 he1 hf0 hf1 x1 hty hhas
      go_wp2_with fail
      refine wp_region_ext [(26, is (.bool true))] ⟨is_stays _, trivial⟩ (by kernel_rfl) (by kernel_rfl) ?_
      refine wpG_calc 1 rfl rfl rfl (fun u => by go_simp; rfl) ?_
      simp only [Act.put, List.setIfInBounds_toArray, List.set_cons_zero, List.set_cons_succ]
      refine wpG_read 2 rfl rfl (.slice (some ⟨ba, oa, none⟩) H1.length ca) rfl ?_ ?_
      · intro u hu hh
        obtain ⟨y0, y1, y2, y3, y4, y5⟩ := HRD.out u (Below.trans HBd.out (hu.mono HBd.out.size))
        go_simp
      simp only [Act.put, List.setIfInBounds_toArray, List.set_cons_zero, List.set_cons_succ]
      refine wpG_calc 3 rfl rfl rfl (fun u => by go_simp; rfl) ?_
      simp only [Act.put, List.setIfInBounds_toArray, List.set_cons_zero, List.set_cons_succ]
      refine wpG_calc 4 rfl rfl rfl (fun u => by go_simp; rfl) ?_
      simp only [Act.put, List.setIfInBounds_toArray, List.set_cons_zero, List.set_cons_succ]
      refine wpG_calc 5 rfl rfl rfl (fun u => by go_simp; rfl) ?_
      simp only [Act.put, List.setIfInBounds_toArray, List.set_cons_zero, List.set_cons_succ]
      refine wpG_read 6 rfl rfl (.string ty) rfl ?_ ?_
      · intro u hu hh
        obtain ⟨y0, y1, y2, y3, y4, y5⟩ := HRD.out u (Below.trans HBd.out (hu.mono HBd.out.size))
        go_simp
      simp only [Act.put, List.setIfInBounds_toArray, List.set_cons_zero, List.set_cons_succ]
      refine wpG_calc 7 rfl rfl rfl (fun u => by go_simp; rfl) ?_
      simp only [Act.put, List.setIfInBounds_toArray, List.set_cons_zero, List.set_cons_succ]
      refine wpG_read 8 rfl rfl (.slice (some ⟨bb, ob, none⟩) H2.length cb) rfl ?_ ?_
      · intro u hu hh
        obtain ⟨y0, y1, y2, y3, y4, y5⟩ := HRD.out u (Below.trans HBd.out (hu.mono HBd.out.size))
        go_simp
      simp only [Act.put, List.setIfInBounds_toArray, List.set_cons_zero, List.set_cons_succ]
      refine wpG_calc 9 rfl rfl rfl (fun u => by go_simp; rfl) ?_
      simp only [Act.put, List.setIfInBounds_toArray, List.set_cons_zero, List.set_cons_succ]
      refine wpG_calc 10 rfl rfl rfl (fun u => by go_simp; rfl) ?_
      simp only [Act.put, List.setIfInBounds_toArray, List.set_cons_zero, List.set_cons_succ]
      refine wpG_calc 11 rfl rfl rfl (fun u => by go_simp; rfl) ?_
      simp only [Act.put, List.setIfInBounds_toArray, List.set_cons_zero, List.set_cons_succ]
      refine wpG_read 12 rfl rfl (.string ty) rfl ?_ ?_
      · intro u hu hh
        obtain ⟨y0, y1, y2, y3, y4, y5⟩ := HRD.out u (Below.trans HBd.out (hu.mono HBd.out.size))
        go_simp
      simp only [Act.put, List.setIfInBounds_toArray, List.set_cons_zero, List.set_cons_succ]
      refine wpG_calc (v := .bool false) 13 rfl rfl rfl (fun u => by first | (go_simp; done) | (go_simp; simp; done) | (go_simp; rfl)) ?_
      simp only [Act.put, List.setIfInBounds_toArray, List.set_cons_zero, List.set_cons_succ]
      refine wpG_calc 14 rfl rfl rfl (fun u => by go_simp; rfl) ?_
      simp only [Act.put, List.setIfInBounds_toArray, List.set_cons_zero, List.set_cons_succ]
      refine wpG_calc 15 rfl rfl rfl (fun u => by go_simp; rfl) ?_
      simp only [Act.put, List.setIfInBounds_toArray, List.set_cons_zero, List.set_cons_succ]
      refine wpG_read 16 rfl rfl (.slice (some ⟨ba, oa, none⟩) H1.length ca) rfl ?_ ?_
      · intro u hu hh
        obtain ⟨y0, y1, y2, y3, y4, y5⟩ := HRD.out u (Below.trans HBd.out (hu.mono HBd.out.size))
        go_simp
      simp only [Act.put, List.setIfInBounds_toArray, List.set_cons_zero, List.set_cons_succ]
      refine wpG_calc 17 rfl rfl rfl (fun u => by go_simp; rfl) ?_
      simp only [Act.put, List.setIfInBounds_toArray, List.set_cons_zero, List.set_cons_succ]
      refine wpG_calc 18 rfl rfl rfl (fun u => by go_simp; rfl) ?_
      simp only [Act.put, List.setIfInBounds_toArray, List.set_cons_zero, List.set_cons_succ]
      refine wpG_calc 19 rfl rfl rfl (fun u => by go_simp; rfl) ?_
      simp only [Act.put, List.setIfInBounds_toArray, List.set_cons_zero, List.set_cons_succ]
      refine wpG_read 20 rfl rfl (.slice ax has.length cx) rfl ?_ ?_
      · intro u hu hh
        obtain ⟨y0, y1, y2, y3, y4, y5⟩ := HRD.out u (Below.trans HBd.out (hu.mono HBd.out.size))
        go_simp
      simp only [Act.put, List.setIfInBounds_toArray, List.set_cons_zero, List.set_cons_succ]
      refine wpG_calc 21 rfl rfl rfl (fun u => by go_simp; rfl) ?_
      simp only [Act.put, List.setIfInBounds_toArray, List.set_cons_zero, List.set_cons_succ]
      refine wpG_read 22 rfl rfl (.slice (some ⟨bb, ob, none⟩) H2.length cb) rfl ?_ ?_
      · intro u hu hh
        obtain ⟨y0, y1, y2, y3, y4, y5⟩ := HRD.out u (Below.trans HBd.out (hu.mono HBd.out.size))
        go_simp
      simp only [Act.put, List.setIfInBounds_toArray, List.set_cons_zero, List.set_cons_succ]
      refine wpG_calc 23 rfl rfl rfl (fun u => by go_simp; rfl) ?_
      simp only [Act.put, List.setIfInBounds_toArray, List.set_cons_zero, List.set_cons_succ]
      refine wpG_calc 24 rfl rfl rfl (fun u => by go_simp; rfl) ?_
      simp only [Act.put, List.setIfInBounds_toArray, List.set_cons_zero, List.set_cons_succ]
      refine wpG_calc 25 rfl rfl rfl (fun u => by go_simp; rfl) ?_
      simp only [Act.put, List.setIfInBounds_toArray, List.set_cons_zero, List.set_cons_succ]
      refine wpG_read 26 rfl rfl (.slice ay has.length cy) rfl ?_ ?_
      · intro u hu hh
        obtain ⟨y0, y1, y2, y3, y4, y5⟩ := HRD.out u (Below.trans HBd.out (hu.mono HBd.out.size))
        go_simp
      simp only [Act.put, List.setIfInBounds_toArray, List.set_cons_zero, List.set_cons_succ]
      refine wpG_rel 27 rfl rfl rfl ?_ ?_
      · intro u hu hh
        go_simp
        refine (svals_same _ _ has u (HVA.out.below (Below.trans HBw.out ((Below.trans HBd.out (hu.mono HBd.out.size)).mono HBw.out.size))) (HVB.out.below (Below.trans HBw.out ((Below.trans HBd.out (hu.mono HBd.out.size)).mono HBw.out.size))) (by have := HSX.out; omega)).mono ?_
        rintro e w2 ⟨rfl, hb2⟩
        exact ⟨_, rfl, rfl, hb2⟩
      intro vC ⟨uC, _, hrC⟩
      obtain rfl : vC = .bool true := hrC
      simp only [Act.put, List.setIfInBounds_toArray, List.set_cons_zero, List.set_cons_succ]
      refine wpG_calc 28 rfl rfl rfl (fun u => by go_simp; rfl) ?_
      simp only [Act.put, List.setIfInBounds_toArray, List.set_cons_zero, List.set_cons_succ]
      refine wpG_calc (v := .bool false) 29 rfl rfl rfl (fun u => by first | (go_simp; done) | (go_simp; rfl)) ?_
      simp only [Act.put, List.setIfInBounds_toArray, List.set_cons_zero, List.set_cons_succ]
      refine wpG_nil fun w' hb' hF => ?_
      clear hF
      have HRN := hid (HR.out.trans (hb'.mono HR.out.size))
      clear hb'
      go_wp2_with fail
      go_roundw
      case rel => exact ⟨k + 1, by omega, by simp, HRN⟩
      case measure => simp [intOf]; omega
    · obtain rfl : k = H1.length := by omega
      have HBf := hid (HW2.out.trans (HR.out.mono HW2.out.size))
      go_wp2
      go_ret
      exact ⟨rfl, HBf.out⟩
end Go.Proofs.YtkfkdbmgmifopaaGreatDoor.worlds

/- Own slices of things, each with an own slice of values. No condition. -/
namespace Go.Proofs.YtkfkdbmgmifopaaGreatDoor.worlds
open Go.RowKit Go.Proofs.YtkfkdbmgmifopaaGreatDoor.lib

/-- own slices of different elements lie in different blocks -/
theorem own_apart {w0 w : World} {e1 e2 : TypeId} {s1 s2 : Nat} {v1 v2 : Value} {n1 n2 : Nat} {xs1 xs2 : List Value} (h1 : Out w0 w e1 s1 v1 n1 xs1) (h2 : Out w0 w e2 s2 v2 n2 xs2) (hne : e1 ≠ e2) : Apart v1 v2 := by
  intro k hk1 hk2
  rcases h1.own.2 with ⟨rfl, _⟩ | ⟨g1, c1, cur1, rfl, _, hg1, _⟩
  · cases hk1
  rcases h2.own.2 with ⟨rfl, _⟩ | ⟨g2, c2, cur2, rfl, _, hg2, _⟩
  · cases hk2
  simp only [Value.ownBlock, Option.some.injEq] at hk1 hk2
  subst hk1 hk2
  rw [hg1] at hg2
  simp only [Option.some.injEq, Obj.cells.injEq] at hg2
  exact hne hg2.2.1
/-- a store into a block of another kind -/
theorem out_put_other {w0 w : World} {e eH : TypeId} {s : Nat} {v : Value} {n : Nat} {xs : List Value} {b j : Nat} {c : Array Value} {x : Value} (h : Out w0 w e s v n xs) (hb : w.heap[b]? = some (.cells c eH (0, 0))) (hne : e ≠ eH) (hle : w0.heap.size ≤ b) : Out w0 (w.setCell ⟨b, j, none⟩ x) e s v n xs := by
  refine ⟨h.own.kept (grown_set w ⟨b, j, none⟩ x) ?_, h.below.setCell hle x⟩
  cases hv : v.ownBlock with
  | none => exact .inl rfl
  | some k =>
    refine .inr fun he => ?_
    rcases h.own.2 with ⟨rfl, _⟩ | ⟨g, cap, cur, rfl, _, hg, _⟩
    · cases hv
    · simp only [Value.ownBlock, Option.some.injEq] at hv he
      subst hv
      subst he
      rw [hg] at hb
      simp only [Option.some.injEq, Obj.cells.injEq] at hb
      exact hne hb.2.1
/-- a row of another kind than what grows -/
theorem row_grown {w0 w w' : World} {e eH : TypeId} {s : Nat} {v : Value} {n : Nat} {xs : List Value} {b : Nat} {c : Array Value} (h : Out w0 w e s v n xs) (hb : w.heap[b]? = some (.cells c eH (0, 0))) (hne : e ≠ eH) (hg : w.grownBy w' v.ownBlock) : w'.heap[b]? = some (.cells c eH (0, 0)) := by
  rw [hg.block b (Array.getElem?_eq_some_iff.1 hb).1 ?_]
  · exact hb
  · intro he
    rcases h.own.2 with ⟨rfl, _⟩ | ⟨g, cap, cur, rfl, _, hg, _⟩
    · cases he
    · simp only [Value.ownBlock, Option.some.injEq] at he
      subst he
      rw [hg] at hb
      simp only [Option.some.injEq, Obj.cells.injEq] at hb
      exact hne hb.2.1

def thingT : TypeId := 35
/-- things of the call's own, each with values of its own -/
structure OwnTh (w1 w : World) (v : Value) (L : List Th) : Prop where
  own : Out w1 w 35 2 v L.length (L.flatMap Th.cells)
  at_ : ∀ x ∈ L, Out w1 w 37 2 x.vh x.has.length (x.has.flatMap Vl.cells)
theorem OwnTh.ths {w1 w : World} {v : Value} {L : List Th} (h : OwnTh w1 w v L) : Ths w v L := ⟨h.own.sl, fun x hx => (h.at_ x hx).sl⟩
theorem OwnTh.later {w1 w w' : World} {v : Value} {L : List Th} (h : OwnTh w1 w v L) (hb : Below w.heap.size w w') : OwnTh w1 w' v L := ⟨h.own.later hb, fun x hx => (h.at_ x hx).later hb⟩
theorem OwnTh.nil (w : World) : OwnTh w w (.slice none 0 0) [] := ⟨Out.nil _ _ _, fun _ h => absurd h List.not_mem_nil⟩
theorem OwnTh.since {w0 w1 w : World} {v : Value} {L : List Th} (hb : Below w0.heap.size w0 w1) (h : OwnTh w1 w v L) : OwnTh w0 w v L := ⟨Out.since hb h.own, fun x hx => Out.since hb (h.at_ x hx)⟩
theorem thing_value : (35 : TypeId) ≠ 37 := by decide
theorem thing_heap : (35 : TypeId) ≠ 25 := by decide
theorem value_heap : (37 : TypeId) ≠ 25 := by decide
/-- one more thing, behind those that are there -/
theorem OwnTh.snoc {w1 W w' : World} {v v' : Value} {L : List Th} {x : Th} (h : OwnTh w1 W v L) (hx : Out w1 W 37 2 x.vh x.has.length (x.has.flatMap Vl.cells))
    (ho : Out w1 w' 35 2 v' (L.length + 1) (L.flatMap Th.cells ++ [.string x.ty, x.vh])) (hg : W.grownBy w' v.ownBlock) : OwnTh w1 w' v' (L ++ [x]) := by
  refine ⟨?_, fun y hy => ?_⟩
  · rw [List.length_append, List.flatMap_append]
    exact ho
  · rcases List.mem_append.1 hy with hy | hy
    · exact Out.beside h.own (h.at_ y hy) (own_apart h.own (h.at_ y hy) thing_value) hg
    · obtain rfl := List.mem_singleton.1 hy
      exact Out.beside h.own hx (own_apart h.own hx thing_value) hg
theorem OwnTh.put {w1 w : World} {v : Value} {L : List Th} {b : Nat} {c : Array Value} {x : Value} (h : OwnTh w1 w v L) (hb : w.heap[b]? = some (.cells c 25 (0, 0))) (hle : w1.heap.size ≤ b) : OwnTh w1 (w.setCell ⟨b, 0, none⟩ x) v L :=
  ⟨out_put_other h.own hb thing_heap hle, fun y hy => out_put_other (h.at_ y hy) hb value_heap hle⟩

/-- things that grow in a variable, beside the result's cell -/
structure TW (w1 w : World) (b2 b3 : Nat) (v : Value) (L : List Th) : Prop where
  own : OwnTh w1 w v L
  r3 : w.heap[b3]? = some (.cells #[v] 25 (0, 0))
  r2 : w.heap[b2]? = some (.cells #[.slice none 0 0] 25 (0, 0))
  le2 : w1.heap.size ≤ b2
  le3 : w1.heap.size ≤ b3
  ne : b2 ≠ b3
theorem TW.later {w1 w w' : World} {b2 b3 : Nat} {v : Value} {L : List Th} (h : TW w1 w b2 b3 v L) (hb : Below w.heap.size w w') : TW w1 w' b2 b3 v L :=
  ⟨h.own.later hb, (hb.block _ (Array.getElem?_eq_some_iff.1 h.r3).1).trans h.r3, (hb.block _ (Array.getElem?_eq_some_iff.1 h.r2).1).trans h.r2, h.le2, h.le3, h.ne⟩
theorem setCell_row {w : World} {b j : Nat} {c : Array Value} {e : TypeId} {x : Value} (h : w.heap[b]? = some (.cells c e (0, 0))) : (w.setCell ⟨b, j, none⟩ x).heap[b]? = some (.cells (c.setIfInBounds j x) e (0, 0)) := by
  simp [World.setCell, Array.getElem?_modify, h]
theorem setCell_other {w : World} {b j k : Nat} {x : Value} (h : k ≠ b) : (w.setCell ⟨b, j, none⟩ x).heap[k]? = w.heap[k]? := by
  simp only [World.setCell, Array.getElem?_modify]
  rw [if_neg (fun e => h e.symm)]
/-- append and store -/
theorem TW.step {w1 W w' : World} {b2 b3 : Nat} {v v' : Value} {L : List Th} {x : Th} (h : TW w1 W b2 b3 v L) (hx : Out w1 W 37 2 x.vh x.has.length (x.has.flatMap Vl.cells))
    (ho : Out w1 w' 35 2 v' (L.length + 1) (L.flatMap Th.cells ++ [.string x.ty, x.vh])) (hg : W.grownBy w' v.ownBlock) :
    w'.cell? ⟨b3, 0, none⟩ = some v ∧ w'.frozen? ⟨b3, 0, none⟩ = false ∧ TW w1 (w'.setCell ⟨b3, 0, none⟩ v') b2 b3 v' (L ++ [x]) := by
  have h3 := row_grown h.own.own h.r3 thing_heap hg
  have h2 := row_grown h.own.own h.r2 thing_heap hg
  have hn := h.own.snoc hx ho hg
  refine ⟨by rw [cell_of_row _ _ _ _ _ _ h3]; rfl, frozen_of_row _ _ _ _ _ h3, hn.put h3 h.le3, ?_, ?_, h.le2, h.le3, h.ne⟩
  · exact setCell_row h3
  · rw [setCell_other h.ne]; exact h2
theorem infoTh : (Tryz.prog.info? 35).map (fun i => (i.zero, i.size, i.bytes)) = some (some (.agg #[.string { data := #[] }, .slice none 0 0]), 2, 40) := by kernel_rfl
theorem infoVl : (Tryz.prog.info? 37).map (fun i => (i.zero, i.size, i.bytes)) = some (some (.agg #[.int .i64 0, .int .i64 0]), 2, 16) := by kernel_rfl
end Go.Proofs.YtkfkdbmgmifopaaGreatDoor.worlds
