/- Copies of a method: coffeehouselaw5.codes and method; a struct's store into the middle of a block. Condition: it is not long. -/
import Derived.Test.YtklebfkbildifaaDoorTrim7
import Derived.Laws.CopyRow
namespace Go.Proofs.YtklebfkbildifaaDoor.trims
open Go.RowKit Go.Proofs.YtklebfkbildifaaDoor.lib Go.Proofs.YtklebfkbildifaaDoor.errs Go.Proofs.YtklebfkbildifaaDoor.names Go.Proofs.YtklebfkbildifaaDoor.descs Go.Proofs.YtklebfkbildifaaDoor.ins Go.Proofs.YtklebfkbildifaaDoor.reach Go.Proofs.YtklebfkbildifaaDoor.flows Go.Proofs.YtklebfkbildifaaDoor.hdls Go.Proofs.YtklebfkbildifaaDoor.mseen Go.Proofs.YtklebfkbildifaaDoor.classes Go.Proofs.YtklebfkbildifaaDoor.grow Go.Proofs.YtklebfkbildifaaDoor.keep

section
variable {P : Program}
theorem wpList_store_at {ops : Array Oper} {rest : List Oper} {o : Oper} {a : Act} {w : World} {Q : Exit → Act → World → Prop} (hgd : o.guard = none) (ty : TypeId) (x y : Operand) (ho : o.op = .store ty x y)
    (g off : Nat) (cells : Array Value) (hx : a.eval x = .pointer (some ⟨g, off, none⟩)) (hy : a.eval y = .agg cells)
    (t : TypeId) (cur : Array Value) (hg : w.heap[g]? = some (.cells cur t (0, 0))) (hi : (P.info? ty).map (·.size) = some cells.size) (hl : off + cells.size ≤ cur.size) (h1 : ∀ v ∈ cells.toList, v.oneCell' = true)
    (h : ∀ new : Array Value, new.size = cur.size → wpList P ops Q rest (a.put o.dst undef) (w.setRow g new)) : wpList P ops Q (o :: rest) a w := by
  refine wpList_plain hgd fun K hK => ?_
  have hst := run_storeCells_at (P := P) g off t cells.toList 0 cur w hg (by simpa using hl) h1
  have hsz : (cur.toList.take (off + 0) ++ cells.toList ++ cur.toList.drop (off + 0 + cells.toList.length)).toArray.size = cur.size := by
    simp; omega
  obtain ⟨new, hnew⟩ : ∃ new, (cur.toList.take (off + 0) ++ cells.toList ++ cur.toList.drop (off + 0 + cells.toList.length)).toArray = new := ⟨_, rfl⟩
  rw [hnew] at hst hsz
  have hsv : (storeVar ty ⟨g, off, none⟩ (.agg cells)).run P w = .ok () (w.setRow g new) := by
    cases hq : P.info? ty with
    | none => simp [hq] at hi
    | some i =>
      have hs : cells.size = i.size := by simp [hq] at hi; omega
      simp [storeVar, sizeOf, typeInfo, hq, Value.cells, hs, hst]
  unfold Oper.wp execOp
  simp only [ho, hx, hy, Instr.storeAt, Instr.sureAddr, Sem.run_bind, Sem.run_pure, Result.andThen_ok, hsv]
  exact hK _ _ (h _ hsz)
end

theorem one_ins (l : List I) : ∀ u ∈ cellsOf l, u.oneCell' = true := fun u hu => by
  obtain ⟨x, _, hx⟩ := List.mem_flatMap.1 hu
  simp [I.cells] at hx
  rcases hx with rfl | rfl | rfl | rfl | rfl | rfl <;> rfl
theorem one_hds (l : List Hd) : ∀ u ∈ hcells l, u.oneCell' = true := fun u hu => by
  obtain ⟨x, _, hx⟩ := List.mem_flatMap.1 hu
  simp [Hd.cells] at hx
  rcases hx with rfl | rfl | rfl | rfl <;> rfl

set_option maxHeartbeats 1000000 in
theorem codes_any (va : Value) (l : List I) (w : World) (ha : Go.Proofs.YtklebfkbildifaaDoor.flows.Code w va l) (hn : l.length ≤ 2000000) :
    Calls Tryd.prog 44 #[va] w fun e w' => ∃ v, e = .returned v ∧ Out w w' 33 6 v l.length (cellsOf l) := by
  have hE := ext_alloc w (.cells #[] 33)
  have HS := hid (ha.below hE)
  have HM := hid (Out.made w 33 6)
  have HO := hid (one_ins l)
  obtain ⟨a, c, rfl⟩ := ha.val
  clear ha hE
  go_enter Tryd.func44, Tryd.ntmps44
  go_wp2_with (at_builtin; refine wpList_append_src w _ rfl _ _ 22 rfl 33 _ 6 72 l.length Tryd.underlying22 infoOne rfl (by decide) _ 0 [] HM.out rfl _ (cellsOf l) HS.out rfl HO.out ?_ ?_ ?_)
  all_goals first | (intro v' w' ho hg) | omega | skip
  have HX := hid ho
  obtain ⟨a', c', rfl⟩ := ho.sl.val
  clear ho hg
  go_wp2
  go_ret
  exact ⟨_, rfl, HX.out⟩

set_option maxRecDepth 100000 in
set_option maxHeartbeats 4000000 in
theorem mcopy_any (nm ty : ByteArray) (st ab pr : Bool) (lo : Int) (vc vh : Value) (l : List I) (hs : List Hd) (w : World) (hc : Go.Proofs.YtklebfkbildifaaDoor.flows.Code w vc l) (hv : Hds w vh hs) (hn : l.length ≤ 2000000) (hm : hs.length ≤ 2000000) :
    Calls Tryd.prog 12 #[.agg #[.string nm, .string ty, .bool st, .bool ab, .bool pr, .int .i64 lo, vc, vh]] w fun e w' => ∃ v6 v7, e = .returned (.agg #[.string nm, .string ty, .bool st, .bool ab, .bool pr, .int .i64 lo, v6, v7]) ∧
      w'.ownsRow w.heap.size 33 6 v6 l.length (cellsOf l) ∧ w'.ownsRow w.heap.size 35 4 v7 hs.length (hcells hs) ∧ Below w.heap.size w w' := by
  obtain ⟨ac, cc, rfl⟩ := hc.val
  obtain ⟨ah, ch, rfl⟩ := hv.val
  obtain ⟨W0, hW0⟩ : ∃ W0, w.alloc (.cells #[.string nm, .string ty, .bool st, .bool ab, .bool pr, .int .i64 lo, .slice ac l.length cc, .slice ah hs.length ch] 25) = W0 := ⟨_, rfl⟩
  obtain ⟨W1, hW1⟩ : ∃ W1, W0.alloc (.cells #[.string { data := #[] }, .string { data := #[] }, .bool false, .bool false, .bool false, .int .i64 0, .slice none 0 0, .slice none 0 0] 25) = W1 := ⟨_, rfl⟩
  have HRS : Hid (W1.heap[W0.heap.size]? = some (.cells #[.string { data := #[] }, .string { data := #[] }, .bool false, .bool false, .bool false, .int .i64 0, .slice none 0 0, .slice none 0 0] 25)) := hid (by subst hW1; exact heap_alloc_new _ _)
  have HBX : Hid (W1.heap[w.heap.size]? = some (.cells #[.string nm, .string ty, .bool st, .bool ab, .bool pr, .int .i64 lo, .slice ac l.length cc, .slice ah hs.length ch] 25)) := hid (by subst hW1 hW0; exact heap_alloc2_old _ _ _)
  have HBR := hid (show W0.heap.size < W1.heap.size ∧ w.heap.size < W0.heap.size from by subst hW1 hW0; simp only [World.size_alloc]; omega)
  have HBD := hid (show Below w.heap.size w W1 from by subst hW1 hW0; exact (ext_alloc w _).alloc (ext_alloc w _).size _)
  have HV := hid hv
  have HCD := hid (codes_any (.slice ac l.length cc) l W1 (hc.below HBD.out) hn)
  have HOH := hid (one_hds hs)
  have hk6 : W1.cell? ⟨w.heap.size, 6, none⟩ = some (.slice ac l.length cc) := by rw [cell_of_row _ _ _ _ _ _ HBX.out]; rfl
  clear hc hv
  go_enter Tryd.func12, Tryd.ntmps12
  go_wp2_with fail
  clear hk6 hW0 hW1
  refine HCD.out.mono ?_
  rintro e w2 ⟨v6, rfl, ho6⟩
  have HO6 := hid ho6
  have HX2 := hid ((ho6.below.block _ (Nat.lt_trans HBR.out.2 HBR.out.1)).trans HBX.out)
  have HR2 := hid ((ho6.below.block _ HBR.out.1).trans HRS.out)
  have HB2 := hid (HBD.out.trans (ho6.below.mono HBD.out.size))
  have HL2 : Hid (W0.heap.size < w2.heap.size) := hid (Nat.lt_of_lt_of_le HBR.out.1 ho6.below.size)
  obtain ⟨a6, c6, rfl⟩ := ho6.sl.val
  clear ho6
  have q6 : w2.cell? ⟨w.heap.size, 6, none⟩ = some (.slice ac l.length cc) := by rw [cell_of_row _ _ _ _ _ _ HX2.out]; rfl
  have f6 : w2.frozen? ⟨w.heap.size, 6, none⟩ = false := frozen_of_row _ _ _ _ _ HX2.out
  obtain ⟨W3, hW3⟩ : ∃ W3, w2.setCell ⟨w.heap.size, 6, none⟩ (.slice a6 l.length c6) = W3 := ⟨_, rfl⟩
  have HK3 : Hid (Keeps (fun k => k = w.heap.size) w2 W3) := hid (by subst hW3; exact Keeps.set w2 _ 6 _)
  have HS3 : Hid (W3.heap.size = w2.heap.size) := hid (by subst hW3; simp [World.setCell])
  have HX3 : Hid (W3.heap[w.heap.size]? = some (.cells #[.string nm, .string ty, .bool st, .bool ab, .bool pr, .int .i64 lo, .slice a6 l.length c6, .slice ah hs.length ch] 25)) := hid (by subst hW3; exact heap_set HX2.out 6 _)
  have HB3 : Hid (Below w.heap.size w W3) := hid (Keeps.below HB2.out HB2.out.size HK3.out (fun k hk => by omega))
  have HM3 := hid (Out.made W3 35 4)
  have HE3 := hid (ext_alloc W3 (.cells #[] 35))
  have q7 : (W3.alloc (.cells #[] 35)).cell? ⟨w.heap.size, 7, none⟩ = some (.slice ah hs.length ch) := by
    rw [World.cell?_alloc_lt _ _ _ (show w.heap.size < W3.heap.size from by have := HS3.out; have := HL2.out; have := HBR.out; omega), cell_of_row _ _ _ _ _ _ HX3.out]; rfl
  have HV3 := hid ((HV.out.below HB3.out).below HE3.out)
  go_wp2_with (at_builtin; refine wpList_append_src W3 _ rfl _ _ 23 rfl 35 _ 4 40 hs.length Tryd.underlying23 infoHd rfl (by decide) _ 0 [] HM3.out rfl _ (hcells hs) HV3.out rfl HOH.out ?_ ?_ ?_)
  all_goals first | (intro v7 w4 ho7 hg7) | omega | skip
  have HO7 := hid ho7
  obtain ⟨a7, c7, rfl⟩ := ho7.sl.val
  have HX4 := hid ((ho7.below.block _ (show w.heap.size < W3.heap.size from by have := HS3.out; have := HL2.out; have := HBR.out; omega)).trans HX3.out)
  have HR4 := hid ((ho7.below.block _ (show W0.heap.size < W3.heap.size from by have := HS3.out; have := HL2.out; omega)).trans ((HK3.out.block _ HL2.out (by have := HBR.out; omega)).trans HR2.out))
  have HB4 := hid (HB3.out.trans (ho7.below.mono HB3.out.size))
  have HB34 := hid ho7.below
  clear ho7 hg7 q6 f6 q7 hW3
  have q7 : w4.cell? ⟨w.heap.size, 7, none⟩ = some (.slice ah hs.length ch) := by rw [cell_of_row _ _ _ _ _ _ HX4.out]; rfl
  have f7 : w4.frozen? ⟨w.heap.size, 7, none⟩ = false := frozen_of_row _ _ _ _ _ HX4.out
  obtain ⟨W5, hW5⟩ : ∃ W5, w4.setCell ⟨w.heap.size, 7, none⟩ (.slice a7 hs.length c7) = W5 := ⟨_, rfl⟩
  have HK5 : Hid (Keeps (fun k => k = w.heap.size) w4 W5) := hid (by subst hW5; exact Keeps.set w4 _ 7 _)
  have HX5 : Hid (W5.heap[w.heap.size]? = some (.cells #[.string nm, .string ty, .bool st, .bool ab, .bool pr, .int .i64 lo, .slice a6 l.length c6, .slice a7 hs.length c7] 25)) := hid (by subst hW5; exact heap_set HX4.out 7 _)
  have HLT : Hid (W0.heap.size < w4.heap.size) := hid (by have h1 := HB34.out.size; have h2 := HS3.out; have h3 := HL2.out; omega)
  have HR5 := hid ((HK5.out.block _ HLT.out (by have := HBR.out; omega)).trans HR4.out)
  have HB5 : Hid (Below w.heap.size w W5) := hid (Keeps.below HB4.out HB4.out.size HK5.out (fun k hk => by omega))
  go_wp2_with (first
    | refine wpList_load_row rfl 25 (.tmp 1) rfl w.heap.size rfl _ _ _ _ HX5.out Tryd.underlying25 rfl (by kernel_rfl) ?_
    | refine wpList_store_row rfl 25 (.tmp 2) (.tmp 12) rfl W0.heap.size _ rfl rfl 25 _ HR5.out (by kernel_rfl) rfl (by simp [Value.oneCell']) ?_)
  refine bodyPost_ret (results_cell_row rfl _ _ W0.heap.size _ _ _ _ rfl (setRow_heap _ _ _ _ _ _ HR5.out) Tryd.underlying25 rfl (by kernel_rfl)) rfl ?_
  have g6 : ∀ k, (Value.slice a6 l.length c6).ownBlock = some k → W1.heap.size ≤ k := fun k hk => (HO6.out.own.lt k hk).1
  have g7 : ∀ k, (Value.slice a7 hs.length c7).ownBlock = some k → W3.heap.size ≤ k := fun k hk => (HO7.out.own.lt k hk).1
  have hb := HBR.out
  have hs3 := HS3.out
  have hl2 := HL2.out
  refine ⟨_, _, rfl, ?_, ?_, below_setRow HB5.out (Nat.le_of_lt HBR.out.2) _⟩
  · refine owns_keeps (B := W1.heap.size) (owns_keeps (B := W1.heap.size) (owns_keeps (F := fun _ => False) (B := W1.heap.size) (owns_keeps HO6.out.own HK3.out (fun k hk => by have := g6 k hk; omega) (Nat.le_refl _)) (Keeps.of_below HB34.out) (fun _ _ h => h) (Nat.le_refl _)) HK5.out (fun k hk => by have := g6 k hk; omega) (Nat.le_refl _)) (keeps_row _ _ _) (fun k hk => by have := g6 k hk; omega) (by omega)
  · refine owns_keeps (B := W3.heap.size) (owns_keeps HO7.out.own HK5.out (fun k hk => by have := g7 k hk; omega) (Nat.le_refl _)) (keeps_row _ _ _) (fun k hk => by have := g7 k hk; omega) (by omega)
end Go.Proofs.YtklebfkbildifaaDoor.trims
