/- The law ClassParts: its walk. Conditions: the table lies in its variable; the class is not long. -/
import Derived.Test.YtklebfkbildifaaDoorCls9
namespace Go.Proofs.YtklebfkbildifaaDoor.classes
open Go.RowKit Go.Proofs.YtklebfkbildifaaDoor.lib Go.Proofs.YtklebfkbildifaaDoor.errs Go.Proofs.YtklebfkbildifaaDoor.names Go.Proofs.YtklebfkbildifaaDoor.descs Go.Proofs.YtklebfkbildifaaDoor.ins Go.Proofs.YtklebfkbildifaaDoor.flows Go.Proofs.YtklebfkbildifaaDoor.hdls Go.Proofs.YtklebfkbildifaaDoor.grow

theorem part_ok (c : CV) (w : World) (hf : FormsAt w) (hc : c.At w) (hsm : SmallC c) (h : clsFault c = 0) :
    Calls Tryd.prog 25 #[.agg c.cells.toArray] w fun e w' => e = .returned .nilIface ∧ Below w.heap.size w w' := by
  have := ccheck_any c w hc hf hsm
  rw [h] at this
  exact this
theorem small_part {c d : CV} {i j k : Nat} (h : SmallC c) (h1 : d.nm = c.nm) (h2 : d.sup = c.sup) (h4 : d.faces = c.faces.take i) (h5 : d.fields = c.fields.take j) (h6 : d.mets = c.mets.take k) : SmallC d := by
  have l1 : d.faces.length ≤ c.faces.length := by rw [h4, List.length_take]; omega
  have l2 : d.fields.length ≤ c.fields.length := by rw [h5, List.length_take]; omega
  have l3 : d.mets.length ≤ c.mets.length := by rw [h6, List.length_take]; omega
  exact ⟨by rw [h1]; exact h.nm, by rw [h2]; exact h.sup, Nat.le_trans l1 h.flen, fun x hx => h.faces x (List.mem_of_mem_take (by rw [h4] at hx; exact hx)), Nat.le_trans l2 h.dlen, fun x hx => h.fields x (List.mem_of_mem_take (by rw [h5] at hx; exact hx)),
    Nat.le_trans l3 h.mlen, fun x hx => h.mets x (List.mem_of_mem_take (by rw [h6] at hx; exact hx))⟩
theorem Faces.part {w : World} {a : Option Addr} {c : Nat} {l : List ByteArray} (h : Sl w (.slice a l.length c) l.length 1 (l.map .string)) {k : Nat} (hk : k ≤ l.length) : Sl w (.slice a k c) (l.take k).length 1 ((l.take k).map .string) := by
  have := Sl.take h k hk
  rw [Nat.mul_one, ← List.map_take] at this
  rw [List.length_take, Nat.min_eq_left hk]; exact this

set_option maxRecDepth 100000 in
set_option maxHeartbeats 4000000 in
theorem clsparts_any (c : CV) (w : World) (hc : c.At w) (hf : FormsAt w) (hsm : SmallC c) :
    Calls Tryd.prog 6 #[.agg c.cells.toArray] w fun e w' => e = .returned (.bool true) ∧ Below w.heap.size w w' := by
  have HC1 := hid (fun (u : World) (h : Below w.heap.size w u) => ccheck_any c u (hc.below h) (hf.below h) hsm)
  have HC2 := hid (fun (u : World) (h : Below w.heap.size w u) => rcls_any c u (hc.below h) hsm)
  have HSM := hid hsm
  have HF := hid hf
  have HAT := hid hc
  have HCL := hid (fun (u : World) (h : Below w.heap.size w u) => classy_any u (hf.below h))
  obtain ⟨F, hF⟩ : ∃ F, clsFault c = F := ⟨_, rfl⟩
  rw [hF] at HC1 HC2
  have HFF := hid hF
  obtain ⟨nm, sup, vf, face, vd, vm, faces, fields, mets⟩ := c
  obtain ⟨h1, h2, h3⟩ := hc
  simp only [CV.cells] at h1 h2 h3 HC1 HC2 ⊢
  obtain ⟨af, cf, rfl⟩ := h1.val
  obtain ⟨ad, cd, rfl⟩ := h2.val
  obtain ⟨am, cm, rfl⟩ := h3.sl.val
  obtain ⟨W0, hW0⟩ : ∃ W0, w.alloc (.cells #[.string nm, .string sup, .slice af faces.length cf, .bool face, .slice ad fields.length cd, .slice am mets.length cm] 54) = W0 := ⟨_, rfl⟩
  have HBX : Hid (W0.heap[w.heap.size]? = some (.cells #[.string nm, .string sup, .slice af faces.length cf, .bool face, .slice ad fields.length cd, .slice am mets.length cm] 54)) := hid (by subst hW0; exact heap_alloc_new _ _)
  have HB0 : Hid (Below w.heap.size w W0 ∧ w.heap.size < W0.heap.size) := hid (by subst hW0; exact ⟨ext_alloc _ _, by rw [World.size_alloc]; exact Nat.lt_succ_self _⟩)
  clear h1 h2 h3 hf hsm hF
  go_enter Tryd.func6, Tryd.ntmps6
  go_wp2_with fail
  refine (HCL.out _ HB0.out.1).mono ?_
  rintro e w1 ⟨rfl, hb1⟩
  have HX1 := hid ((hb1.block _ HB0.out.2).trans HBX.out)
  have HB1 := hid (HB0.out.1.trans (hb1.mono HB0.out.1.size))
  have HL1 := hid (Nat.lt_of_lt_of_le HB0.out.2 hb1.size)
  clear hb1 hW0
  obtain ⟨km, hkm⟩ : ∃ k, (max 0 ((mets.length : Int) - 1)).toNat = k := ⟨_, rfl⟩
  obtain ⟨kd, hkd⟩ : ∃ k, (max 0 ((fields.length : Int) - 1)).toNat = k := ⟨_, rfl⟩
  obtain ⟨kf, hkf⟩ : ∃ k, (max 0 ((faces.length : Int) - 1)).toNat = k := ⟨_, rfl⟩
  have hle1 : km ≤ mets.length := by omega
  have hle2 : kd ≤ fields.length := by omega
  have hle3 : kf ≤ faces.length := by omega
  have hl1 : mets.length ≤ 1048576 := HSM.out.mlen
  have hl2 : fields.length ≤ 1048576 := HSM.out.dlen
  have hl3 : faces.length ≤ 1048576 := HSM.out.flen
  have hcm : mets.length ≤ cm := HAT.out.mets.sl.cap.2
  have hcd : fields.length ≤ cd := HAT.out.fields.cap.2
  have hcf : faces.length ≤ cf := HAT.out.faces.cap.2
  have HD1 := hid (fun (hz : F = 0) (u : World) (h : Below w.heap.size w u) => part_ok ⟨nm, sup, .slice af faces.length cf, face, .slice ad fields.length cd, .slice am km cm, faces, fields, mets.take km⟩ u (HF.out.below h)
    ⟨HAT.out.faces.below h, HAT.out.fields.below h, (HAT.out.mets.part hle1).below h⟩ (small_part HSM.out rfl rfl (List.take_length (l := faces)).symm (List.take_length (l := fields)).symm rfl)
    (cls_parts (HFF.out.trans hz) rfl rfl rfl (List.take_length (l := faces)).symm (List.take_length (l := fields)).symm rfl))
  have HD2 := hid (fun (hz : F = 0) (u : World) (h : Below w.heap.size w u) => part_ok ⟨nm, sup, .slice af faces.length cf, face, .slice ad kd cd, .slice am mets.length cm, faces, fields.take kd, mets⟩ u (HF.out.below h)
    ⟨HAT.out.faces.below h, (Fds.part HAT.out.fields hle2).below h, HAT.out.mets.below h⟩ (small_part HSM.out rfl rfl (List.take_length (l := faces)).symm rfl (List.take_length (l := mets)).symm)
    (cls_parts (HFF.out.trans hz) rfl rfl rfl (List.take_length (l := faces)).symm rfl (List.take_length (l := mets)).symm))
  have HD3 := hid (fun (hz : F = 0) (u : World) (h : Below w.heap.size w u) => part_ok ⟨nm, sup, .slice af kf cf, face, .slice ad fields.length cd, .slice am mets.length cm, faces.take kf, fields, mets⟩ u (HF.out.below h)
    ⟨(Faces.part HAT.out.faces hle3).below h, HAT.out.fields.below h, HAT.out.mets.below h⟩ (small_part HSM.out rfl rfl rfl (List.take_length (l := fields)).symm (List.take_length (l := mets)).symm)
    (cls_parts (HFF.out.trans hz) rfl rfl rfl rfl (List.take_length (l := fields)).symm (List.take_length (l := mets)).symm))
  simp only [CV.cells] at HD1 HD2 HD3
  go_wp2_with (refine wpList_load_row rfl 54 (.tmp 1) rfl w.heap.size rfl _ _ _ _ HX1.out Tryd.underlying54 rfl (by kernel_rfl) ?_)
  refine (HC1.out w1 HB1.out).mono ?_
  rintro e w2 ⟨rfl, hb2⟩
  have HX2 := hid ((hb2.block _ HL1.out).trans HX1.out)
  have HB2 := hid (HB1.out.trans (hb2.mono HB1.out.size))
  have HL2 := hid (Nat.lt_of_lt_of_le HL1.out hb2.size)
  clear hb2
  by_cases h0 : F = 0
  · rw [errVal_zero h0]
    have HD1 := hid (HD1.out h0)
    have HD2 := hid (HD2.out h0)
    have HD3 := hid (HD3.out h0)
    clear h0
    obtain ⟨W3, hW3⟩ : ∃ W, w2.alloc (.cells #[.string nm, .string sup, .slice af faces.length cf, .bool face, .slice ad fields.length cd, .slice am km cm] 54) = W := ⟨_, rfl⟩
    have H3 : Hid (Below w2.heap.size w2 W3 ∧ w2.heap.size < W3.heap.size ∧ W3.heap[w2.heap.size]? = some (.cells #[.string nm, .string sup, .slice af faces.length cf, .bool face, .slice ad fields.length cd, .slice am km cm] 54)) := hid (by subst hW3; exact ⟨ext_alloc _ _, by rw [World.size_alloc]; exact Nat.lt_succ_self _, heap_alloc_new _ _⟩)
    have HX3 := hid ((H3.out.1.block _ HL2.out).trans HX2.out)
    have HB3 := hid (HB2.out.trans (H3.out.1.mono HB2.out.size))
    have HL3 := hid (Nat.lt_trans HL2.out H3.out.2.1)
    obtain ⟨W4, hW4⟩ : ∃ W, W3.alloc (.cells #[.string nm, .string sup, .slice af faces.length cf, .bool face, .slice ad kd cd, .slice am mets.length cm] 54) = W := ⟨_, rfl⟩
    have H4 : Hid (Below W3.heap.size W3 W4 ∧ W3.heap.size < W4.heap.size ∧ W4.heap[W3.heap.size]? = some (.cells #[.string nm, .string sup, .slice af faces.length cf, .bool face, .slice ad kd cd, .slice am mets.length cm] 54)) := hid (by subst hW4; exact ⟨ext_alloc _ _, by rw [World.size_alloc]; exact Nat.lt_succ_self _, heap_alloc_new _ _⟩)
    have HX4 := hid ((H4.out.1.block _ HL3.out).trans HX3.out)
    have HB4 := hid (HB3.out.trans (H4.out.1.mono HB3.out.size))
    have HL4 := hid (Nat.lt_trans HL3.out H4.out.2.1)
    obtain ⟨W5, hW5⟩ : ∃ W, W4.alloc (.cells #[.string nm, .string sup, .slice af kf cf, .bool face, .slice ad fields.length cd, .slice am mets.length cm] 54) = W := ⟨_, rfl⟩
    have H5 : Hid (Below W4.heap.size W4 W5 ∧ W4.heap.size < W5.heap.size ∧ W5.heap[W4.heap.size]? = some (.cells #[.string nm, .string sup, .slice af kf cf, .bool face, .slice ad fields.length cd, .slice am mets.length cm] 54)) := hid (by subst hW5; exact ⟨ext_alloc _ _, by rw [World.size_alloc]; exact Nat.lt_succ_self _, heap_alloc_new _ _⟩)
    have HB5 := hid (HB4.out.trans (H5.out.1.mono HB4.out.size))
    have HR5 : Hid (W5.heap[w2.heap.size]? = some (.cells #[.string nm, .string sup, .slice af faces.length cf, .bool face, .slice ad fields.length cd, .slice am km cm] 54) ∧ W5.heap[W3.heap.size]? = some (.cells #[.string nm, .string sup, .slice af faces.length cf, .bool face, .slice ad kd cd, .slice am mets.length cm] 54)) :=
      hid ⟨(H5.out.1.block _ (Nat.lt_trans H3.out.2.1 H4.out.2.1)).trans ((H4.out.1.block _ H3.out.2.1).trans H3.out.2.2), (H5.out.1.block _ H4.out.2.1).trans H4.out.2.2⟩
    have HLL : Hid (w2.heap.size < W5.heap.size ∧ W3.heap.size < W5.heap.size) := hid ⟨Nat.lt_trans H3.out.2.1 (Nat.lt_trans H4.out.2.1 H5.out.2.1), Nat.lt_trans H4.out.2.1 H5.out.2.1⟩
    have hk5 : (w2.alloc (.cells #[.string nm, .string sup, .slice af faces.length cf, .bool face, .slice ad fields.length cd, .slice am mets.length cm] 54)).cell? ⟨w.heap.size, 5, none⟩ = some (.slice am mets.length cm) := by
      rw [World.cell?_alloc_lt _ _ _ HL2.out, cell_of_row _ _ _ _ _ _ HX2.out]; rfl
    have hk4 : (W3.alloc (.cells #[.string nm, .string sup, .slice af faces.length cf, .bool face, .slice ad fields.length cd, .slice am mets.length cm] 54)).cell? ⟨w.heap.size, 4, none⟩ = some (.slice ad fields.length cd) := by
      rw [World.cell?_alloc_lt _ _ _ HL3.out, cell_of_row _ _ _ _ _ _ HX3.out]; rfl
    have hk2 : (W4.alloc (.cells #[.string nm, .string sup, .slice af faces.length cf, .bool face, .slice ad fields.length cd, .slice am mets.length cm] 54)).cell? ⟨w.heap.size, 2, none⟩ = some (.slice af faces.length cf) := by
      rw [World.cell?_alloc_lt _ _ _ HL4.out, cell_of_row _ _ _ _ _ _ HX4.out]; rfl
    have q0 : W5.cell? ⟨w2.heap.size, 0, none⟩ = some (.string nm) := by rw [cell_of_row _ _ _ _ _ _ HR5.out.1]; rfl
    have q1 : W5.cell? ⟨w2.heap.size, 1, none⟩ = some (.string sup) := by rw [cell_of_row _ _ _ _ _ _ HR5.out.1]; rfl
    have q2 : W5.cell? ⟨w2.heap.size, 2, none⟩ = some (.slice af faces.length cf) := by rw [cell_of_row _ _ _ _ _ _ HR5.out.1]; rfl
    have q3 : W5.cell? ⟨w2.heap.size, 3, none⟩ = some (.bool face) := by rw [cell_of_row _ _ _ _ _ _ HR5.out.1]; rfl
    have q4 : W5.cell? ⟨w2.heap.size, 4, none⟩ = some (.slice ad fields.length cd) := by rw [cell_of_row _ _ _ _ _ _ HR5.out.1]; rfl
    have q5 : W5.cell? ⟨w2.heap.size, 5, none⟩ = some (.slice am km cm) := by rw [cell_of_row _ _ _ _ _ _ HR5.out.1]; rfl
    go_wp2_with (first
      | refine wpList_load_row rfl 54 (.tmp 1) rfl w.heap.size rfl _ _ _ _ HX2.out Tryd.underlying54 rfl (by kernel_rfl) ?_
      | refine wpList_load_row rfl 54 (.tmp 1) rfl w.heap.size rfl _ _ _ _ HX3.out Tryd.underlying54 rfl (by kernel_rfl) ?_
      | refine wpList_load_row rfl 54 (.tmp 1) rfl w.heap.size rfl _ _ _ _ HX4.out Tryd.underlying54 rfl (by kernel_rfl) ?_)
    clear hk5 hk4 hk2 hW3 hW4 hW5 q0 q1 q2 q3 q4 q5
    refine (HD1.out W5 HB5.out).mono ?_
    rintro e w6 ⟨rfl, hb6⟩
    have HR6 := hid ((hb6.block _ HLL.out.2).trans HR5.out.2)
    have HR7 := hid ((hb6.block _ H5.out.2.1).trans H5.out.2.2)
    have HB6 := hid (HB5.out.trans (hb6.mono HB5.out.size))
    have HL6 := hid (Nat.lt_of_lt_of_le H5.out.2.1 hb6.size)
    clear hb6
    have q0 : w6.cell? ⟨W3.heap.size, 0, none⟩ = some (.string nm) := by rw [cell_of_row _ _ _ _ _ _ HR6.out]; rfl
    have q1 : w6.cell? ⟨W3.heap.size, 1, none⟩ = some (.string sup) := by rw [cell_of_row _ _ _ _ _ _ HR6.out]; rfl
    have q2 : w6.cell? ⟨W3.heap.size, 2, none⟩ = some (.slice af faces.length cf) := by rw [cell_of_row _ _ _ _ _ _ HR6.out]; rfl
    have q3 : w6.cell? ⟨W3.heap.size, 3, none⟩ = some (.bool face) := by rw [cell_of_row _ _ _ _ _ _ HR6.out]; rfl
    have q4 : w6.cell? ⟨W3.heap.size, 4, none⟩ = some (.slice ad kd cd) := by rw [cell_of_row _ _ _ _ _ _ HR6.out]; rfl
    have q5 : w6.cell? ⟨W3.heap.size, 5, none⟩ = some (.slice am mets.length cm) := by rw [cell_of_row _ _ _ _ _ _ HR6.out]; rfl
    go_wp2_with fail
    clear q0 q1 q2 q3 q4 q5
    refine (HD2.out w6 HB6.out).mono ?_
    rintro e w7 ⟨rfl, hb7⟩
    have HR8 := hid ((hb7.block _ HL6.out).trans HR7.out)
    have HB7 := hid (HB6.out.trans (hb7.mono HB6.out.size))
    clear hb7
    have q0 : w7.cell? ⟨W4.heap.size, 0, none⟩ = some (.string nm) := by rw [cell_of_row _ _ _ _ _ _ HR8.out]; rfl
    have q1 : w7.cell? ⟨W4.heap.size, 1, none⟩ = some (.string sup) := by rw [cell_of_row _ _ _ _ _ _ HR8.out]; rfl
    have q2 : w7.cell? ⟨W4.heap.size, 2, none⟩ = some (.slice af kf cf) := by rw [cell_of_row _ _ _ _ _ _ HR8.out]; rfl
    have q3 : w7.cell? ⟨W4.heap.size, 3, none⟩ = some (.bool face) := by rw [cell_of_row _ _ _ _ _ _ HR8.out]; rfl
    have q4 : w7.cell? ⟨W4.heap.size, 4, none⟩ = some (.slice ad fields.length cd) := by rw [cell_of_row _ _ _ _ _ _ HR8.out]; rfl
    have q5 : w7.cell? ⟨W4.heap.size, 5, none⟩ = some (.slice am mets.length cm) := by rw [cell_of_row _ _ _ _ _ _ HR8.out]; rfl
    go_wp2_with fail
    clear q0 q1 q2 q3 q4 q5
    refine (HD3.out w7 HB7.out).mono ?_
    rintro e w8 ⟨rfl, hb8⟩
    have HB8 := hid (HB7.out.trans (hb8.mono HB7.out.size))
    clear hb8
    go_wp2_with fail
    go_ret
    exact ⟨rfl, HB8.out⟩
  · rw [errVal_ne h0]
    clear h0
    go_wp2_with fail
    go_ret
    exact ⟨rfl, HB2.out⟩
end Go.Proofs.YtklebfkbildifaaDoor.classes
