/- The laws ClassTells and ClassParts: their walks. Conditions: the table lies in its variable; the class is not long. -/
import Derived.Test.YtklebfkbildifaaDoorCls8
import Derived.Test.YtklebfkbildifaaDoorErr
namespace Go.Proofs.YtklebfkbildifaaDoor.classes
open Go.RowKit Go.Proofs.YtklebfkbildifaaDoor.lib Go.Proofs.YtklebfkbildifaaDoor.errs Go.Proofs.YtklebfkbildifaaDoor.names Go.Proofs.YtklebfkbildifaaDoor.descs Go.Proofs.YtklebfkbildifaaDoor.ins Go.Proofs.YtklebfkbildifaaDoor.flows Go.Proofs.YtklebfkbildifaaDoor.hdls Go.Proofs.YtklebfkbildifaaDoor.grow

def clsA : CV := ⟨{ data := #[65] }, { data := #[79, 98, 106, 101, 99, 116] }, .slice none 0 0, false, .slice none 0 0, .slice none 0 0, [], [], []⟩
def clsE : CV := ⟨{ data := #[] }, { data := #[] }, .slice none 0 0, false, .slice none 0 0, .slice none 0 0, [], [], []⟩
theorem clsA_ok : clsFault clsA = 0 := by decide +kernel
theorem clsE_no : clsFault clsE = 1 := by decide +kernel
theorem empty_at (nm sup : ByteArray) (w : World) : CV.At w ⟨nm, sup, .slice none 0 0, false, .slice none 0 0, .slice none 0 0, [], [], []⟩ :=
  ⟨(Out.nil w 0 _).sl, (Out.nil w 0 _).sl, ⟨(Out.nil w 0 _).sl, fun _ h => by cases h⟩⟩
theorem empty_small {nm sup : ByteArray} (h1 : nm.size ≤ 1048576) (h2 : sup.size ≤ 1048576) : SmallC ⟨nm, sup, .slice none 0 0, false, .slice none 0 0, .slice none 0 0, [], [], []⟩ :=
  ⟨h1, h2, Nat.zero_le _, (fun _ h => by cases h), Nat.zero_le _, (fun _ h => by cases h), Nat.zero_le _, (fun _ h => by cases h)⟩

set_option maxRecDepth 100000 in
set_option maxHeartbeats 1000000 in
theorem classy_any (w : World) (hf : FormsAt w) : Calls Tryd.prog 24 #[] w fun e w' => e = .returned (.bool true) ∧ Below w.heap.size w w' := by
  obtain ⟨i, hi, hc⟩ := errno_info
  have he := fun w : World => run_eql_iface_int (P := Tryd.prog) w 1 1 Tryd.underlying29 Tryd.underlying38 hi hc
  clear hi hc
  have HF := hid hf
  have HA := hid (fun u (h : Below w.heap.size w u) => ccheck_any clsA u (empty_at _ _ u) (HF.out.below h) (empty_small (by decide) (by decide)))
  have HE := hid (fun u (h : Below w.heap.size w u) => ccheck_any clsE u (empty_at _ _ u) (HF.out.below h) (empty_small (by decide) (by decide)))
  rw [clsA_ok] at HA
  rw [clsE_no] at HE
  clear hf
  go_enter Tryd.func24, Tryd.ntmps24
  go_wp2_with fail
  refine (HA.out w (Below.refl _ _)).mono ?_
  rintro e w1 ⟨rfl, hb1⟩
  rw [show errVal 0 = .nilIface from rfl]
  have HB1 := hid hb1
  clear hb1
  go_wp2_with fail
  refine (HE.out w1 HB1.out).mono ?_
  rintro e w2 ⟨rfl, hb2⟩
  rw [show errVal 1 = .iface 38 (.int .i64 1) from rfl]
  go_wp2_with fail
  go_ret
  exact ⟨rfl, HB1.out.trans (hb2.mono HB1.out.size)⟩

set_option maxRecDepth 100000 in
set_option maxHeartbeats 4000000 in
theorem clstells_any (c : CV) (w : World) (hc : c.At w) (hf : FormsAt w) (hsm : SmallC c) :
    Calls Tryd.prog 5 #[.agg c.cells.toArray] w fun e w' => e = .returned (.bool true) ∧ Below w.heap.size w w' := by
  have HC1 := hid (fun (u : World) (h : Below w.heap.size w u) => ccheck_any c u (hc.below h) (hf.below h) hsm)
  have HC2 := hid (fun (u : World) (h : Below w.heap.size w u) => rcls_any c u (hc.below h) hsm)
  have HCL := hid (fun (u : World) (h : Below w.heap.size w u) => classy_any u (hf.below h))
  obtain ⟨F, hF⟩ : ∃ F, clsFault c = F := ⟨_, rfl⟩
  rw [hF] at HC1 HC2
  obtain ⟨nm, sup, vf, face, vd, vm, faces, fields, mets⟩ := c
  obtain ⟨h1, h2, h3⟩ := hc
  simp only [CV.cells] at h1 h2 h3 HC1 HC2 ⊢
  obtain ⟨af, cf, rfl⟩ := h1.val
  obtain ⟨ad, cd, rfl⟩ := h2.val
  obtain ⟨am, cm, rfl⟩ := h3.sl.val
  obtain ⟨W0, hW0⟩ : ∃ W0, w.alloc (.cells #[.string nm, .string sup, .slice af faces.length cf, .bool face, .slice ad fields.length cd, .slice am mets.length cm] 54) = W0 := ⟨_, rfl⟩
  have HBX : Hid (W0.heap[w.heap.size]? = some (.cells #[.string nm, .string sup, .slice af faces.length cf, .bool face, .slice ad fields.length cd, .slice am mets.length cm] 54)) := hid (by subst hW0; exact heap_alloc_new _ _)
  have HB0 : Hid (Below w.heap.size w W0 ∧ w.heap.size < W0.heap.size) := hid (by subst hW0; exact ⟨ext_alloc _ _, by rw [World.size_alloc]; exact Nat.lt_succ_self _⟩)
  clear h1 h2 h3 hf hsm hF
  go_enter Tryd.func5, Tryd.ntmps5
  go_wp2_with fail
  refine (HCL.out _ HB0.out.1).mono ?_
  rintro e w1 ⟨rfl, hb1⟩
  have HX1 := hid ((hb1.block _ HB0.out.2).trans HBX.out)
  have HB1 := hid (HB0.out.1.trans (hb1.mono HB0.out.1.size))
  have HL1 := hid (Nat.lt_of_lt_of_le HB0.out.2 hb1.size)
  clear hb1 hW0
  go_wp2_with fail
  refine wp_region_ext [(1, is (errVal F)), (3, is (.int .i64 F)), (4, is (.bool true))] ⟨is_stays _, is_stays _, is_stays _, trivial⟩ (by kernel_rfl) (by kernel_rfl) ?_
  refine wpG_row 1 rfl rfl rfl 54 _ rfl w.heap.size rfl _ _ _ _ Tryd.underlying54 rfl (by kernel_rfl) (fun u hu => (hu.block _ HL1.out).trans HX1.out) ?_
  simp only [Act.put, List.setIfInBounds_toArray, List.set_cons_zero, List.set_cons_succ]
  refine wpG_rel 2 rfl rfl rfl ?_ ?_
  · intro u hu hh
    go_simp
    refine (HC1.out u (HB1.out.trans (hu.mono HB1.out.size))).mono ?_
    rintro e w6 ⟨rfl, hb6⟩
    exact ⟨_, rfl, rfl, hb6⟩
  intro v2 ⟨u2, _, hr2⟩
  obtain rfl : v2 = errVal F := hr2
  simp only [Act.put, List.setIfInBounds_toArray, List.set_cons_zero, List.set_cons_succ]
  refine wpG_row 3 rfl rfl rfl 54 _ rfl w.heap.size rfl _ _ _ _ Tryd.underlying54 rfl (by kernel_rfl) (fun u hu => (hu.block _ HL1.out).trans HX1.out) ?_
  simp only [Act.put, List.setIfInBounds_toArray, List.set_cons_zero, List.set_cons_succ]
  refine wpG_rel 4 rfl rfl rfl ?_ ?_
  · intro u hu hh
    go_simp
    refine (HC2.out u (HB1.out.trans (hu.mono HB1.out.size))).mono ?_
    rintro e w6 ⟨rfl, hb6⟩
    exact ⟨_, rfl, rfl, hb6⟩
  intro v4 ⟨u4, _, hr4⟩
  obtain rfl : v4 = .int .i64 F := hr4
  simp only [Act.put, List.setIfInBounds_toArray, List.set_cons_zero, List.set_cons_succ]
  refine wpG_rel 5 rfl rfl rfl ?_ ?_
  · intro u hu hh
    go_simp
    refine (error_same F u).mono ?_
    rintro e w6 ⟨rfl, rfl⟩
    exact ⟨_, rfl, rfl, Below.refl _ _⟩
  intro v5 ⟨u5, _, hr5⟩
  obtain rfl : v5 = .bool true := hr5
  simp only [Act.put, List.setIfInBounds_toArray, List.set_cons_zero, List.set_cons_succ]
  refine wpG_calc 6 rfl rfl rfl (fun u => by go_simp; rfl) ?_
  simp only [Act.put, List.setIfInBounds_toArray, List.set_cons_zero, List.set_cons_succ]
  refine wpG_nil fun w6 hb6 hF => ?_
  clear hF
  have HB6 := hid (HB1.out.trans (hb6.mono HB1.out.size))
  clear hb6
  go_wp2_with fail
  go_ret
  exact ⟨rfl, HB6.out⟩
end Go.Proofs.YtklebfkbildifaaDoor.classes
