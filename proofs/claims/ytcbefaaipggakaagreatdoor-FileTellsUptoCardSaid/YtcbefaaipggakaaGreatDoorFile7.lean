/- The law FileTells: its walk. Conditions: the tables lie in their variables; the class is not long; its code's numbers are of 64 bits. -/
import Derived.Test.YtcbefaaipggakaaGreatDoorFile6
import Derived.Test.YtcbefaaipggakaaGreatDoorCls8
import Derived.Test.YtcbefaaipggakaaGreatDoorErr
set_option linter.unusedSimpArgs false
set_option linter.unusedVariables false
namespace Go.Proofs.YtcbefaaipggakaaGreatDoor.files
open Go.RowKit Go.Proofs.YtcbefaaipggakaaGreatDoor.lib Go.Proofs.YtcbefaaipggakaaGreatDoor.errs Go.Proofs.YtcbefaaipggakaaGreatDoor.names Go.Proofs.YtcbefaaipggakaaGreatDoor.descs Go.Proofs.YtcbefaaipggakaaGreatDoor.ins Go.Proofs.YtcbefaaipggakaaGreatDoor.flows Go.Proofs.YtcbefaaipggakaaGreatDoor.hdls Go.Proofs.YtcbefaaipggakaaGreatDoor.classes Go.Proofs.YtcbefaaipggakaaGreatDoor.txts Go.Proofs.YtcbefaaipggakaaGreatDoor.nums Go.Proofs.YtcbefaaipggakaaGreatDoor.grow

def bytesAre (E : List Int) : Value → World → Prop := fun v u => Sl u v E.length 1 (E.map (.int .u8))
theorem bytesAre_stays (E : List Int) : ∀ v w w', Below w.heap.size w w' → bytesAre E v w → bytesAre E v w' := fun _ _ _ hb h => Sl.below h hb
def clsAB : CV := ⟨{ data := #[65] }, { data := #[66] }, .slice none 0 0, false, .slice none 0 0, .slice none 0 0, [], [], []⟩
theorem clsAB_ok : clsFault clsAB = 0 := by decide +kernel
theorem clsAB_cb : cb clsAB = [67, 65, 70, 69, 1, 1, 65, 1, 66, 0, 0, 0, 0] := by decide +kernel
theorem clsAB_at (w : World) : CV.At w clsAB :=
  ⟨⟨rfl, none, 0, rfl, Nat.le_refl _, .inl rfl⟩, ⟨rfl, none, 0, rfl, Nat.le_refl _, .inl rfl⟩, ⟨⟨rfl, none, 0, rfl, Nat.le_refl _, .inl rfl⟩, fun m hm => by cases hm⟩⟩
theorem clsAB_small : SmallC clsAB :=
  ⟨by decide, by decide, by decide, (fun x hx => by cases hx), by decide, (fun x hx => by cases hx), by decide, (fun x hx => by cases hx)⟩

set_option maxRecDepth 100000 in
set_option maxHeartbeats 2000000 in
theorem filed_any (w : World) (hf : FormsAt w) (hp : Pow w) : Calls Tryz.prog 4 #[] w fun e w' => e = .returned (.bool true) ∧ Below w.heap.size w w' := by
  have HF := hid hf; have HP := hid hp
  clear hf hp
  go_enter Tryz.func4, Tryz.ntmps4
  go_wp2_with fail
  refine (fencode_any clsAB w (clsAB_at w) HF.out HP.out clsAB_small (fun m hm => by cases hm)).mono ?_
  intro e w2 h2
  unfold FEncBy at h2
  rw [if_pos clsAB_ok, clsAB_cb, show ([67, 65, 70, 69, 1, 1, 65, 1, 66, 0, 0, 0, 0] : List Int).length = 13 from rfl] at h2
  obtain ⟨v2, rfl, ho2⟩ := h2
  have HB2 := hid ho2.below
  have hcs := run_conv_str (P := Tryz.prog) Tryz.underlying30 Tryz.underlying5 Tryz.underlying9 ho2.sl
  rw [show strOfNums [67, 65, 70, 69, 1, 1, 65, 1, 66, 0, 0, 0, 0] = { data := #[67, 65, 70, 69, 1, 1, 65, 1, 66, 0, 0, 0, 0] } from rfl] at hcs
  obtain ⟨a2, c2, hv2⟩ := ho2.sl.val
  subst hv2
  clear ho2
  go_wp2
  go_ret
  exact ⟨rfl, HB2.out⟩

theorem bad_none : ∀ {l : List I}, badIns l = 0 → ∀ x ∈ l, insFault x = 0
  | [], _, x, h => by cases h
  | y :: l, hb, x, h => by
    unfold badIns at hb
    split at hb
    · rename_i h0
      rcases List.mem_cons.1 h with rfl | h
      · exact h0
      · exact bad_none hb x h
    · rename_i h0; exact absurd hb h0
theorem code_right {l : List I} (h : codeErr l = 0) : l.length ≤ 40 ∧ ∀ x ∈ l, insFault x = 0 := by
  unfold codeErr at h
  split at h
  · cases h
  · exact ⟨by omega, bad_none h⟩

set_option maxRecDepth 100000 in
set_option maxHeartbeats 4000000 in
theorem filetells_any (c : CV) (w : World) (hc : c.At w) (hf : FormsAt w) (hp : Pow w) (hsm : SmallC c) (hn : ∀ m ∈ c.mets, ∀ x ∈ m.code, Small x ∧ InR x.a ∧ InR x.b) :
    Calls Tryz.prog 3 #[.agg c.cells.toArray] w fun e w' => e = .returned (.bool true) ∧ Below w.heap.size w w' := by
  have HCL := hid (fun (u : World) (h : Below w.heap.size w u) => rcls_any c u (hc.below h) hsm)
  have HEN := hid (fun (u : World) (h : Below w.heap.size w u) => fencode_any c u (hc.below h) (hf.below h) (hp.below h) hsm hn)
  have HBO := hid (fun (h0 : clsFault c = 0) (u : World) (h : Below w.heap.size w u) => bytesof_any c u (hc.below h) (good_cls h0 hn hsm) (fun m hm => code_right ((good_cls h0 hn hsm).mets m hm).code))
  have HF := hid hf
  have HP := hid hp
  obtain ⟨Z, hZ⟩ : ∃ Z, clsFault c = Z := ⟨_, rfl⟩
  obtain ⟨E, hE⟩ : ∃ E, cb c = E := ⟨_, rfl⟩
  have HZ := hid hZ
  have HE := hid hE
  obtain ⟨nm, sup, vf, face, vd, vm, faces, fields, mets⟩ := c
  have h1 := hc.faces
  have h2 := hc.fields
  have h3 := hc.mets
  simp only [CV.cells] at h1 h2 h3 HCL HEN HBO ⊢
  obtain ⟨af, cf, rfl⟩ := h1.val
  obtain ⟨ad, cd, rfl⟩ := h2.val
  obtain ⟨am, cm, rfl⟩ := h3.sl.val
  clear hc hf hp hsm hn hZ hE h1 h2 h3
  obtain ⟨q, hq⟩ : ∃ q, w.heap.size = q := ⟨_, rfl⟩
  obtain ⟨W0, hW0⟩ : ∃ W0, w.alloc (.cells #[.string nm, .string sup, .slice af faces.length cf, .bool face, .slice ad fields.length cd, .slice am mets.length cm] 26) = W0 := ⟨_, rfl⟩
  have HB0 : Hid (Below w.heap.size w W0 ∧ q < W0.heap.size ∧ W0.heap[q]? = some (.cells #[.string nm, .string sup, .slice af faces.length cf, .bool face, .slice ad fields.length cd, .slice am mets.length cm] 26)) := hid (by
    subst hW0
    exact ⟨ext_alloc _ _, by rw [World.size_alloc]; omega, by rw [← hq]; exact heap_alloc_new _ _⟩)
  go_enter Tryz.func3, Tryz.ntmps3
  go_wp2_with fail
  refine (filed_any _ (HF.out.below HB0.out.1) (HP.out.below HB0.out.1)).mono ?_
  rintro e w1 ⟨rfl, hb1⟩
  have HB1 := hid (HB0.out.1.trans (hb1.mono HB0.out.1.size))
  have HX1 := hid (And.intro ((hb1.block q HB0.out.2.1).trans HB0.out.2.2) (Nat.lt_of_lt_of_le HB0.out.2.1 hb1.size))
  clear hb1 hW0 hq
  go_wp2_with (refine wpList_load_row rfl 26 (.tmp 1) rfl q rfl _ _ _ _ HX1.out.1 Tryz.underlying26 rfl (by kernel_rfl) ?_)
  refine (HCL.out w1 HB1.out).mono ?_
  rintro e w2 ⟨rfl, hb2⟩
  rw [HZ.out]
  have HB2 := hid (HB1.out.trans (hb2.mono HB1.out.size))
  have HX2 := hid (And.intro ((hb2.block q HX1.out.2).trans HX1.out.1) (Nat.lt_of_lt_of_le HX1.out.2 hb2.size))
  clear hb2
  go_wp2_with (refine wpList_load_row rfl 26 (.tmp 1) rfl q rfl _ _ _ _ HX2.out.1 Tryz.underlying26 rfl (by kernel_rfl) ?_)
  refine (HEN.out w2 HB2.out).mono ?_
  intro e w3 h3
  unfold FEncBy at h3
  rw [HZ.out, HE.out] at h3
  by_cases h0 : Z = 0
  · rw [if_pos h0] at h3
    obtain ⟨v3, rfl, ho3⟩ := h3
    have HB3 := hid (HB2.out.trans (ho3.below.mono HB2.out.size))
    have HX3 := hid (And.intro ((ho3.below.block q HX2.out.2).trans HX2.out.1) (Nat.lt_of_lt_of_le HX2.out.2 ho3.below.size))
    have HV0 := hid ho3.sl
    have HBC := hid (HBO.out (HZ.out.trans h0))
    obtain ⟨a3, c3, hv3⟩ := ho3.sl.val
    subst hv3
    clear ho3
    subst h0
    obtain ⟨S, hS⟩ : ∃ S, strOfNums E = S := ⟨_, rfl⟩
    have HST := hid hS
    clear hS
    go_wp2_with fail
    refine (error_ok _).mono ?_
    rintro e w6 ⟨rfl, hww⟩
    subst hww
    have HV := hid (fun (u : World) (hu : Below w3.heap.size w3 u) => HV0.out.below hu)
    have HC := hid (fun (u : World) (hu : Below w3.heap.size w3 u) => HBC.out u (HB3.out.trans (hu.mono HB3.out.size)))
    go_wp2_with fail
    refine wp_region_ext [(8, bytesAre E)] ⟨bytesAre_stays _, trivial⟩ (by kernel_rfl) (by kernel_rfl) ?_
    refine wpG_calc 1 rfl rfl rfl (fun u => by go_simp; rfl) ?_
    simp only [Act.put, List.setIfInBounds_toArray, List.set_cons_zero, List.set_cons_succ]
    refine wpG_calc 2 rfl rfl rfl (fun u => by go_simp; rfl) ?_
    simp only [Act.put, List.setIfInBounds_toArray, List.set_cons_zero, List.set_cons_succ]
    refine wpG_calc 3 rfl rfl rfl (fun u => by go_simp; rfl) ?_
    simp only [Act.put, List.setIfInBounds_toArray, List.set_cons_zero, List.set_cons_succ]
    refine wpG_calc 4 rfl rfl rfl (fun u => by go_simp; rfl) ?_
    simp only [Act.put, List.setIfInBounds_toArray, List.set_cons_zero, List.set_cons_succ]
    refine wpG_calc 5 rfl rfl rfl (fun u => by go_simp; rfl) ?_
    simp only [Act.put, List.setIfInBounds_toArray, List.set_cons_zero, List.set_cons_succ]
    refine wpG_calc 6 rfl rfl rfl (fun u => by go_simp; rfl) ?_
    simp only [Act.put, List.setIfInBounds_toArray, List.set_cons_zero, List.set_cons_succ]
    refine wpG_read 7 rfl rfl (.string S) rfl ?_ ?_
    · intro u hu hh
      have hcs := run_conv_str (P := Tryz.prog) (w := u) Tryz.underlying30 Tryz.underlying5 Tryz.underlying9 (HV.out u hu)
      rw [HST.out] at hcs
      go_simp
    simp only [Act.put, List.setIfInBounds_toArray, List.set_cons_zero, List.set_cons_succ]
    refine wpG_row 8 rfl rfl rfl 26 _ rfl q rfl _ _ _ _ Tryz.underlying26 rfl (by kernel_rfl) (fun u hu => (hu.block _ HX3.out.2).trans HX3.out.1) ?_
    simp only [Act.put, List.setIfInBounds_toArray, List.set_cons_zero, List.set_cons_succ]
    refine wpG_rel 9 rfl rfl rfl ?_ ?_
    · intro u hu hh
      clear hh
      go_simp
      refine (HC.out u hu).mono ?_
      rintro e w9 ⟨v9, rfl, ho9⟩
      rw [HE.out] at ho9
      exact ⟨_, rfl, ho9.sl, ho9.below⟩
    intro v9 ⟨u9, _, hr9⟩
    obtain ⟨a9, c9, hv9⟩ := Sl.val hr9
    clear hr9
    subst hv9
    simp only [Act.put, List.setIfInBounds_toArray, List.set_cons_zero, List.set_cons_succ]
    refine wpG_read 10 rfl rfl (.string S) rfl ?_ ?_
    · intro u hu hh
      have h8 : bytesAre E (.slice a9 E.length c9) u := hh 8 rfl
      have hcs := run_conv_str (P := Tryz.prog) (w := u) Tryz.underlying30 Tryz.underlying5 Tryz.underlying9 (h8)
      rw [HST.out] at hcs
      go_simp
    simp only [Act.put, List.setIfInBounds_toArray, List.set_cons_zero, List.set_cons_succ]
    refine wpG_calc (v := .bool true) 11 rfl rfl rfl (fun u => by go_simp) ?_
    simp only [Act.put, List.setIfInBounds_toArray, List.set_cons_zero, List.set_cons_succ]
    refine wpG_calc 12 rfl rfl rfl (fun u => by go_simp; rfl) ?_
    simp only [Act.put, List.setIfInBounds_toArray, List.set_cons_zero, List.set_cons_succ]
    refine wpG_calc 13 rfl rfl rfl (fun u => by go_simp; rfl) ?_
    simp only [Act.put, List.setIfInBounds_toArray, List.set_cons_zero, List.set_cons_succ]
    refine wpG_nil fun w' hb' hF => ?_
    have HBQ := hid (HB3.out.trans (hb'.mono HB3.out.size))
    clear hF hb'
    go_wp2
    go_ret
    exact ⟨rfl, HBQ.out⟩
  · rw [if_neg h0] at h3
    obtain ⟨rfl, hb3⟩ := h3
    have HB3 := hid (HB2.out.trans (hb3.mono HB2.out.size))
    clear hb3
    have HN0 := hid h0
    have hz1 : (Z == 0) = false := by simpa using h0
    have hz2 : (Z != 0) = true := by simpa using h0
    go_wp2_with fail
    refine (error_some Z Z _ HN0.out).mono ?_
    rintro e w6 ⟨rfl, hww⟩
    obtain rfl := hww.symm
    go_wp2
    go_ret
    exact ⟨by first | rfl | simp, HB3.out⟩
end Go.Proofs.YtcbefaaipggakaaGreatDoor.files
