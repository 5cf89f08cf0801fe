/- file.reader.method: its walk. Conditions as for the reader; and those of code.Cut. -/
import Derived.Test.YtnhhaefoilhlhaaGreatDoorFile8
import Derived.Test.YtnhhaefoilhlhaaGreatDoorCut3
set_option linter.unusedSimpArgs false
set_option linter.unusedVariables false
namespace Go.Proofs.YtnhhaefoilhlhaaGreatDoor.files
open Go.RowKit Go.Proofs.YtnhhaefoilhlhaaGreatDoor.lib Go.Proofs.YtnhhaefoilhlhaaGreatDoor.errs Go.Proofs.YtnhhaefoilhlhaaGreatDoor.names Go.Proofs.YtnhhaefoilhlhaaGreatDoor.descs Go.Proofs.YtnhhaefoilhlhaaGreatDoor.ins Go.Proofs.YtnhhaefoilhlhaaGreatDoor.flows Go.Proofs.YtnhhaefoilhlhaaGreatDoor.hdls Go.Proofs.YtnhhaefoilhlhaaGreatDoor.classes Go.Proofs.YtnhhaefoilhlhaaGreatDoor.txts Go.Proofs.YtnhhaefoilhlhaaGreatDoor.nums Go.Proofs.YtnhhaefoilhlhaaGreatDoor.keep Go.Proofs.YtnhhaefoilhlhaaGreatDoor.grow

theorem and_bits {f : Int} (h0 : 0 ≤ f) (h1 : f ≤ 255) : decide (0 < bits BinOp.and IntKind.i64 f 1) = decide (f % 2 = 1) ∧ decide (0 < bits BinOp.and IntKind.i64 f 2) = decide (f / 2 % 2 = 1) ∧ decide (0 < bits BinOp.and IntKind.i64 f 4) = decide (f / 4 % 2 = 1) := by
  have h : ∀ n : Fin 256, decide (0 < bits BinOp.and IntKind.i64 (n.val : Int) 1) = decide ((n.val : Int) % 2 = 1) ∧ decide (0 < bits BinOp.and IntKind.i64 (n.val : Int) 2) = decide ((n.val : Int) / 2 % 2 = 1) ∧ decide (0 < bits BinOp.and IntKind.i64 (n.val : Int) 4) = decide ((n.val : Int) / 4 % 2 = 1) := by decide +kernel
  have := h ⟨f.toNat, by omega⟩
  simp only at this
  rwa [show ((f.toNat : Nat) : Int) = f by omega] at this
/-- a method that the call has made: its slices are the call's own -/
def MadeM (B : Nat) (m : MV) (v : Value) (u : World) : Prop := ∃ mv : MV, v = .agg mv.cells.toArray ∧ bare mv = m ∧ u.ownsRow B 109 6 mv.vc mv.code.length (cellsOf mv.code) ∧ u.ownsRow B 90 4 mv.vh mv.hs.length (mv.hs.flatMap Hd.cells)

set_option maxRecDepth 100000 in
set_option maxHeartbeats 16000000 in
theorem readm_any {w0 w : World} {p : Nat} {R : List Int} (h : RD w0 p R w) (hv : Vars w0) :
    Calls Tryz.prog 26 #[.pointer (some ⟨p, 0, none⟩)] w (Reads w0 p w (rdM R) fun m v u => MadeM w.heap.size m v u) := by
  have HVA := hid hv
  have hpl := h.lt
  have hbs := h.base
  obtain ⟨bx, hbx⟩ : ∃ bx, w.heap.size = bx := ⟨_, rfl⟩
  obtain ⟨g, hg⟩ : ∃ g, bx + 1 = g := ⟨_, rfl⟩
  have HNE : Hid (bx ≠ p) := hid (by omega)
  have HGP : Hid (g ≠ p ∧ bx ≠ g ∧ w0.heap.size ≤ g) := hid (by omega)
  obtain ⟨W0, hW0⟩ : ∃ W0, (w.alloc (.cells #[.pointer (some ⟨p, 0, none⟩)] 63)).alloc (.cells #[.string { data := #[] }, .string { data := #[] }, .bool false, .bool false, .bool false, .int .i64 0, .slice none 0 0, .slice none 0 0] 59) = W0 := ⟨_, rfl⟩
  obtain ⟨w_s, hws⟩ : ∃ W, W0.drew = W := ⟨_, rfl⟩
  have hsz : (w.alloc (.cells #[.pointer (some ⟨p, 0, none⟩)] 63)).heap.size = g := by rw [World.size_alloc, hbx, hg]
  have HRs : Hid (RD w0 p R w_s) := hid (by subst hws hW0; exact ((h.later (ext_alloc _ _)).later (ext_alloc _ _)).drew)
  have Xs : Hid (w_s.heap[bx]? = some (.cells #[.pointer (some ⟨p, 0, none⟩)] 63)) := hid (by
    subst hws hW0
    exact ((ext_alloc (w.alloc (.cells #[.pointer (some ⟨p, 0, none⟩)] 63)) _).block bx (by rw [hsz]; omega)).trans (by rw [← hbx]; exact heap_alloc_new _ _))
  have Gs : Hid (w_s.heap[g]? = some (.cells #[.string { data := #[] }, .string { data := #[] }, .bool false, .bool false, .bool false, .int .i64 0, .slice none 0 0, .slice none 0 0] 59)) := hid (by subst hws hW0; rw [← hsz]; exact heap_alloc_new _ _)
  have HKs : Hid (Keeps (fun k => k = p) w w_s) := hid (by subst hws hW0; exact (Keeps.alloc _ w _).trans (kp_alloc (Keeps.refl _ _)))
  have HGW : Hid (w.heap.size = bx ∧ w.heap.size + 1 = g) := hid ⟨hbx, by omega⟩
  clear h hv hpl hbs hsz
  go_enter Tryz.func26, Tryz.ntmps26
  go_wp2_with fail
  refine wp_region_c (fun u => u.heap[bx]? = some (.cells #[.pointer (some ⟨p, 0, none⟩)] 63)) (by kernel_rfl) ?_
  show wpAnyC _ _ _ _ _ _ _ _ W0.drew
  rw [hws]
  clear hws hW0 hg hbx
  refine c_take 0 _ _ rfl (by kernel_rfl) (by kernel_rfl) (by kernel_rfl) rfl (fun c a' w' h => ⟨(putC_defers _ _ _).symm.trans h.1, h.2⟩) Xs.out (fun u hu => by
    have q0 := (cell_of_row _ _ 0 _ _ _ hu).trans (show (#[Value.pointer (some ⟨p, 0, none⟩)] : Array Value)[0]? = some (.pointer (some ⟨p, 0, none⟩)) from rfl)
    go_simp; rfl) ?_
  simp only [List.getElem_toArray, List.getElem_cons_zero, List.getElem_cons_succ, Act.put, List.setIfInBounds_toArray, List.set_cons_zero, List.set_cons_succ]
  refine c_take 2 _ _ rfl (by kernel_rfl) (by kernel_rfl) (by kernel_rfl) rfl (fun c a' w' h => ⟨(putC_defers _ _ _).symm.trans h.1, h.2⟩) Xs.out (fun u hu => by
    have q0 := (cell_of_row _ _ 0 _ _ _ hu).trans (show (#[Value.pointer (some ⟨p, 0, none⟩)] : Array Value)[0]? = some (.pointer (some ⟨p, 0, none⟩)) from rfl)
    go_simp; rfl) ?_
  simp only [List.getElem_toArray, List.getElem_cons_zero, List.getElem_cons_succ, Act.put, List.setIfInBounds_toArray, List.set_cons_zero, List.set_cons_succ]
  refine c_two 1 5 _ _ rfl rfl (by kernel_rfl) ?_ ?_
  · go_simp
    refine (rtext_any HRs.out).mono ?_
    intro e w_sc hsc
    cases hp : rdT R with
    | none =>
      obtain ⟨rfl, hk⟩ := reads_no hsc hp
      exact ⟨rfl, reads_none (by unfold rdM; rw [hp]; rfl) (HKs.out.trans hk)⟩
    | some q =>
      obtain ⟨s1, R1⟩ := q
      obtain ⟨v, rfl, rfl, hr, hk⟩ := reads_yes hsc hp
      have HRsc := hid hr
      have HKsc := hid (HKs.out.trans hk)
      have HP1 := hid hp
      have Xsc := hid (kp_row hk Xs.out HNE.out)
      have Gsc := hid (kp_row hk Gs.out HGP.out.1)
      clear hsc hr hk hp
      refine ⟨Xsc.out, ?_⟩
      try simp only [List.getElem_toArray, List.getElem_cons_zero, List.getElem_cons_succ, Act.put, List.setIfInBounds_toArray, List.set_cons_zero, List.set_cons_succ]
      refine c_two 3 5 _ _ rfl rfl (by kernel_rfl) ?_ ?_
      · go_simp
        refine (rtext_any HRsc.out).mono ?_
        intro e w_scc hscc
        cases hp : rdT R1 with
        | none =>
          obtain ⟨rfl, hk⟩ := reads_no hscc hp
          exact ⟨rfl, reads_none (by unfold rdM; rw [HP1.out]; simp [hp]) (HKsc.out.trans hk)⟩
        | some q =>
          obtain ⟨s2, R2⟩ := q
          obtain ⟨v, rfl, rfl, hr, hk⟩ := reads_yes hscc hp
          have HRscc := hid hr
          have HKscc := hid (HKsc.out.trans hk)
          have HP2 := hid hp
          have Xscc := hid (kp_row hk Xsc.out HNE.out)
          have Gscc := hid (kp_row hk Gsc.out HGP.out.1)
          clear hscc hr hk hp
          refine ⟨Xscc.out, ?_⟩
          try simp only [List.getElem_toArray, List.getElem_cons_zero, List.getElem_cons_succ, Act.put, List.setIfInBounds_toArray, List.set_cons_zero, List.set_cons_succ]
          refine c_take 4 _ _ rfl (by kernel_rfl) (by kernel_rfl) (by kernel_rfl) rfl (fun c a' w' h => ⟨(putC_defers _ _ _).symm.trans h.1, h.2⟩) Xscc.out (fun u hu => by
            go_simp; rfl) ?_
          simp only [List.getElem_toArray, List.getElem_cons_zero, List.getElem_cons_succ, Act.put, List.setIfInBounds_toArray, List.set_cons_zero, List.set_cons_succ]
          refine c_only 5 _ rfl (by kernel_rfl) ?_
          obtain ⟨g2, hg2⟩ : ∃ g2, w_scc.heap.size = g2 := ⟨_, rfl⟩
          have HQP : Hid (g2 ≠ p ∧ g ≠ g2 ∧ w.heap.size < g2 ∧ w0.heap.size ≤ g2 ∧ bx ≠ g2) := hid (by
            have h1 := HRscc.out.lt
            have h2 := (Array.getElem?_eq_some_iff.1 Gscc.out).1
            have h4 := HGP.out
            have h5 := HGW.out
            have h6 := (Array.getElem?_eq_some_iff.1 Xscc.out).1
            omega)
          obtain ⟨w_scca, hW⟩ : ∃ W, w_scc.alloc (.cells #[.string { data := #[] }, .string { data := #[] }, .bool false, .bool false, .bool false, .int .i64 0, .slice none 0 0, .slice none 0 0] 59) = W := ⟨_, rfl⟩
          have Xscca : Hid (w_scca.heap[bx]? = some (.cells #[.pointer (some ⟨p, 0, none⟩)] 63)) := hid (by subst hW; exact ((ext_alloc w_scc _).block bx (Array.getElem?_eq_some_iff.1 Xscc.out).1).trans Xscc.out)
          have Gscca : Hid (w_scca.heap[g]? = some (.cells #[.string { data := #[] }, .string { data := #[] }, .bool false, .bool false, .bool false, .int .i64 0, .slice none 0 0, .slice none 0 0] 59)) := hid (by subst hW; exact ((ext_alloc w_scc _).block g (Array.getElem?_eq_some_iff.1 Gscc.out).1).trans Gscc.out)
          have Dscca : Hid (w_scca.heap[g2]? = some (.cells #[.string { data := #[] }, .string { data := #[] }, .bool false, .bool false, .bool false, .int .i64 0, .slice none 0 0, .slice none 0 0] 59)) := hid (by subst hW; rw [← hg2]; exact heap_alloc_new _ _)
          have HRscca : Hid (RD w0 p R2 w_scca) := hid (by subst hW; exact HRscc.out.later (ext_alloc _ _))
          have HKscca : Hid (Keeps (fun k => k = p) w w_scca) := hid (by subst hW; exact HKscc.out.trans (Keeps.alloc _ w_scc _))
          go_simp
          refine ⟨Xscca.out, ?_⟩
          try simp only [List.getElem_toArray, List.getElem_cons_zero, List.getElem_cons_succ, Act.put, List.setIfInBounds_toArray, List.set_cons_zero, List.set_cons_succ]
          clear hW hg2
          refine c_only 6 _ rfl (by kernel_rfl) ?_
          rw [if_pos (by rfl)]
          refine wp_store_row 59 (.tmp 3) (.tmp 12) rfl g2 #[.string s1, .string s2, .bool false, .bool false, .bool false, .int .i64 0, .slice none 0 0, .slice none 0 0] rfl rfl 59 _ Dscca.out (by kernel_rfl) rfl (by simp [Value.oneCell']) ?_
          obtain ⟨W5, hW5⟩ : ∃ W5, w_scca.setRow g2 #[.string s1, .string s2, .bool false, .bool false, .bool false, .int .i64 0, .slice none 0 0, .slice none 0 0] = W5 := ⟨_, rfl⟩
          have KS : Hid (Keeps (fun k => k = g2) w_scca W5) := hid (by subst hW5; exact keeps_rowF w_scca g2 _)
          have D4 : Hid (W5.heap[g2]? = some (.cells #[.string s1, .string s2, .bool false, .bool false, .bool false, .int .i64 0, .slice none 0 0, .slice none 0 0] 59)) := hid (by subst hW5; exact setRow_heap w_scca g2 _ _ _ _ Dscca.out)
          have X4 : Hid (W5.heap[bx]? = some (.cells #[.pointer (some ⟨p, 0, none⟩)] 63)) := hid ((KS.out.block bx (Array.getElem?_eq_some_iff.1 Xscca.out).1 HQP.out.2.2.2.2).trans Xscca.out)
          have G4 : Hid (W5.heap[g]? = some (.cells #[.string { data := #[] }, .string { data := #[] }, .bool false, .bool false, .bool false, .int .i64 0, .slice none 0 0, .slice none 0 0] 59)) := hid ((KS.out.block g (Array.getElem?_eq_some_iff.1 Gscca.out).1 HQP.out.2.1).trans Gscca.out)
          have HR4 : Hid (RD w0 p R2 W5) := hid (HRscca.out.keeps KS.out fun k hk => by subst hk; exact ⟨HQP.out.2.2.2.1, HQP.out.1⟩)
          have HK4 : Hid (Keeps (fun k => k = p) w W5) := hid (HKscca.out.then KS.out fun k hk h => by have h1 := HQP.out.2.2.1; omega)
          rw [hW5]
          clear hW5
          refine ⟨X4.out, ?_⟩
          refine c_end (by kernel_rfl) ?_
          have b0 := (cell_of_row _ _ 0 _ _ _ X4.out).trans (show (#[Value.pointer (some ⟨p, 0, none⟩)] : Array Value)[0]? = some (.pointer (some ⟨p, 0, none⟩)) from rfl)
          go_wp2_with fail
          refine (number_any HR4.out).mono ?_
          intro e w5 h5
          cases hp5 : rdB R2 with
          | none =>
            obtain ⟨rfl, hk5⟩ := reads_no h5 hp5
            exact ⟨rfl, reads_none (by unfold rdM; rw [HP1.out]; simp [HP2.out, hp5]) (HK4.out.trans hk5)⟩
          | some q5 =>
            obtain ⟨f, R3⟩ := q5
            obtain ⟨v5, rfl, rfl, hr5, hk5⟩ := reads_yes h5 hp5
            have HP3 := hid hp5
            have HR5 := hid hr5
            have HK5 := hid (HK4.out.trans hk5)
            have X5 := hid (kp_row hk5 X4.out HNE.out)
            have G5 := hid (kp_row hk5 G4.out HGP.out.1)
            have D5 := hid (kp_row hk5 D4.out HQP.out.1)
            have HF5 : Hid (0 ≤ f ∧ f ≤ 255) := hid (HR4.out.all f (by cases R2 with
              | nil => cases hp5
              | cons z r => cases hp5; exact List.mem_cons_self ..))
            obtain ⟨hf0, hf1⟩ := HF5.out
            clear h5 hr5 hk5 hp5 b0
            have D6 : Hid (∀ x y z, (((w5.setCell ⟨g2, 2, none⟩ x).setCell ⟨g2, 3, none⟩ y).setCell ⟨g2, 4, none⟩ z).heap[g2]? = some (.cells #[.string s1, .string s2, x, y, z, .int .i64 0, .slice none 0 0, .slice none 0 0] 59)) := hid (fun x y z => heap_set (heap_set (heap_set D5.out 2 x) 3 y) 4 z)
            have K6 : Hid (∀ x y z, Keeps (fun k => k = g2) w5 (((w5.setCell ⟨g2, 2, none⟩ x).setCell ⟨g2, 3, none⟩ y).setCell ⟨g2, 4, none⟩ z)) := hid (fun x y z => ((Keeps.set w5 g2 2 x).trans (Keeps.set _ g2 3 y)).trans (Keeps.set _ g2 4 z))
            have X6 : Hid (∀ x y z, (((w5.setCell ⟨g2, 2, none⟩ x).setCell ⟨g2, 3, none⟩ y).setCell ⟨g2, 4, none⟩ z).heap[bx]? = some (.cells #[.pointer (some ⟨p, 0, none⟩)] 63)) := hid (fun x y z => ((K6.out x y z).block bx (Array.getElem?_eq_some_iff.1 X5.out).1 HQP.out.2.2.2.2).trans X5.out)
            have G6 : Hid (∀ x y z, (((w5.setCell ⟨g2, 2, none⟩ x).setCell ⟨g2, 3, none⟩ y).setCell ⟨g2, 4, none⟩ z).heap[g]? = some (.cells #[.string { data := #[] }, .string { data := #[] }, .bool false, .bool false, .bool false, .int .i64 0, .slice none 0 0, .slice none 0 0] 59)) := hid (fun x y z => ((K6.out x y z).block g (Array.getElem?_eq_some_iff.1 G5.out).1 HQP.out.2.1).trans G5.out)
            have HR6 : Hid (∀ x y z, RD w0 p R3 (((w5.setCell ⟨g2, 2, none⟩ x).setCell ⟨g2, 3, none⟩ y).setCell ⟨g2, 4, none⟩ z)) := hid (fun x y z => HR5.out.keeps (K6.out x y z) fun k hk => by subst hk; exact ⟨HQP.out.2.2.2.1, HQP.out.1⟩)
            have HK6 : Hid (∀ x y z, Keeps (fun k => k = p) w (((w5.setCell ⟨g2, 2, none⟩ x).setCell ⟨g2, 3, none⟩ y).setCell ⟨g2, 4, none⟩ z)) := hid (fun x y z => HK5.out.then (K6.out x y z) fun k hk h => by have h1 := HQP.out.2.2.1; omega)
            have c2 : w5.cell? ⟨g2, 2, none⟩ = some (.bool false) := by rw [cell_of_row _ _ _ _ _ _ D5.out]; rfl
            have c2f : w5.frozen? ⟨g2, 2, none⟩ = false := frozen_of_row _ _ _ _ _ D5.out
            have c3 : ∀ x, (w5.setCell ⟨g2, 2, none⟩ x).cell? ⟨g2, 3, none⟩ = some (.bool false) := fun x => by rw [cell_of_row _ _ _ _ _ _ (heap_set D5.out 2 x)]; rfl
            have c3f : ∀ x, (w5.setCell ⟨g2, 2, none⟩ x).frozen? ⟨g2, 3, none⟩ = false := fun x => frozen_of_row _ _ _ _ _ (heap_set D5.out 2 x)
            have c4 : ∀ x y, ((w5.setCell ⟨g2, 2, none⟩ x).setCell ⟨g2, 3, none⟩ y).cell? ⟨g2, 4, none⟩ = some (.bool false) := fun x y => by rw [cell_of_row _ _ _ _ _ _ (heap_set (heap_set D5.out 2 x) 3 y)]; rfl
            have c4f : ∀ x y, ((w5.setCell ⟨g2, 2, none⟩ x).setCell ⟨g2, 3, none⟩ y).frozen? ⟨g2, 4, none⟩ = false := fun x y => frozen_of_row _ _ _ _ _ (heap_set (heap_set D5.out 2 x) 3 y)
            have b1 : ∀ x y z, (((w5.setCell ⟨g2, 2, none⟩ x).setCell ⟨g2, 3, none⟩ y).setCell ⟨g2, 4, none⟩ z).cell? ⟨bx, 0, none⟩ = some (.pointer (some ⟨p, 0, none⟩)) := fun x y z => (cell_of_row _ _ 0 _ _ _ (X6.out x y z)).trans (show (#[Value.pointer (some ⟨p, 0, none⟩)] : Array Value)[0]? = some (.pointer (some ⟨p, 0, none⟩)) from rfl)
            go_wp2_with fail
            have HA := hid (and_bits hf0 hf1)
            rw [HA.out.1, HA.out.2.1, HA.out.2.2]
            obtain ⟨B1, hB1⟩ : ∃ b, decide (f % 2 = 1) = b := ⟨_, rfl⟩
            obtain ⟨B2, hB2⟩ : ∃ b, decide (f / 2 % 2 = 1) = b := ⟨_, rfl⟩
            obtain ⟨B3, hB3⟩ : ∃ b, decide (f / 4 % 2 = 1) = b := ⟨_, rfl⟩
            rw [hB1, hB2, hB3]
            have HBS := hid (And.intro hB1 (And.intro hB2 hB3))
            clear hB1 hB2 hB3 HA
            obtain ⟨W7, hW7⟩ : ∃ W, ((w5.setCell ⟨g2, 2, none⟩ (.bool B1)).setCell ⟨g2, 3, none⟩ (.bool B2)).setCell ⟨g2, 4, none⟩ (.bool B3) = W := ⟨_, rfl⟩
            have D7 := hid (D6.out (.bool B1) (.bool B2) (.bool B3))
            have X7 := hid (X6.out (.bool B1) (.bool B2) (.bool B3))
            have G7 := hid (G6.out (.bool B1) (.bool B2) (.bool B3))
            have HR7 := hid (HR6.out (.bool B1) (.bool B2) (.bool B3))
            have HK7 := hid (HK6.out (.bool B1) (.bool B2) (.bool B3))
            rw [hW7] at D7 X7 G7 HR7 HK7
            rw [hW7]
            clear hW7 D6 X6 G6 HR6 HK6 K6 c2 c2f c3 c3f c4 c4f b1
            refine (number_any HR7.out).mono ?_
            intro e w8 h8
            cases hp8 : rdB R3 with
            | none =>
              obtain ⟨rfl, hk8⟩ := reads_no h8 hp8
              exact ⟨rfl, reads_none (by unfold rdM; rw [HP1.out]; simp [HP2.out, HP3.out, hp8]) (HK7.out.trans hk8)⟩
            | some q8 =>
              obtain ⟨lo, R4⟩ := q8
              obtain ⟨v8, rfl, rfl, hr8, hk8⟩ := reads_yes h8 hp8
              have HP4 := hid hp8
              have HR8 := hid hr8
              have HK8 := hid (HK7.out.trans hk8)
              have X8 := hid (kp_row hk8 X7.out HNE.out)
              have G8 := hid (kp_row hk8 G7.out HGP.out.1)
              have D8 := hid (kp_row hk8 D7.out HQP.out.1)
              clear h8 hr8 hk8 hp8
              have c5 : w8.cell? ⟨g2, 5, none⟩ = some (.int .i64 0) := by rw [cell_of_row _ _ _ _ _ _ D8.out]; rfl
              have c5f : w8.frozen? ⟨g2, 5, none⟩ = false := frozen_of_row _ _ _ _ _ D8.out
              obtain ⟨W9, hW9⟩ : ∃ W, w8.setCell ⟨g2, 5, none⟩ (.int .i64 lo) = W := ⟨_, rfl⟩
              have K9 : Hid (Keeps (fun k => k = g2) w8 W9) := hid (by subst hW9; exact Keeps.set w8 g2 5 _)
              have D9 : Hid (W9.heap[g2]? = some (.cells #[.string s1, .string s2, .bool B1, .bool B2, .bool B3, .int .i64 lo, .slice none 0 0, .slice none 0 0] 59)) := hid (by subst hW9; exact heap_set D8.out 5 _)
              have X9 : Hid (W9.heap[bx]? = some (.cells #[.pointer (some ⟨p, 0, none⟩)] 63)) := hid ((K9.out.block bx (Array.getElem?_eq_some_iff.1 X8.out).1 HQP.out.2.2.2.2).trans X8.out)
              have G9 : Hid (W9.heap[g]? = some (.cells #[.string { data := #[] }, .string { data := #[] }, .bool false, .bool false, .bool false, .int .i64 0, .slice none 0 0, .slice none 0 0] 59)) := hid ((K9.out.block g (Array.getElem?_eq_some_iff.1 G8.out).1 HQP.out.2.1).trans G8.out)
              have HR9 : Hid (RD w0 p R4 W9) := hid (HR8.out.keeps K9.out fun k hk => by subst hk; exact ⟨HQP.out.2.2.2.1, HQP.out.1⟩)
              have HK9 : Hid (Keeps (fun k => k = p) w W9) := hid (HK8.out.then K9.out fun k hk h => by have h1 := HQP.out.2.2.1; omega)
              obtain ⟨vr, hvr, hsr⟩ := HR9.out.row
              obtain ⟨ar, cr, rfl⟩ := hsr.val
              have HSR := hid hsr
              have HPR := hid hvr
              have p0 : W9.cell? ⟨p, 0, none⟩ = some (.slice ar R4.length cr) := by rw [cell_of_row _ _ _ _ _ _ hvr]; rfl
              have b2 := (cell_of_row _ _ 0 _ _ _ X9.out).trans (show (#[Value.pointer (some ⟨p, 0, none⟩)] : Array Value)[0]? = some (.pointer (some ⟨p, 0, none⟩)) from rfl)
              clear hsr hvr
              go_wp2_with fail
              refine (cut_from ar cr R4 w0 W9 HR9.out.below HSR.out HR9.out.all HR9.out.len (HVA.out.below HR9.out.below)).mono ?_
              intro e w10 h10
              clear c5 c5f p0 b2 hW9
              unfold CutFrom at h10
              cases hc : cutB R4 with
              | none =>
                rw [hc] at h10
                obtain ⟨rfl, hb10⟩ := h10
                have HN : Hid (rdM R = none) := hid (by unfold rdM; rw [HP1.out]; simp [HP2.out, HP3.out, HP4.out, hc])
                have HK10 := hid (HK9.out.trans (Keeps.of_below (F := fun k => k = p) hb10))
                clear hb10 hc
                go_wp2
                exact ⟨rfl, reads_none HN.out HK10.out⟩
              | some qc =>
                obtain ⟨l, q⟩ := qc
                rw [hc] at h10
                obtain ⟨v1, v2, rfl, ho, hs2⟩ := h10
                obtain ⟨hce, hcq, _⟩ := cut_right hc HR9.out.all HR9.out.len
                have HPC := hid hc
                have HOC := hid ho
                have HS2 := hid hs2
                have HQA : Hid (∀ z ∈ q, 0 ≤ z ∧ z ≤ 255) := hid (fun z hz => HR9.out.all z (by rw [hcq]; exact List.mem_append_right _ hz))
                have HQL : Hid (q.length ≤ 10000000) := hid (by have := HR9.out.len; rw [hcq, List.length_append] at this; omega)
                have HB10 := hid ho.below
                have X10 := hid ((HB10.out.block bx (Array.getElem?_eq_some_iff.1 X9.out).1).trans X9.out)
                have G10 := hid ((HB10.out.block g (Array.getElem?_eq_some_iff.1 G9.out).1).trans G9.out)
                have D10 := hid ((HB10.out.block g2 (Array.getElem?_eq_some_iff.1 D9.out).1).trans D9.out)
                have P10 := hid ((HB10.out.block p HR9.out.lt).trans HPR.out)
                have HK10 := hid (HK9.out.trans (Keeps.of_below (F := fun k => k = p) HB10.out))
                have HR10 := hid (HR9.out.later HB10.out)
                have HW9S : Hid (∀ j, v1.ownBlock = some j → W9.heap.size ≤ j) := hid (fun j hj => (ho.own.lt j hj).1)
                have HSZ : Hid (g2 < W9.heap.size ∧ p < W9.heap.size ∧ g < W9.heap.size ∧ w.heap.size ≤ W9.heap.size) := hid ⟨(Array.getElem?_eq_some_iff.1 D9.out).1, HR9.out.lt, (Array.getElem?_eq_some_iff.1 G9.out).1, HK9.out.size⟩
                obtain ⟨a1, c1, rfl⟩ := ho.sl.val
                obtain ⟨a2, c2, rfl⟩ := hs2.val
                clear ho hs2 hc hce hcq
                have d6 : w10.cell? ⟨g2, 6, none⟩ = some (.slice none 0 0) := by rw [cell_of_row _ _ _ _ _ _ D10.out]; rfl
                have d6f : w10.frozen? ⟨g2, 6, none⟩ = false := frozen_of_row _ _ _ _ _ D10.out
                obtain ⟨W11, hW11⟩ : ∃ W, w10.drew.setCell ⟨g2, 6, none⟩ (.slice a1 l.length c1) = W := ⟨_, rfl⟩
                have K11 : Hid (Keeps (fun k => k = g2) w10 W11) := hid (by
                  subst hW11
                  have h : Keeps (fun k => k = g2) w10 w10.drew := ⟨rfl, rfl, rfl, Nat.le_refl _, fun _ _ _ => rfl⟩
                  exact h.trans (Keeps.set w10.drew g2 6 _))
                have D11 : Hid (W11.heap[g2]? = some (.cells #[.string s1, .string s2, .bool B1, .bool B2, .bool B3, .int .i64 lo, .slice a1 l.length c1, .slice none 0 0] 59)) := hid (by subst hW11; exact heap_set (w := w10.drew) D10.out 6 _)
                have P11 : Hid (W11.heap[p]? = some (.cells #[.slice ar R4.length cr] 65)) := hid ((K11.out.block p (Array.getElem?_eq_some_iff.1 P10.out).1 (fun e => HQP.out.1 e.symm)).trans P10.out)
                have X11 : Hid (W11.heap[bx]? = some (.cells #[.pointer (some ⟨p, 0, none⟩)] 63)) := hid ((K11.out.block bx (Array.getElem?_eq_some_iff.1 X10.out).1 HQP.out.2.2.2.2).trans X10.out)
                have p1 : W11.cell? ⟨p, 0, none⟩ = some (.slice ar R4.length cr) := by rw [cell_of_row _ _ _ _ _ _ P11.out]; rfl
                have p1f : W11.frozen? ⟨p, 0, none⟩ = false := frozen_of_row _ _ _ _ _ P11.out
                obtain ⟨W12, hW12⟩ : ∃ W, W11.setCell ⟨p, 0, none⟩ (.slice a2 q.length c2) = W := ⟨_, rfl⟩
                have K12 : Hid (Keeps (fun k => k = g2 ∨ k = p) w10 W12) := hid (by subst hW12; exact (K11.out.mono fun _ _ h => .inl h).trans ((Keeps.set W11 p 0 _).mono fun _ _ h => .inr h))
                have D12 : Hid (W12.heap[g2]? = some (.cells #[.string s1, .string s2, .bool B1, .bool B2, .bool B3, .int .i64 lo, .slice a1 l.length c1, .slice none 0 0] 59)) := hid (by subst hW12; exact ((Keeps.set W11 p 0 _).block g2 (Array.getElem?_eq_some_iff.1 D11.out).1 HQP.out.1).trans D11.out)
                have X12 : Hid (W12.heap[bx]? = some (.cells #[.pointer (some ⟨p, 0, none⟩)] 63)) := hid (by subst hW12; exact ((Keeps.set W11 p 0 _).block bx (Array.getElem?_eq_some_iff.1 X11.out).1 HNE.out).trans X11.out)
                have HR12 : Hid (RD w0 p q W12) := hid ⟨⟨_, by subst hW12; exact heap_set P11.out 0 _, HS2.out⟩, Keeps.below HR10.out.below HR10.out.below.size K12.out (fun k hk => by rcases hk with rfl | rfl; exact HQP.out.2.2.2.1; exact HR9.out.base), HR9.out.base, HQA.out, HQL.out⟩
                have HK12 : Hid (Keeps (fun k => k = p) w W12) := hid (HK10.out.then K12.out fun k hk h => by have h1 := HQP.out.2.2.1; omega)
                have G12 : Hid (W12.heap[g]? = some (.cells #[.string { data := #[] }, .string { data := #[] }, .bool false, .bool false, .bool false, .int .i64 0, .slice none 0 0, .slice none 0 0] 59)) := hid ((K12.out.block g (Array.getElem?_eq_some_iff.1 G10.out).1 (by have h1 := HQP.out.2.1; have h2 := HGP.out.1; omega)).trans G10.out)
                have X10d : Hid (w10.drew.heap[bx]? = some (.cells #[.pointer (some ⟨p, 0, none⟩)] 63)) := hid X10.out
                go_wp2_with fail
                refine wp_region_c (fun u => u.heap[bx]? = some (.cells #[.pointer (some ⟨p, 0, none⟩)] 63)) (by kernel_rfl) ?_
                refine c_take 0 _ _ rfl (by kernel_rfl) (by kernel_rfl) (by kernel_rfl) rfl (fun c a' w' h => ⟨(putC_defers _ _ _).symm.trans h.1, h.2⟩) X10d.out (fun u hu => by
                  have q0 := (cell_of_row _ _ 0 _ _ _ hu).trans (show (#[Value.pointer (some ⟨p, 0, none⟩)] : Array Value)[0]? = some (.pointer (some ⟨p, 0, none⟩)) from rfl)
                  go_simp; rfl) ?_
                simp only [List.getElem_toArray, List.getElem_cons_zero, List.getElem_cons_succ, Act.put, List.setIfInBounds_toArray, List.set_cons_zero, List.set_cons_succ]
                refine c_take 1 _ _ rfl (by kernel_rfl) (by kernel_rfl) (by kernel_rfl) rfl (fun c a' w' h => ⟨(putC_defers _ _ _).symm.trans h.1, h.2⟩) X10d.out (fun u hu => by
                  go_simp; rfl) ?_
                simp only [List.getElem_toArray, List.getElem_cons_zero, List.getElem_cons_succ, Act.put, List.setIfInBounds_toArray, List.set_cons_zero, List.set_cons_succ]
                refine c_take 2 _ _ rfl (by kernel_rfl) (by kernel_rfl) (by kernel_rfl) rfl (fun c a' w' h => ⟨(putC_defers _ _ _).symm.trans h.1, h.2⟩) X10d.out (fun u hu => by
                  go_simp; rfl) ?_
                simp only [List.getElem_toArray, List.getElem_cons_zero, List.getElem_cons_succ, Act.put, List.setIfInBounds_toArray, List.set_cons_zero, List.set_cons_succ]
                refine c_take 3 _ _ rfl (by kernel_rfl) (by kernel_rfl) (by kernel_rfl) rfl (fun c a' w' h => ⟨(putC_defers _ _ _).symm.trans h.1, h.2⟩) X10d.out (fun u hu => by
                  go_simp; rfl) ?_
                simp only [List.getElem_toArray, List.getElem_cons_zero, List.getElem_cons_succ, Act.put, List.setIfInBounds_toArray, List.set_cons_zero, List.set_cons_succ]
                refine c_only 4 _ rfl (by kernel_rfl) ?_
                go_simp
                refine ⟨X11.out, ?_⟩
                try simp only [List.getElem_toArray, List.getElem_cons_zero, List.getElem_cons_succ, Act.put, List.setIfInBounds_toArray, List.set_cons_zero, List.set_cons_succ]
                refine c_take 5 _ _ rfl (by kernel_rfl) (by kernel_rfl) (by kernel_rfl) rfl (fun c a' w' h => ⟨(putC_defers _ _ _).symm.trans h.1, h.2⟩) X11.out (fun u hu => by
                  go_simp; rfl) ?_
                simp only [List.getElem_toArray, List.getElem_cons_zero, List.getElem_cons_succ, Act.put, List.setIfInBounds_toArray, List.set_cons_zero, List.set_cons_succ]
                refine c_take 6 _ _ rfl (by kernel_rfl) (by kernel_rfl) (by kernel_rfl) rfl (fun c a' w' h => ⟨(putC_defers _ _ _).symm.trans h.1, h.2⟩) X11.out (fun u hu => by
                  go_simp; rfl) ?_
                simp only [List.getElem_toArray, List.getElem_cons_zero, List.getElem_cons_succ, Act.put, List.setIfInBounds_toArray, List.set_cons_zero, List.set_cons_succ]
                refine c_only 7 _ rfl (by kernel_rfl) ?_
                go_simp
                refine ⟨X12.out, ?_⟩
                refine c_end (by kernel_rfl) ?_
                clear d6 d6f p1 p1f hW11 hW12
                have b3 := (cell_of_row _ _ 0 _ _ _ X12.out).trans (show (#[Value.pointer (some ⟨p, 0, none⟩)] : Array Value)[0]? = some (.pointer (some ⟨p, 0, none⟩)) from rfl)
                go_wp2_with fail
                refine (listH_any HR12.out X12.out HNE.out).mono ?_
                intro e w13 h13
                cases hp13 : rdN rdH q with
                | none =>
                  obtain ⟨rfl, hk13⟩ := reads_no h13 hp13
                  exact ⟨rfl, reads_none (by unfold rdM; rw [HP1.out]; simp [HP2.out, HP3.out, HP4.out, HPC.out, hp13]) (HK12.out.trans hk13)⟩
                | some q13 =>
                  obtain ⟨hs, R6⟩ := q13
                  obtain ⟨vh, rfl, hoh, hr13, hk13⟩ := reads_yes h13 hp13
                  have HF : Hid (rdM R = some (⟨s1, s2, B1, B2, B3, lo, .nilIface, .nilIface, l, hs⟩, R6)) := hid (by
                    unfold rdM; rw [HP1.out]; simp [HP2.out, HP3.out, HP4.out, HPC.out, hp13, HBS.out.1, HBS.out.2.1, HBS.out.2.2])
                  have HR13 := hid hr13
                  have HK13 := hid (HK12.out.trans hk13)
                  have HKI := hid hk13
                  have HOH := hid hoh
                  have G13 := hid (kp_row hk13 G12.out HGP.out.1)
                  have D13 := hid (kp_row hk13 D12.out HQP.out.1)
                  have HS12 : Hid (w10.heap.size ≤ W12.heap.size) := hid K12.out.size
                  obtain ⟨ah, ch, rfl⟩ := (sl_of_owns hoh).val
                  clear h13 hr13 hk13 hp13 hoh b3
                  have e7 : w13.cell? ⟨g2, 7, none⟩ = some (.slice none 0 0) := by rw [cell_of_row _ _ _ _ _ _ D13.out]; rfl
                  have e7f : w13.frozen? ⟨g2, 7, none⟩ = false := frozen_of_row _ _ _ _ _ D13.out
                  obtain ⟨W14, hW14⟩ : ∃ W, w13.setCell ⟨g2, 7, none⟩ (.slice ah hs.length ch) = W := ⟨_, rfl⟩
                  have K14 : Hid (Keeps (fun k => k = g2) w13 W14) := hid (by subst hW14; exact Keeps.set w13 g2 7 _)
                  have D14 : Hid (W14.heap[g2]? = some (.cells #[.string s1, .string s2, .bool B1, .bool B2, .bool B3, .int .i64 lo, .slice a1 l.length c1, .slice ah hs.length ch] 59)) := hid (by subst hW14; exact heap_set D13.out 7 _)
                  have G14 : Hid (W14.heap[g]? = some (.cells #[.string { data := #[] }, .string { data := #[] }, .bool false, .bool false, .bool false, .int .i64 0, .slice none 0 0, .slice none 0 0] 59)) := hid ((K14.out.block g (Array.getElem?_eq_some_iff.1 G13.out).1 HQP.out.2.1).trans G13.out)
                  have HR14 : Hid (RD w0 p R6 W14) := hid (HR13.out.keeps K14.out fun k hk => by subst hk; exact ⟨HQP.out.2.2.2.1, HQP.out.1⟩)
                  have HK14 : Hid (Keeps (fun k => k = p) w W14) := hid (HK13.out.then K14.out fun k hk h => by have h1 := HQP.out.2.2.1; omega)
                  go_wp2_with (first | (refine wpList_load_row rfl 59 (.tmp 3) rfl g2 rfl _ _ _ _ D14.out Tryz.underlying59 rfl (by kernel_rfl) ?_) | (refine wpList_store_row rfl 59 (.tmp 2) (.tmp 52) rfl g #[.string s1, .string s2, .bool B1, .bool B2, .bool B3, .int .i64 lo, .slice a1 l.length c1, .slice ah hs.length ch] rfl rfl 59 _ G14.out (by kernel_rfl) rfl (by simp [Value.oneCell']) ?_))
                  clear e7 e7f hW14
                  have K15 : Hid (Keeps (fun k => k = g) W14 (W14.setRow g #[.string s1, .string s2, .bool B1, .bool B2, .bool B3, .int .i64 lo, .slice a1 l.length c1, .slice ah hs.length ch])) := hid (keeps_rowF W14 g _)
                  have G15 := hid (setRow_heap W14 g _ #[.string s1, .string s2, .bool B1, .bool B2, .bool B3, .int .i64 lo, .slice a1 l.length c1, .slice ah hs.length ch] _ _ G14.out)
                  have HR15 := hid (HR14.out.keeps K15.out fun k hk => by subst hk; exact ⟨HGP.out.2.2, HGP.out.1⟩)
                  have HK15 : Hid (Keeps (fun k => k = p) w (W14.setRow g #[.string s1, .string s2, .bool B1, .bool B2, .bool B3, .int .i64 lo, .slice a1 l.length c1, .slice ah hs.length ch])) := hid (HK14.out.then K15.out fun k hk h => by have := HGW.out.2; omega)
                  have HMM : Hid (MadeM w.heap.size ⟨s1, s2, B1, B2, B3, lo, .nilIface, .nilIface, l, hs⟩ (.agg #[.string s1, .string s2, .bool B1, .bool B2, .bool B3, .int .i64 lo, .slice a1 l.length c1, .slice ah hs.length ch]) (W14.setRow g #[.string s1, .string s2, .bool B1, .bool B2, .bool B3, .int .i64 lo, .slice a1 l.length c1, .slice ah hs.length ch])) := hid (by
                    refine ⟨⟨s1, s2, B1, B2, B3, lo, .slice a1 l.length c1, .slice ah hs.length ch, l, hs⟩, rfl, rfl, ?_, ?_⟩
                    · have h1 := owns_keeps HOC.out.own K12.out (fun j hj e => by have h1 := HW9S.out j hj; have h2 := HSZ.out; omega) HSZ.out.2.2.2
                      have h2 := owns_keeps h1 HKI.out (fun j hj e => by have h1 := HW9S.out j hj; have h2 := HSZ.out; omega) (Nat.le_refl _)
                      have h3 := owns_keeps h2 K14.out (fun j hj e => by have h1 := HW9S.out j hj; have h2 := HSZ.out; omega) (Nat.le_refl _)
                      exact owns_keeps h3 K15.out (fun j hj e => by have h1 := HW9S.out j hj; have h2 := HSZ.out; omega) (Nat.le_refl _)
                    · have hb : ∀ j, (Value.slice ah hs.length ch).ownBlock = some j → W12.heap.size ≤ j := fun j hj => (HOH.out.lt j hj).1
                      have h1 := owns_keeps HOH.out K14.out (fun j hj e => by have h1 := hb j hj; have h2 := HSZ.out; have h3 := HS12.out; have h4 := HB10.out.size; omega) (Nat.le_trans HSZ.out.2.2.2 (Nat.le_trans HB10.out.size HS12.out))
                      exact owns_keeps h1 K15.out (fun j hj e => by have h1 := hb j hj; have h2 := HSZ.out; have h3 := HS12.out; have h4 := HB10.out.size; omega) (Nat.le_refl _))
                  try simp only [Exit.inBlock, Exit.then]
                  refine bodyPost_ret (results_cell_row rfl _ _ g 59 _ (0, 0) _ rfl G15.out Tryz.underlying59 rfl (by kernel_rfl)) rfl ?_
                  exact reads_some HF.out HMM.out HR15.out HK15.out
      · obtain ⟨g2, hg2⟩ : ∃ g2, w_sc.heap.size = g2 := ⟨_, rfl⟩
        have HQP : Hid (g2 ≠ p ∧ g ≠ g2 ∧ w.heap.size < g2 ∧ w0.heap.size ≤ g2 ∧ bx ≠ g2) := hid (by
          have h1 := HRsc.out.lt
          have h2 := (Array.getElem?_eq_some_iff.1 Gsc.out).1
          have h4 := HGP.out
          have h5 := HGW.out
          have h6 := (Array.getElem?_eq_some_iff.1 Xsc.out).1
          omega)
        obtain ⟨w_sca, hW⟩ : ∃ W, w_sc.alloc (.cells #[.string { data := #[] }, .string { data := #[] }, .bool false, .bool false, .bool false, .int .i64 0, .slice none 0 0, .slice none 0 0] 59) = W := ⟨_, rfl⟩
        have Xsca : Hid (w_sca.heap[bx]? = some (.cells #[.pointer (some ⟨p, 0, none⟩)] 63)) := hid (by subst hW; exact ((ext_alloc w_sc _).block bx (Array.getElem?_eq_some_iff.1 Xsc.out).1).trans Xsc.out)
        have Gsca : Hid (w_sca.heap[g]? = some (.cells #[.string { data := #[] }, .string { data := #[] }, .bool false, .bool false, .bool false, .int .i64 0, .slice none 0 0, .slice none 0 0] 59)) := hid (by subst hW; exact ((ext_alloc w_sc _).block g (Array.getElem?_eq_some_iff.1 Gsc.out).1).trans Gsc.out)
        have Dsca : Hid (w_sca.heap[g2]? = some (.cells #[.string { data := #[] }, .string { data := #[] }, .bool false, .bool false, .bool false, .int .i64 0, .slice none 0 0, .slice none 0 0] 59)) := hid (by subst hW; rw [← hg2]; exact heap_alloc_new _ _)
        have HRsca : Hid (RD w0 p R1 w_sca) := hid (by subst hW; exact HRsc.out.later (ext_alloc _ _))
        have HKsca : Hid (Keeps (fun k => k = p) w w_sca) := hid (by subst hW; exact HKsc.out.trans (Keeps.alloc _ w_sc _))
        go_simp
        refine ⟨Xsca.out, ?_⟩
        try simp only [List.getElem_toArray, List.getElem_cons_zero, List.getElem_cons_succ, Act.put, List.setIfInBounds_toArray, List.set_cons_zero, List.set_cons_succ]
        clear hW hg2
        refine c_only 3 _ rfl (by kernel_rfl) ?_
        go_simp
        refine (rtext_any HRsca.out).mono ?_
        intro e w_scac hscac
        cases hp : rdT R1 with
        | none =>
          obtain ⟨rfl, hk⟩ := reads_no hscac hp
          exact ⟨rfl, reads_none (by unfold rdM; rw [HP1.out]; simp [hp]) (HKsca.out.trans hk)⟩
        | some q =>
          obtain ⟨s2, R2⟩ := q
          obtain ⟨v, rfl, rfl, hr, hk⟩ := reads_yes hscac hp
          have HRscac := hid hr
          have HKscac := hid (HKsca.out.trans hk)
          have HP2 := hid hp
          have Xscac := hid (kp_row hk Xsca.out HNE.out)
          have Gscac := hid (kp_row hk Gsca.out HGP.out.1)
          have Dscac := hid (kp_row hk Dsca.out HQP.out.1)
          clear hscac hr hk hp
          refine ⟨Xscac.out, ?_⟩
          try simp only [List.getElem_toArray, List.getElem_cons_zero, List.getElem_cons_succ, Act.put, List.setIfInBounds_toArray, List.set_cons_zero, List.set_cons_succ]
          refine c_take 4 _ _ rfl (by kernel_rfl) (by kernel_rfl) (by kernel_rfl) rfl (fun c a' w' h => ⟨(putC_defers _ _ _).symm.trans h.1, h.2⟩) Xscac.out (fun u hu => by
            go_simp; rfl) ?_
          simp only [List.getElem_toArray, List.getElem_cons_zero, List.getElem_cons_succ, Act.put, List.setIfInBounds_toArray, List.set_cons_zero, List.set_cons_succ]
          refine c_only 6 _ rfl (by kernel_rfl) ?_
          rw [if_pos (by rfl)]
          refine wp_store_row 59 (.tmp 3) (.tmp 12) rfl g2 #[.string s1, .string s2, .bool false, .bool false, .bool false, .int .i64 0, .slice none 0 0, .slice none 0 0] rfl rfl 59 _ Dscac.out (by kernel_rfl) rfl (by simp [Value.oneCell']) ?_
          obtain ⟨W5, hW5⟩ : ∃ W5, w_scac.setRow g2 #[.string s1, .string s2, .bool false, .bool false, .bool false, .int .i64 0, .slice none 0 0, .slice none 0 0] = W5 := ⟨_, rfl⟩
          have KS : Hid (Keeps (fun k => k = g2) w_scac W5) := hid (by subst hW5; exact keeps_rowF w_scac g2 _)
          have D4 : Hid (W5.heap[g2]? = some (.cells #[.string s1, .string s2, .bool false, .bool false, .bool false, .int .i64 0, .slice none 0 0, .slice none 0 0] 59)) := hid (by subst hW5; exact setRow_heap w_scac g2 _ _ _ _ Dscac.out)
          have X4 : Hid (W5.heap[bx]? = some (.cells #[.pointer (some ⟨p, 0, none⟩)] 63)) := hid ((KS.out.block bx (Array.getElem?_eq_some_iff.1 Xscac.out).1 HQP.out.2.2.2.2).trans Xscac.out)
          have G4 : Hid (W5.heap[g]? = some (.cells #[.string { data := #[] }, .string { data := #[] }, .bool false, .bool false, .bool false, .int .i64 0, .slice none 0 0, .slice none 0 0] 59)) := hid ((KS.out.block g (Array.getElem?_eq_some_iff.1 Gscac.out).1 HQP.out.2.1).trans Gscac.out)
          have HR4 : Hid (RD w0 p R2 W5) := hid (HRscac.out.keeps KS.out fun k hk => by subst hk; exact ⟨HQP.out.2.2.2.1, HQP.out.1⟩)
          have HK4 : Hid (Keeps (fun k => k = p) w W5) := hid (HKscac.out.then KS.out fun k hk h => by have h1 := HQP.out.2.2.1; omega)
          rw [hW5]
          clear hW5
          refine ⟨X4.out, ?_⟩
          refine c_end (by kernel_rfl) ?_
          have b0 := (cell_of_row _ _ 0 _ _ _ X4.out).trans (show (#[Value.pointer (some ⟨p, 0, none⟩)] : Array Value)[0]? = some (.pointer (some ⟨p, 0, none⟩)) from rfl)
          go_wp2_with fail
          refine (number_any HR4.out).mono ?_
          intro e w5 h5
          cases hp5 : rdB R2 with
          | none =>
            obtain ⟨rfl, hk5⟩ := reads_no h5 hp5
            exact ⟨rfl, reads_none (by unfold rdM; rw [HP1.out]; simp [HP2.out, hp5]) (HK4.out.trans hk5)⟩
          | some q5 =>
            obtain ⟨f, R3⟩ := q5
            obtain ⟨v5, rfl, rfl, hr5, hk5⟩ := reads_yes h5 hp5
            have HP3 := hid hp5
            have HR5 := hid hr5
            have HK5 := hid (HK4.out.trans hk5)
            have X5 := hid (kp_row hk5 X4.out HNE.out)
            have G5 := hid (kp_row hk5 G4.out HGP.out.1)
            have D5 := hid (kp_row hk5 D4.out HQP.out.1)
            have HF5 : Hid (0 ≤ f ∧ f ≤ 255) := hid (HR4.out.all f (by cases R2 with
              | nil => cases hp5
              | cons z r => cases hp5; exact List.mem_cons_self ..))
            obtain ⟨hf0, hf1⟩ := HF5.out
            clear h5 hr5 hk5 hp5 b0
            have D6 : Hid (∀ x y z, (((w5.setCell ⟨g2, 2, none⟩ x).setCell ⟨g2, 3, none⟩ y).setCell ⟨g2, 4, none⟩ z).heap[g2]? = some (.cells #[.string s1, .string s2, x, y, z, .int .i64 0, .slice none 0 0, .slice none 0 0] 59)) := hid (fun x y z => heap_set (heap_set (heap_set D5.out 2 x) 3 y) 4 z)
            have K6 : Hid (∀ x y z, Keeps (fun k => k = g2) w5 (((w5.setCell ⟨g2, 2, none⟩ x).setCell ⟨g2, 3, none⟩ y).setCell ⟨g2, 4, none⟩ z)) := hid (fun x y z => ((Keeps.set w5 g2 2 x).trans (Keeps.set _ g2 3 y)).trans (Keeps.set _ g2 4 z))
            have X6 : Hid (∀ x y z, (((w5.setCell ⟨g2, 2, none⟩ x).setCell ⟨g2, 3, none⟩ y).setCell ⟨g2, 4, none⟩ z).heap[bx]? = some (.cells #[.pointer (some ⟨p, 0, none⟩)] 63)) := hid (fun x y z => ((K6.out x y z).block bx (Array.getElem?_eq_some_iff.1 X5.out).1 HQP.out.2.2.2.2).trans X5.out)
            have G6 : Hid (∀ x y z, (((w5.setCell ⟨g2, 2, none⟩ x).setCell ⟨g2, 3, none⟩ y).setCell ⟨g2, 4, none⟩ z).heap[g]? = some (.cells #[.string { data := #[] }, .string { data := #[] }, .bool false, .bool false, .bool false, .int .i64 0, .slice none 0 0, .slice none 0 0] 59)) := hid (fun x y z => ((K6.out x y z).block g (Array.getElem?_eq_some_iff.1 G5.out).1 HQP.out.2.1).trans G5.out)
            have HR6 : Hid (∀ x y z, RD w0 p R3 (((w5.setCell ⟨g2, 2, none⟩ x).setCell ⟨g2, 3, none⟩ y).setCell ⟨g2, 4, none⟩ z)) := hid (fun x y z => HR5.out.keeps (K6.out x y z) fun k hk => by subst hk; exact ⟨HQP.out.2.2.2.1, HQP.out.1⟩)
            have HK6 : Hid (∀ x y z, Keeps (fun k => k = p) w (((w5.setCell ⟨g2, 2, none⟩ x).setCell ⟨g2, 3, none⟩ y).setCell ⟨g2, 4, none⟩ z)) := hid (fun x y z => HK5.out.then (K6.out x y z) fun k hk h => by have h1 := HQP.out.2.2.1; omega)
            have c2 : w5.cell? ⟨g2, 2, none⟩ = some (.bool false) := by rw [cell_of_row _ _ _ _ _ _ D5.out]; rfl
            have c2f : w5.frozen? ⟨g2, 2, none⟩ = false := frozen_of_row _ _ _ _ _ D5.out
            have c3 : ∀ x, (w5.setCell ⟨g2, 2, none⟩ x).cell? ⟨g2, 3, none⟩ = some (.bool false) := fun x => by rw [cell_of_row _ _ _ _ _ _ (heap_set D5.out 2 x)]; rfl
            have c3f : ∀ x, (w5.setCell ⟨g2, 2, none⟩ x).frozen? ⟨g2, 3, none⟩ = false := fun x => frozen_of_row _ _ _ _ _ (heap_set D5.out 2 x)
            have c4 : ∀ x y, ((w5.setCell ⟨g2, 2, none⟩ x).setCell ⟨g2, 3, none⟩ y).cell? ⟨g2, 4, none⟩ = some (.bool false) := fun x y => by rw [cell_of_row _ _ _ _ _ _ (heap_set (heap_set D5.out 2 x) 3 y)]; rfl
            have c4f : ∀ x y, ((w5.setCell ⟨g2, 2, none⟩ x).setCell ⟨g2, 3, none⟩ y).frozen? ⟨g2, 4, none⟩ = false := fun x y => frozen_of_row _ _ _ _ _ (heap_set (heap_set D5.out 2 x) 3 y)
            have b1 : ∀ x y z, (((w5.setCell ⟨g2, 2, none⟩ x).setCell ⟨g2, 3, none⟩ y).setCell ⟨g2, 4, none⟩ z).cell? ⟨bx, 0, none⟩ = some (.pointer (some ⟨p, 0, none⟩)) := fun x y z => (cell_of_row _ _ 0 _ _ _ (X6.out x y z)).trans (show (#[Value.pointer (some ⟨p, 0, none⟩)] : Array Value)[0]? = some (.pointer (some ⟨p, 0, none⟩)) from rfl)
            go_wp2_with fail
            have HA := hid (and_bits hf0 hf1)
            rw [HA.out.1, HA.out.2.1, HA.out.2.2]
            obtain ⟨B1, hB1⟩ : ∃ b, decide (f % 2 = 1) = b := ⟨_, rfl⟩
            obtain ⟨B2, hB2⟩ : ∃ b, decide (f / 2 % 2 = 1) = b := ⟨_, rfl⟩
            obtain ⟨B3, hB3⟩ : ∃ b, decide (f / 4 % 2 = 1) = b := ⟨_, rfl⟩
            rw [hB1, hB2, hB3]
            have HBS := hid (And.intro hB1 (And.intro hB2 hB3))
            clear hB1 hB2 hB3 HA
            obtain ⟨W7, hW7⟩ : ∃ W, ((w5.setCell ⟨g2, 2, none⟩ (.bool B1)).setCell ⟨g2, 3, none⟩ (.bool B2)).setCell ⟨g2, 4, none⟩ (.bool B3) = W := ⟨_, rfl⟩
            have D7 := hid (D6.out (.bool B1) (.bool B2) (.bool B3))
            have X7 := hid (X6.out (.bool B1) (.bool B2) (.bool B3))
            have G7 := hid (G6.out (.bool B1) (.bool B2) (.bool B3))
            have HR7 := hid (HR6.out (.bool B1) (.bool B2) (.bool B3))
            have HK7 := hid (HK6.out (.bool B1) (.bool B2) (.bool B3))
            rw [hW7] at D7 X7 G7 HR7 HK7
            rw [hW7]
            clear hW7 D6 X6 G6 HR6 HK6 K6 c2 c2f c3 c3f c4 c4f b1
            refine (number_any HR7.out).mono ?_
            intro e w8 h8
            cases hp8 : rdB R3 with
            | none =>
              obtain ⟨rfl, hk8⟩ := reads_no h8 hp8
              exact ⟨rfl, reads_none (by unfold rdM; rw [HP1.out]; simp [HP2.out, HP3.out, hp8]) (HK7.out.trans hk8)⟩
            | some q8 =>
              obtain ⟨lo, R4⟩ := q8
              obtain ⟨v8, rfl, rfl, hr8, hk8⟩ := reads_yes h8 hp8
              have HP4 := hid hp8
              have HR8 := hid hr8
              have HK8 := hid (HK7.out.trans hk8)
              have X8 := hid (kp_row hk8 X7.out HNE.out)
              have G8 := hid (kp_row hk8 G7.out HGP.out.1)
              have D8 := hid (kp_row hk8 D7.out HQP.out.1)
              clear h8 hr8 hk8 hp8
              have c5 : w8.cell? ⟨g2, 5, none⟩ = some (.int .i64 0) := by rw [cell_of_row _ _ _ _ _ _ D8.out]; rfl
              have c5f : w8.frozen? ⟨g2, 5, none⟩ = false := frozen_of_row _ _ _ _ _ D8.out
              obtain ⟨W9, hW9⟩ : ∃ W, w8.setCell ⟨g2, 5, none⟩ (.int .i64 lo) = W := ⟨_, rfl⟩
              have K9 : Hid (Keeps (fun k => k = g2) w8 W9) := hid (by subst hW9; exact Keeps.set w8 g2 5 _)
              have D9 : Hid (W9.heap[g2]? = some (.cells #[.string s1, .string s2, .bool B1, .bool B2, .bool B3, .int .i64 lo, .slice none 0 0, .slice none 0 0] 59)) := hid (by subst hW9; exact heap_set D8.out 5 _)
              have X9 : Hid (W9.heap[bx]? = some (.cells #[.pointer (some ⟨p, 0, none⟩)] 63)) := hid ((K9.out.block bx (Array.getElem?_eq_some_iff.1 X8.out).1 HQP.out.2.2.2.2).trans X8.out)
              have G9 : Hid (W9.heap[g]? = some (.cells #[.string { data := #[] }, .string { data := #[] }, .bool false, .bool false, .bool false, .int .i64 0, .slice none 0 0, .slice none 0 0] 59)) := hid ((K9.out.block g (Array.getElem?_eq_some_iff.1 G8.out).1 HQP.out.2.1).trans G8.out)
              have HR9 : Hid (RD w0 p R4 W9) := hid (HR8.out.keeps K9.out fun k hk => by subst hk; exact ⟨HQP.out.2.2.2.1, HQP.out.1⟩)
              have HK9 : Hid (Keeps (fun k => k = p) w W9) := hid (HK8.out.then K9.out fun k hk h => by have h1 := HQP.out.2.2.1; omega)
              obtain ⟨vr, hvr, hsr⟩ := HR9.out.row
              obtain ⟨ar, cr, rfl⟩ := hsr.val
              have HSR := hid hsr
              have HPR := hid hvr
              have p0 : W9.cell? ⟨p, 0, none⟩ = some (.slice ar R4.length cr) := by rw [cell_of_row _ _ _ _ _ _ hvr]; rfl
              have b2 := (cell_of_row _ _ 0 _ _ _ X9.out).trans (show (#[Value.pointer (some ⟨p, 0, none⟩)] : Array Value)[0]? = some (.pointer (some ⟨p, 0, none⟩)) from rfl)
              clear hsr hvr
              go_wp2_with fail
              refine (cut_from ar cr R4 w0 W9 HR9.out.below HSR.out HR9.out.all HR9.out.len (HVA.out.below HR9.out.below)).mono ?_
              intro e w10 h10
              clear c5 c5f p0 b2 hW9
              unfold CutFrom at h10
              cases hc : cutB R4 with
              | none =>
                rw [hc] at h10
                obtain ⟨rfl, hb10⟩ := h10
                have HN : Hid (rdM R = none) := hid (by unfold rdM; rw [HP1.out]; simp [HP2.out, HP3.out, HP4.out, hc])
                have HK10 := hid (HK9.out.trans (Keeps.of_below (F := fun k => k = p) hb10))
                clear hb10 hc
                go_wp2
                exact ⟨rfl, reads_none HN.out HK10.out⟩
              | some qc =>
                obtain ⟨l, q⟩ := qc
                rw [hc] at h10
                obtain ⟨v1, v2, rfl, ho, hs2⟩ := h10
                obtain ⟨hce, hcq, _⟩ := cut_right hc HR9.out.all HR9.out.len
                have HPC := hid hc
                have HOC := hid ho
                have HS2 := hid hs2
                have HQA : Hid (∀ z ∈ q, 0 ≤ z ∧ z ≤ 255) := hid (fun z hz => HR9.out.all z (by rw [hcq]; exact List.mem_append_right _ hz))
                have HQL : Hid (q.length ≤ 10000000) := hid (by have := HR9.out.len; rw [hcq, List.length_append] at this; omega)
                have HB10 := hid ho.below
                have X10 := hid ((HB10.out.block bx (Array.getElem?_eq_some_iff.1 X9.out).1).trans X9.out)
                have G10 := hid ((HB10.out.block g (Array.getElem?_eq_some_iff.1 G9.out).1).trans G9.out)
                have D10 := hid ((HB10.out.block g2 (Array.getElem?_eq_some_iff.1 D9.out).1).trans D9.out)
                have P10 := hid ((HB10.out.block p HR9.out.lt).trans HPR.out)
                have HK10 := hid (HK9.out.trans (Keeps.of_below (F := fun k => k = p) HB10.out))
                have HR10 := hid (HR9.out.later HB10.out)
                have HW9S : Hid (∀ j, v1.ownBlock = some j → W9.heap.size ≤ j) := hid (fun j hj => (ho.own.lt j hj).1)
                have HSZ : Hid (g2 < W9.heap.size ∧ p < W9.heap.size ∧ g < W9.heap.size ∧ w.heap.size ≤ W9.heap.size) := hid ⟨(Array.getElem?_eq_some_iff.1 D9.out).1, HR9.out.lt, (Array.getElem?_eq_some_iff.1 G9.out).1, HK9.out.size⟩
                obtain ⟨a1, c1, rfl⟩ := ho.sl.val
                obtain ⟨a2, c2, rfl⟩ := hs2.val
                clear ho hs2 hc hce hcq
                have d6 : w10.cell? ⟨g2, 6, none⟩ = some (.slice none 0 0) := by rw [cell_of_row _ _ _ _ _ _ D10.out]; rfl
                have d6f : w10.frozen? ⟨g2, 6, none⟩ = false := frozen_of_row _ _ _ _ _ D10.out
                obtain ⟨W11, hW11⟩ : ∃ W, w10.drew.setCell ⟨g2, 6, none⟩ (.slice a1 l.length c1) = W := ⟨_, rfl⟩
                have K11 : Hid (Keeps (fun k => k = g2) w10 W11) := hid (by
                  subst hW11
                  have h : Keeps (fun k => k = g2) w10 w10.drew := ⟨rfl, rfl, rfl, Nat.le_refl _, fun _ _ _ => rfl⟩
                  exact h.trans (Keeps.set w10.drew g2 6 _))
                have D11 : Hid (W11.heap[g2]? = some (.cells #[.string s1, .string s2, .bool B1, .bool B2, .bool B3, .int .i64 lo, .slice a1 l.length c1, .slice none 0 0] 59)) := hid (by subst hW11; exact heap_set (w := w10.drew) D10.out 6 _)
                have P11 : Hid (W11.heap[p]? = some (.cells #[.slice ar R4.length cr] 65)) := hid ((K11.out.block p (Array.getElem?_eq_some_iff.1 P10.out).1 (fun e => HQP.out.1 e.symm)).trans P10.out)
                have X11 : Hid (W11.heap[bx]? = some (.cells #[.pointer (some ⟨p, 0, none⟩)] 63)) := hid ((K11.out.block bx (Array.getElem?_eq_some_iff.1 X10.out).1 HQP.out.2.2.2.2).trans X10.out)
                have p1 : W11.cell? ⟨p, 0, none⟩ = some (.slice ar R4.length cr) := by rw [cell_of_row _ _ _ _ _ _ P11.out]; rfl
                have p1f : W11.frozen? ⟨p, 0, none⟩ = false := frozen_of_row _ _ _ _ _ P11.out
                obtain ⟨W12, hW12⟩ : ∃ W, W11.setCell ⟨p, 0, none⟩ (.slice a2 q.length c2) = W := ⟨_, rfl⟩
                have K12 : Hid (Keeps (fun k => k = g2 ∨ k = p) w10 W12) := hid (by subst hW12; exact (K11.out.mono fun _ _ h => .inl h).trans ((Keeps.set W11 p 0 _).mono fun _ _ h => .inr h))
                have D12 : Hid (W12.heap[g2]? = some (.cells #[.string s1, .string s2, .bool B1, .bool B2, .bool B3, .int .i64 lo, .slice a1 l.length c1, .slice none 0 0] 59)) := hid (by subst hW12; exact ((Keeps.set W11 p 0 _).block g2 (Array.getElem?_eq_some_iff.1 D11.out).1 HQP.out.1).trans D11.out)
                have X12 : Hid (W12.heap[bx]? = some (.cells #[.pointer (some ⟨p, 0, none⟩)] 63)) := hid (by subst hW12; exact ((Keeps.set W11 p 0 _).block bx (Array.getElem?_eq_some_iff.1 X11.out).1 HNE.out).trans X11.out)
                have HR12 : Hid (RD w0 p q W12) := hid ⟨⟨_, by subst hW12; exact heap_set P11.out 0 _, HS2.out⟩, Keeps.below HR10.out.below HR10.out.below.size K12.out (fun k hk => by rcases hk with rfl | rfl; exact HQP.out.2.2.2.1; exact HR9.out.base), HR9.out.base, HQA.out, HQL.out⟩
                have HK12 : Hid (Keeps (fun k => k = p) w W12) := hid (HK10.out.then K12.out fun k hk h => by have h1 := HQP.out.2.2.1; omega)
                have G12 : Hid (W12.heap[g]? = some (.cells #[.string { data := #[] }, .string { data := #[] }, .bool false, .bool false, .bool false, .int .i64 0, .slice none 0 0, .slice none 0 0] 59)) := hid ((K12.out.block g (Array.getElem?_eq_some_iff.1 G10.out).1 (by have h1 := HQP.out.2.1; have h2 := HGP.out.1; omega)).trans G10.out)
                have X10d : Hid (w10.drew.heap[bx]? = some (.cells #[.pointer (some ⟨p, 0, none⟩)] 63)) := hid X10.out
                go_wp2_with fail
                refine wp_region_c (fun u => u.heap[bx]? = some (.cells #[.pointer (some ⟨p, 0, none⟩)] 63)) (by kernel_rfl) ?_
                refine c_take 0 _ _ rfl (by kernel_rfl) (by kernel_rfl) (by kernel_rfl) rfl (fun c a' w' h => ⟨(putC_defers _ _ _).symm.trans h.1, h.2⟩) X10d.out (fun u hu => by
                  have q0 := (cell_of_row _ _ 0 _ _ _ hu).trans (show (#[Value.pointer (some ⟨p, 0, none⟩)] : Array Value)[0]? = some (.pointer (some ⟨p, 0, none⟩)) from rfl)
                  go_simp; rfl) ?_
                simp only [List.getElem_toArray, List.getElem_cons_zero, List.getElem_cons_succ, Act.put, List.setIfInBounds_toArray, List.set_cons_zero, List.set_cons_succ]
                refine c_take 1 _ _ rfl (by kernel_rfl) (by kernel_rfl) (by kernel_rfl) rfl (fun c a' w' h => ⟨(putC_defers _ _ _).symm.trans h.1, h.2⟩) X10d.out (fun u hu => by
                  go_simp; rfl) ?_
                simp only [List.getElem_toArray, List.getElem_cons_zero, List.getElem_cons_succ, Act.put, List.setIfInBounds_toArray, List.set_cons_zero, List.set_cons_succ]
                refine c_take 2 _ _ rfl (by kernel_rfl) (by kernel_rfl) (by kernel_rfl) rfl (fun c a' w' h => ⟨(putC_defers _ _ _).symm.trans h.1, h.2⟩) X10d.out (fun u hu => by
                  go_simp; rfl) ?_
                simp only [List.getElem_toArray, List.getElem_cons_zero, List.getElem_cons_succ, Act.put, List.setIfInBounds_toArray, List.set_cons_zero, List.set_cons_succ]
                refine c_take 3 _ _ rfl (by kernel_rfl) (by kernel_rfl) (by kernel_rfl) rfl (fun c a' w' h => ⟨(putC_defers _ _ _).symm.trans h.1, h.2⟩) X10d.out (fun u hu => by
                  go_simp; rfl) ?_
                simp only [List.getElem_toArray, List.getElem_cons_zero, List.getElem_cons_succ, Act.put, List.setIfInBounds_toArray, List.set_cons_zero, List.set_cons_succ]
                refine c_only 4 _ rfl (by kernel_rfl) ?_
                go_simp
                refine ⟨X11.out, ?_⟩
                try simp only [List.getElem_toArray, List.getElem_cons_zero, List.getElem_cons_succ, Act.put, List.setIfInBounds_toArray, List.set_cons_zero, List.set_cons_succ]
                refine c_take 5 _ _ rfl (by kernel_rfl) (by kernel_rfl) (by kernel_rfl) rfl (fun c a' w' h => ⟨(putC_defers _ _ _).symm.trans h.1, h.2⟩) X11.out (fun u hu => by
                  go_simp; rfl) ?_
                simp only [List.getElem_toArray, List.getElem_cons_zero, List.getElem_cons_succ, Act.put, List.setIfInBounds_toArray, List.set_cons_zero, List.set_cons_succ]
                refine c_take 6 _ _ rfl (by kernel_rfl) (by kernel_rfl) (by kernel_rfl) rfl (fun c a' w' h => ⟨(putC_defers _ _ _).symm.trans h.1, h.2⟩) X11.out (fun u hu => by
                  go_simp; rfl) ?_
                simp only [List.getElem_toArray, List.getElem_cons_zero, List.getElem_cons_succ, Act.put, List.setIfInBounds_toArray, List.set_cons_zero, List.set_cons_succ]
                refine c_only 7 _ rfl (by kernel_rfl) ?_
                go_simp
                refine ⟨X12.out, ?_⟩
                refine c_end (by kernel_rfl) ?_
                clear d6 d6f p1 p1f hW11 hW12
                have b3 := (cell_of_row _ _ 0 _ _ _ X12.out).trans (show (#[Value.pointer (some ⟨p, 0, none⟩)] : Array Value)[0]? = some (.pointer (some ⟨p, 0, none⟩)) from rfl)
                go_wp2_with fail
                refine (listH_any HR12.out X12.out HNE.out).mono ?_
                intro e w13 h13
                cases hp13 : rdN rdH q with
                | none =>
                  obtain ⟨rfl, hk13⟩ := reads_no h13 hp13
                  exact ⟨rfl, reads_none (by unfold rdM; rw [HP1.out]; simp [HP2.out, HP3.out, HP4.out, HPC.out, hp13]) (HK12.out.trans hk13)⟩
                | some q13 =>
                  obtain ⟨hs, R6⟩ := q13
                  obtain ⟨vh, rfl, hoh, hr13, hk13⟩ := reads_yes h13 hp13
                  have HF : Hid (rdM R = some (⟨s1, s2, B1, B2, B3, lo, .nilIface, .nilIface, l, hs⟩, R6)) := hid (by
                    unfold rdM; rw [HP1.out]; simp [HP2.out, HP3.out, HP4.out, HPC.out, hp13, HBS.out.1, HBS.out.2.1, HBS.out.2.2])
                  have HR13 := hid hr13
                  have HK13 := hid (HK12.out.trans hk13)
                  have HKI := hid hk13
                  have HOH := hid hoh
                  have G13 := hid (kp_row hk13 G12.out HGP.out.1)
                  have D13 := hid (kp_row hk13 D12.out HQP.out.1)
                  have HS12 : Hid (w10.heap.size ≤ W12.heap.size) := hid K12.out.size
                  obtain ⟨ah, ch, rfl⟩ := (sl_of_owns hoh).val
                  clear h13 hr13 hk13 hp13 hoh b3
                  have e7 : w13.cell? ⟨g2, 7, none⟩ = some (.slice none 0 0) := by rw [cell_of_row _ _ _ _ _ _ D13.out]; rfl
                  have e7f : w13.frozen? ⟨g2, 7, none⟩ = false := frozen_of_row _ _ _ _ _ D13.out
                  obtain ⟨W14, hW14⟩ : ∃ W, w13.setCell ⟨g2, 7, none⟩ (.slice ah hs.length ch) = W := ⟨_, rfl⟩
                  have K14 : Hid (Keeps (fun k => k = g2) w13 W14) := hid (by subst hW14; exact Keeps.set w13 g2 7 _)
                  have D14 : Hid (W14.heap[g2]? = some (.cells #[.string s1, .string s2, .bool B1, .bool B2, .bool B3, .int .i64 lo, .slice a1 l.length c1, .slice ah hs.length ch] 59)) := hid (by subst hW14; exact heap_set D13.out 7 _)
                  have G14 : Hid (W14.heap[g]? = some (.cells #[.string { data := #[] }, .string { data := #[] }, .bool false, .bool false, .bool false, .int .i64 0, .slice none 0 0, .slice none 0 0] 59)) := hid ((K14.out.block g (Array.getElem?_eq_some_iff.1 G13.out).1 HQP.out.2.1).trans G13.out)
                  have HR14 : Hid (RD w0 p R6 W14) := hid (HR13.out.keeps K14.out fun k hk => by subst hk; exact ⟨HQP.out.2.2.2.1, HQP.out.1⟩)
                  have HK14 : Hid (Keeps (fun k => k = p) w W14) := hid (HK13.out.then K14.out fun k hk h => by have h1 := HQP.out.2.2.1; omega)
                  go_wp2_with (first | (refine wpList_load_row rfl 59 (.tmp 3) rfl g2 rfl _ _ _ _ D14.out Tryz.underlying59 rfl (by kernel_rfl) ?_) | (refine wpList_store_row rfl 59 (.tmp 2) (.tmp 52) rfl g #[.string s1, .string s2, .bool B1, .bool B2, .bool B3, .int .i64 lo, .slice a1 l.length c1, .slice ah hs.length ch] rfl rfl 59 _ G14.out (by kernel_rfl) rfl (by simp [Value.oneCell']) ?_))
                  clear e7 e7f hW14
                  have K15 : Hid (Keeps (fun k => k = g) W14 (W14.setRow g #[.string s1, .string s2, .bool B1, .bool B2, .bool B3, .int .i64 lo, .slice a1 l.length c1, .slice ah hs.length ch])) := hid (keeps_rowF W14 g _)
                  have G15 := hid (setRow_heap W14 g _ #[.string s1, .string s2, .bool B1, .bool B2, .bool B3, .int .i64 lo, .slice a1 l.length c1, .slice ah hs.length ch] _ _ G14.out)
                  have HR15 := hid (HR14.out.keeps K15.out fun k hk => by subst hk; exact ⟨HGP.out.2.2, HGP.out.1⟩)
                  have HK15 : Hid (Keeps (fun k => k = p) w (W14.setRow g #[.string s1, .string s2, .bool B1, .bool B2, .bool B3, .int .i64 lo, .slice a1 l.length c1, .slice ah hs.length ch])) := hid (HK14.out.then K15.out fun k hk h => by have := HGW.out.2; omega)
                  have HMM : Hid (MadeM w.heap.size ⟨s1, s2, B1, B2, B3, lo, .nilIface, .nilIface, l, hs⟩ (.agg #[.string s1, .string s2, .bool B1, .bool B2, .bool B3, .int .i64 lo, .slice a1 l.length c1, .slice ah hs.length ch]) (W14.setRow g #[.string s1, .string s2, .bool B1, .bool B2, .bool B3, .int .i64 lo, .slice a1 l.length c1, .slice ah hs.length ch])) := hid (by
                    refine ⟨⟨s1, s2, B1, B2, B3, lo, .slice a1 l.length c1, .slice ah hs.length ch, l, hs⟩, rfl, rfl, ?_, ?_⟩
                    · have h1 := owns_keeps HOC.out.own K12.out (fun j hj e => by have h1 := HW9S.out j hj; have h2 := HSZ.out; omega) HSZ.out.2.2.2
                      have h2 := owns_keeps h1 HKI.out (fun j hj e => by have h1 := HW9S.out j hj; have h2 := HSZ.out; omega) (Nat.le_refl _)
                      have h3 := owns_keeps h2 K14.out (fun j hj e => by have h1 := HW9S.out j hj; have h2 := HSZ.out; omega) (Nat.le_refl _)
                      exact owns_keeps h3 K15.out (fun j hj e => by have h1 := HW9S.out j hj; have h2 := HSZ.out; omega) (Nat.le_refl _)
                    · have hb : ∀ j, (Value.slice ah hs.length ch).ownBlock = some j → W12.heap.size ≤ j := fun j hj => (HOH.out.lt j hj).1
                      have h1 := owns_keeps HOH.out K14.out (fun j hj e => by have h1 := hb j hj; have h2 := HSZ.out; have h3 := HS12.out; have h4 := HB10.out.size; omega) (Nat.le_trans HSZ.out.2.2.2 (Nat.le_trans HB10.out.size HS12.out))
                      exact owns_keeps h1 K15.out (fun j hj e => by have h1 := hb j hj; have h2 := HSZ.out; have h3 := HS12.out; have h4 := HB10.out.size; omega) (Nat.le_refl _))
                  try simp only [Exit.inBlock, Exit.then]
                  refine bodyPost_ret (results_cell_row rfl _ _ g 59 _ (0, 0) _ rfl G15.out Tryz.underlying59 rfl (by kernel_rfl)) rfl ?_
                  exact reads_some HF.out HMM.out HR15.out HK15.out
  · obtain ⟨g2, hg2⟩ : ∃ g2, w_s.heap.size = g2 := ⟨_, rfl⟩
    have HQP : Hid (g2 ≠ p ∧ g ≠ g2 ∧ w.heap.size < g2 ∧ w0.heap.size ≤ g2 ∧ bx ≠ g2) := hid (by
      have h1 := HRs.out.lt
      have h2 := (Array.getElem?_eq_some_iff.1 Gs.out).1
      have h4 := HGP.out
      have h5 := HGW.out
      have h6 := (Array.getElem?_eq_some_iff.1 Xs.out).1
      omega)
    obtain ⟨w_sa, hW⟩ : ∃ W, w_s.alloc (.cells #[.string { data := #[] }, .string { data := #[] }, .bool false, .bool false, .bool false, .int .i64 0, .slice none 0 0, .slice none 0 0] 59) = W := ⟨_, rfl⟩
    have Xsa : Hid (w_sa.heap[bx]? = some (.cells #[.pointer (some ⟨p, 0, none⟩)] 63)) := hid (by subst hW; exact ((ext_alloc w_s _).block bx (Array.getElem?_eq_some_iff.1 Xs.out).1).trans Xs.out)
    have Gsa : Hid (w_sa.heap[g]? = some (.cells #[.string { data := #[] }, .string { data := #[] }, .bool false, .bool false, .bool false, .int .i64 0, .slice none 0 0, .slice none 0 0] 59)) := hid (by subst hW; exact ((ext_alloc w_s _).block g (Array.getElem?_eq_some_iff.1 Gs.out).1).trans Gs.out)
    have Dsa : Hid (w_sa.heap[g2]? = some (.cells #[.string { data := #[] }, .string { data := #[] }, .bool false, .bool false, .bool false, .int .i64 0, .slice none 0 0, .slice none 0 0] 59)) := hid (by subst hW; rw [← hg2]; exact heap_alloc_new _ _)
    have HRsa : Hid (RD w0 p R w_sa) := hid (by subst hW; exact HRs.out.later (ext_alloc _ _))
    have HKsa : Hid (Keeps (fun k => k = p) w w_sa) := hid (by subst hW; exact HKs.out.trans (Keeps.alloc _ w_s _))
    go_simp
    refine ⟨Xsa.out, ?_⟩
    try simp only [List.getElem_toArray, List.getElem_cons_zero, List.getElem_cons_succ, Act.put, List.setIfInBounds_toArray, List.set_cons_zero, List.set_cons_succ]
    clear hW hg2
    refine c_only 1 _ rfl (by kernel_rfl) ?_
    go_simp
    refine (rtext_any HRsa.out).mono ?_
    intro e w_sac hsac
    cases hp : rdT R with
    | none =>
      obtain ⟨rfl, hk⟩ := reads_no hsac hp
      exact ⟨rfl, reads_none (by unfold rdM; rw [hp]; rfl) (HKsa.out.trans hk)⟩
    | some q =>
      obtain ⟨s1, R1⟩ := q
      obtain ⟨v, rfl, rfl, hr, hk⟩ := reads_yes hsac hp
      have HRsac := hid hr
      have HKsac := hid (HKsa.out.trans hk)
      have HP1 := hid hp
      have Xsac := hid (kp_row hk Xsa.out HNE.out)
      have Gsac := hid (kp_row hk Gsa.out HGP.out.1)
      have Dsac := hid (kp_row hk Dsa.out HQP.out.1)
      clear hsac hr hk hp
      refine ⟨Xsac.out, ?_⟩
      try simp only [List.getElem_toArray, List.getElem_cons_zero, List.getElem_cons_succ, Act.put, List.setIfInBounds_toArray, List.set_cons_zero, List.set_cons_succ]
      refine c_only 3 _ rfl (by kernel_rfl) ?_
      go_simp
      refine (rtext_any HRsac.out).mono ?_
      intro e w_sacc hsacc
      cases hp : rdT R1 with
      | none =>
        obtain ⟨rfl, hk⟩ := reads_no hsacc hp
        exact ⟨rfl, reads_none (by unfold rdM; rw [HP1.out]; simp [hp]) (HKsac.out.trans hk)⟩
      | some q =>
        obtain ⟨s2, R2⟩ := q
        obtain ⟨v, rfl, rfl, hr, hk⟩ := reads_yes hsacc hp
        have HRsacc := hid hr
        have HKsacc := hid (HKsac.out.trans hk)
        have HP2 := hid hp
        have Xsacc := hid (kp_row hk Xsac.out HNE.out)
        have Gsacc := hid (kp_row hk Gsac.out HGP.out.1)
        have Dsacc := hid (kp_row hk Dsac.out HQP.out.1)
        clear hsacc hr hk hp
        refine ⟨Xsacc.out, ?_⟩
        try simp only [List.getElem_toArray, List.getElem_cons_zero, List.getElem_cons_succ, Act.put, List.setIfInBounds_toArray, List.set_cons_zero, List.set_cons_succ]
        refine c_take 4 _ _ rfl (by kernel_rfl) (by kernel_rfl) (by kernel_rfl) rfl (fun c a' w' h => ⟨(putC_defers _ _ _).symm.trans h.1, h.2⟩) Xsacc.out (fun u hu => by
          go_simp; rfl) ?_
        simp only [List.getElem_toArray, List.getElem_cons_zero, List.getElem_cons_succ, Act.put, List.setIfInBounds_toArray, List.set_cons_zero, List.set_cons_succ]
        refine c_only 6 _ rfl (by kernel_rfl) ?_
        rw [if_pos (by rfl)]
        refine wp_store_row 59 (.tmp 3) (.tmp 12) rfl g2 #[.string s1, .string s2, .bool false, .bool false, .bool false, .int .i64 0, .slice none 0 0, .slice none 0 0] rfl rfl 59 _ Dsacc.out (by kernel_rfl) rfl (by simp [Value.oneCell']) ?_
        obtain ⟨W5, hW5⟩ : ∃ W5, w_sacc.setRow g2 #[.string s1, .string s2, .bool false, .bool false, .bool false, .int .i64 0, .slice none 0 0, .slice none 0 0] = W5 := ⟨_, rfl⟩
        have KS : Hid (Keeps (fun k => k = g2) w_sacc W5) := hid (by subst hW5; exact keeps_rowF w_sacc g2 _)
        have D4 : Hid (W5.heap[g2]? = some (.cells #[.string s1, .string s2, .bool false, .bool false, .bool false, .int .i64 0, .slice none 0 0, .slice none 0 0] 59)) := hid (by subst hW5; exact setRow_heap w_sacc g2 _ _ _ _ Dsacc.out)
        have X4 : Hid (W5.heap[bx]? = some (.cells #[.pointer (some ⟨p, 0, none⟩)] 63)) := hid ((KS.out.block bx (Array.getElem?_eq_some_iff.1 Xsacc.out).1 HQP.out.2.2.2.2).trans Xsacc.out)
        have G4 : Hid (W5.heap[g]? = some (.cells #[.string { data := #[] }, .string { data := #[] }, .bool false, .bool false, .bool false, .int .i64 0, .slice none 0 0, .slice none 0 0] 59)) := hid ((KS.out.block g (Array.getElem?_eq_some_iff.1 Gsacc.out).1 HQP.out.2.1).trans Gsacc.out)
        have HR4 : Hid (RD w0 p R2 W5) := hid (HRsacc.out.keeps KS.out fun k hk => by subst hk; exact ⟨HQP.out.2.2.2.1, HQP.out.1⟩)
        have HK4 : Hid (Keeps (fun k => k = p) w W5) := hid (HKsacc.out.then KS.out fun k hk h => by have h1 := HQP.out.2.2.1; omega)
        rw [hW5]
        clear hW5
        refine ⟨X4.out, ?_⟩
        refine c_end (by kernel_rfl) ?_
        have b0 := (cell_of_row _ _ 0 _ _ _ X4.out).trans (show (#[Value.pointer (some ⟨p, 0, none⟩)] : Array Value)[0]? = some (.pointer (some ⟨p, 0, none⟩)) from rfl)
        go_wp2_with fail
        refine (number_any HR4.out).mono ?_
        intro e w5 h5
        cases hp5 : rdB R2 with
        | none =>
          obtain ⟨rfl, hk5⟩ := reads_no h5 hp5
          exact ⟨rfl, reads_none (by unfold rdM; rw [HP1.out]; simp [HP2.out, hp5]) (HK4.out.trans hk5)⟩
        | some q5 =>
          obtain ⟨f, R3⟩ := q5
          obtain ⟨v5, rfl, rfl, hr5, hk5⟩ := reads_yes h5 hp5
          have HP3 := hid hp5
          have HR5 := hid hr5
          have HK5 := hid (HK4.out.trans hk5)
          have X5 := hid (kp_row hk5 X4.out HNE.out)
          have G5 := hid (kp_row hk5 G4.out HGP.out.1)
          have D5 := hid (kp_row hk5 D4.out HQP.out.1)
          have HF5 : Hid (0 ≤ f ∧ f ≤ 255) := hid (HR4.out.all f (by cases R2 with
            | nil => cases hp5
            | cons z r => cases hp5; exact List.mem_cons_self ..))
          obtain ⟨hf0, hf1⟩ := HF5.out
          clear h5 hr5 hk5 hp5 b0
          have D6 : Hid (∀ x y z, (((w5.setCell ⟨g2, 2, none⟩ x).setCell ⟨g2, 3, none⟩ y).setCell ⟨g2, 4, none⟩ z).heap[g2]? = some (.cells #[.string s1, .string s2, x, y, z, .int .i64 0, .slice none 0 0, .slice none 0 0] 59)) := hid (fun x y z => heap_set (heap_set (heap_set D5.out 2 x) 3 y) 4 z)
          have K6 : Hid (∀ x y z, Keeps (fun k => k = g2) w5 (((w5.setCell ⟨g2, 2, none⟩ x).setCell ⟨g2, 3, none⟩ y).setCell ⟨g2, 4, none⟩ z)) := hid (fun x y z => ((Keeps.set w5 g2 2 x).trans (Keeps.set _ g2 3 y)).trans (Keeps.set _ g2 4 z))
          have X6 : Hid (∀ x y z, (((w5.setCell ⟨g2, 2, none⟩ x).setCell ⟨g2, 3, none⟩ y).setCell ⟨g2, 4, none⟩ z).heap[bx]? = some (.cells #[.pointer (some ⟨p, 0, none⟩)] 63)) := hid (fun x y z => ((K6.out x y z).block bx (Array.getElem?_eq_some_iff.1 X5.out).1 HQP.out.2.2.2.2).trans X5.out)
          have G6 : Hid (∀ x y z, (((w5.setCell ⟨g2, 2, none⟩ x).setCell ⟨g2, 3, none⟩ y).setCell ⟨g2, 4, none⟩ z).heap[g]? = some (.cells #[.string { data := #[] }, .string { data := #[] }, .bool false, .bool false, .bool false, .int .i64 0, .slice none 0 0, .slice none 0 0] 59)) := hid (fun x y z => ((K6.out x y z).block g (Array.getElem?_eq_some_iff.1 G5.out).1 HQP.out.2.1).trans G5.out)
          have HR6 : Hid (∀ x y z, RD w0 p R3 (((w5.setCell ⟨g2, 2, none⟩ x).setCell ⟨g2, 3, none⟩ y).setCell ⟨g2, 4, none⟩ z)) := hid (fun x y z => HR5.out.keeps (K6.out x y z) fun k hk => by subst hk; exact ⟨HQP.out.2.2.2.1, HQP.out.1⟩)
          have HK6 : Hid (∀ x y z, Keeps (fun k => k = p) w (((w5.setCell ⟨g2, 2, none⟩ x).setCell ⟨g2, 3, none⟩ y).setCell ⟨g2, 4, none⟩ z)) := hid (fun x y z => HK5.out.then (K6.out x y z) fun k hk h => by have h1 := HQP.out.2.2.1; omega)
          have c2 : w5.cell? ⟨g2, 2, none⟩ = some (.bool false) := by rw [cell_of_row _ _ _ _ _ _ D5.out]; rfl
          have c2f : w5.frozen? ⟨g2, 2, none⟩ = false := frozen_of_row _ _ _ _ _ D5.out
          have c3 : ∀ x, (w5.setCell ⟨g2, 2, none⟩ x).cell? ⟨g2, 3, none⟩ = some (.bool false) := fun x => by rw [cell_of_row _ _ _ _ _ _ (heap_set D5.out 2 x)]; rfl
          have c3f : ∀ x, (w5.setCell ⟨g2, 2, none⟩ x).frozen? ⟨g2, 3, none⟩ = false := fun x => frozen_of_row _ _ _ _ _ (heap_set D5.out 2 x)
          have c4 : ∀ x y, ((w5.setCell ⟨g2, 2, none⟩ x).setCell ⟨g2, 3, none⟩ y).cell? ⟨g2, 4, none⟩ = some (.bool false) := fun x y => by rw [cell_of_row _ _ _ _ _ _ (heap_set (heap_set D5.out 2 x) 3 y)]; rfl
          have c4f : ∀ x y, ((w5.setCell ⟨g2, 2, none⟩ x).setCell ⟨g2, 3, none⟩ y).frozen? ⟨g2, 4, none⟩ = false := fun x y => frozen_of_row _ _ _ _ _ (heap_set (heap_set D5.out 2 x) 3 y)
          have b1 : ∀ x y z, (((w5.setCell ⟨g2, 2, none⟩ x).setCell ⟨g2, 3, none⟩ y).setCell ⟨g2, 4, none⟩ z).cell? ⟨bx, 0, none⟩ = some (.pointer (some ⟨p, 0, none⟩)) := fun x y z => (cell_of_row _ _ 0 _ _ _ (X6.out x y z)).trans (show (#[Value.pointer (some ⟨p, 0, none⟩)] : Array Value)[0]? = some (.pointer (some ⟨p, 0, none⟩)) from rfl)
          go_wp2_with fail
          have HA := hid (and_bits hf0 hf1)
          rw [HA.out.1, HA.out.2.1, HA.out.2.2]
          obtain ⟨B1, hB1⟩ : ∃ b, decide (f % 2 = 1) = b := ⟨_, rfl⟩
          obtain ⟨B2, hB2⟩ : ∃ b, decide (f / 2 % 2 = 1) = b := ⟨_, rfl⟩
          obtain ⟨B3, hB3⟩ : ∃ b, decide (f / 4 % 2 = 1) = b := ⟨_, rfl⟩
          rw [hB1, hB2, hB3]
          have HBS := hid (And.intro hB1 (And.intro hB2 hB3))
          clear hB1 hB2 hB3 HA
          obtain ⟨W7, hW7⟩ : ∃ W, ((w5.setCell ⟨g2, 2, none⟩ (.bool B1)).setCell ⟨g2, 3, none⟩ (.bool B2)).setCell ⟨g2, 4, none⟩ (.bool B3) = W := ⟨_, rfl⟩
          have D7 := hid (D6.out (.bool B1) (.bool B2) (.bool B3))
          have X7 := hid (X6.out (.bool B1) (.bool B2) (.bool B3))
          have G7 := hid (G6.out (.bool B1) (.bool B2) (.bool B3))
          have HR7 := hid (HR6.out (.bool B1) (.bool B2) (.bool B3))
          have HK7 := hid (HK6.out (.bool B1) (.bool B2) (.bool B3))
          rw [hW7] at D7 X7 G7 HR7 HK7
          rw [hW7]
          clear hW7 D6 X6 G6 HR6 HK6 K6 c2 c2f c3 c3f c4 c4f b1
          refine (number_any HR7.out).mono ?_
          intro e w8 h8
          cases hp8 : rdB R3 with
          | none =>
            obtain ⟨rfl, hk8⟩ := reads_no h8 hp8
            exact ⟨rfl, reads_none (by unfold rdM; rw [HP1.out]; simp [HP2.out, HP3.out, hp8]) (HK7.out.trans hk8)⟩
          | some q8 =>
            obtain ⟨lo, R4⟩ := q8
            obtain ⟨v8, rfl, rfl, hr8, hk8⟩ := reads_yes h8 hp8
            have HP4 := hid hp8
            have HR8 := hid hr8
            have HK8 := hid (HK7.out.trans hk8)
            have X8 := hid (kp_row hk8 X7.out HNE.out)
            have G8 := hid (kp_row hk8 G7.out HGP.out.1)
            have D8 := hid (kp_row hk8 D7.out HQP.out.1)
            clear h8 hr8 hk8 hp8
            have c5 : w8.cell? ⟨g2, 5, none⟩ = some (.int .i64 0) := by rw [cell_of_row _ _ _ _ _ _ D8.out]; rfl
            have c5f : w8.frozen? ⟨g2, 5, none⟩ = false := frozen_of_row _ _ _ _ _ D8.out
            obtain ⟨W9, hW9⟩ : ∃ W, w8.setCell ⟨g2, 5, none⟩ (.int .i64 lo) = W := ⟨_, rfl⟩
            have K9 : Hid (Keeps (fun k => k = g2) w8 W9) := hid (by subst hW9; exact Keeps.set w8 g2 5 _)
            have D9 : Hid (W9.heap[g2]? = some (.cells #[.string s1, .string s2, .bool B1, .bool B2, .bool B3, .int .i64 lo, .slice none 0 0, .slice none 0 0] 59)) := hid (by subst hW9; exact heap_set D8.out 5 _)
            have X9 : Hid (W9.heap[bx]? = some (.cells #[.pointer (some ⟨p, 0, none⟩)] 63)) := hid ((K9.out.block bx (Array.getElem?_eq_some_iff.1 X8.out).1 HQP.out.2.2.2.2).trans X8.out)
            have G9 : Hid (W9.heap[g]? = some (.cells #[.string { data := #[] }, .string { data := #[] }, .bool false, .bool false, .bool false, .int .i64 0, .slice none 0 0, .slice none 0 0] 59)) := hid ((K9.out.block g (Array.getElem?_eq_some_iff.1 G8.out).1 HQP.out.2.1).trans G8.out)
            have HR9 : Hid (RD w0 p R4 W9) := hid (HR8.out.keeps K9.out fun k hk => by subst hk; exact ⟨HQP.out.2.2.2.1, HQP.out.1⟩)
            have HK9 : Hid (Keeps (fun k => k = p) w W9) := hid (HK8.out.then K9.out fun k hk h => by have h1 := HQP.out.2.2.1; omega)
            obtain ⟨vr, hvr, hsr⟩ := HR9.out.row
            obtain ⟨ar, cr, rfl⟩ := hsr.val
            have HSR := hid hsr
            have HPR := hid hvr
            have p0 : W9.cell? ⟨p, 0, none⟩ = some (.slice ar R4.length cr) := by rw [cell_of_row _ _ _ _ _ _ hvr]; rfl
            have b2 := (cell_of_row _ _ 0 _ _ _ X9.out).trans (show (#[Value.pointer (some ⟨p, 0, none⟩)] : Array Value)[0]? = some (.pointer (some ⟨p, 0, none⟩)) from rfl)
            clear hsr hvr
            go_wp2_with fail
            refine (cut_from ar cr R4 w0 W9 HR9.out.below HSR.out HR9.out.all HR9.out.len (HVA.out.below HR9.out.below)).mono ?_
            intro e w10 h10
            clear c5 c5f p0 b2 hW9
            unfold CutFrom at h10
            cases hc : cutB R4 with
            | none =>
              rw [hc] at h10
              obtain ⟨rfl, hb10⟩ := h10
              have HN : Hid (rdM R = none) := hid (by unfold rdM; rw [HP1.out]; simp [HP2.out, HP3.out, HP4.out, hc])
              have HK10 := hid (HK9.out.trans (Keeps.of_below (F := fun k => k = p) hb10))
              clear hb10 hc
              go_wp2
              exact ⟨rfl, reads_none HN.out HK10.out⟩
            | some qc =>
              obtain ⟨l, q⟩ := qc
              rw [hc] at h10
              obtain ⟨v1, v2, rfl, ho, hs2⟩ := h10
              obtain ⟨hce, hcq, _⟩ := cut_right hc HR9.out.all HR9.out.len
              have HPC := hid hc
              have HOC := hid ho
              have HS2 := hid hs2
              have HQA : Hid (∀ z ∈ q, 0 ≤ z ∧ z ≤ 255) := hid (fun z hz => HR9.out.all z (by rw [hcq]; exact List.mem_append_right _ hz))
              have HQL : Hid (q.length ≤ 10000000) := hid (by have := HR9.out.len; rw [hcq, List.length_append] at this; omega)
              have HB10 := hid ho.below
              have X10 := hid ((HB10.out.block bx (Array.getElem?_eq_some_iff.1 X9.out).1).trans X9.out)
              have G10 := hid ((HB10.out.block g (Array.getElem?_eq_some_iff.1 G9.out).1).trans G9.out)
              have D10 := hid ((HB10.out.block g2 (Array.getElem?_eq_some_iff.1 D9.out).1).trans D9.out)
              have P10 := hid ((HB10.out.block p HR9.out.lt).trans HPR.out)
              have HK10 := hid (HK9.out.trans (Keeps.of_below (F := fun k => k = p) HB10.out))
              have HR10 := hid (HR9.out.later HB10.out)
              have HW9S : Hid (∀ j, v1.ownBlock = some j → W9.heap.size ≤ j) := hid (fun j hj => (ho.own.lt j hj).1)
              have HSZ : Hid (g2 < W9.heap.size ∧ p < W9.heap.size ∧ g < W9.heap.size ∧ w.heap.size ≤ W9.heap.size) := hid ⟨(Array.getElem?_eq_some_iff.1 D9.out).1, HR9.out.lt, (Array.getElem?_eq_some_iff.1 G9.out).1, HK9.out.size⟩
              obtain ⟨a1, c1, rfl⟩ := ho.sl.val
              obtain ⟨a2, c2, rfl⟩ := hs2.val
              clear ho hs2 hc hce hcq
              have d6 : w10.cell? ⟨g2, 6, none⟩ = some (.slice none 0 0) := by rw [cell_of_row _ _ _ _ _ _ D10.out]; rfl
              have d6f : w10.frozen? ⟨g2, 6, none⟩ = false := frozen_of_row _ _ _ _ _ D10.out
              obtain ⟨W11, hW11⟩ : ∃ W, w10.drew.setCell ⟨g2, 6, none⟩ (.slice a1 l.length c1) = W := ⟨_, rfl⟩
              have K11 : Hid (Keeps (fun k => k = g2) w10 W11) := hid (by
                subst hW11
                have h : Keeps (fun k => k = g2) w10 w10.drew := ⟨rfl, rfl, rfl, Nat.le_refl _, fun _ _ _ => rfl⟩
                exact h.trans (Keeps.set w10.drew g2 6 _))
              have D11 : Hid (W11.heap[g2]? = some (.cells #[.string s1, .string s2, .bool B1, .bool B2, .bool B3, .int .i64 lo, .slice a1 l.length c1, .slice none 0 0] 59)) := hid (by subst hW11; exact heap_set (w := w10.drew) D10.out 6 _)
              have P11 : Hid (W11.heap[p]? = some (.cells #[.slice ar R4.length cr] 65)) := hid ((K11.out.block p (Array.getElem?_eq_some_iff.1 P10.out).1 (fun e => HQP.out.1 e.symm)).trans P10.out)
              have X11 : Hid (W11.heap[bx]? = some (.cells #[.pointer (some ⟨p, 0, none⟩)] 63)) := hid ((K11.out.block bx (Array.getElem?_eq_some_iff.1 X10.out).1 HQP.out.2.2.2.2).trans X10.out)
              have p1 : W11.cell? ⟨p, 0, none⟩ = some (.slice ar R4.length cr) := by rw [cell_of_row _ _ _ _ _ _ P11.out]; rfl
              have p1f : W11.frozen? ⟨p, 0, none⟩ = false := frozen_of_row _ _ _ _ _ P11.out
              obtain ⟨W12, hW12⟩ : ∃ W, W11.setCell ⟨p, 0, none⟩ (.slice a2 q.length c2) = W := ⟨_, rfl⟩
              have K12 : Hid (Keeps (fun k => k = g2 ∨ k = p) w10 W12) := hid (by subst hW12; exact (K11.out.mono fun _ _ h => .inl h).trans ((Keeps.set W11 p 0 _).mono fun _ _ h => .inr h))
              have D12 : Hid (W12.heap[g2]? = some (.cells #[.string s1, .string s2, .bool B1, .bool B2, .bool B3, .int .i64 lo, .slice a1 l.length c1, .slice none 0 0] 59)) := hid (by subst hW12; exact ((Keeps.set W11 p 0 _).block g2 (Array.getElem?_eq_some_iff.1 D11.out).1 HQP.out.1).trans D11.out)
              have X12 : Hid (W12.heap[bx]? = some (.cells #[.pointer (some ⟨p, 0, none⟩)] 63)) := hid (by subst hW12; exact ((Keeps.set W11 p 0 _).block bx (Array.getElem?_eq_some_iff.1 X11.out).1 HNE.out).trans X11.out)
              have HR12 : Hid (RD w0 p q W12) := hid ⟨⟨_, by subst hW12; exact heap_set P11.out 0 _, HS2.out⟩, Keeps.below HR10.out.below HR10.out.below.size K12.out (fun k hk => by rcases hk with rfl | rfl; exact HQP.out.2.2.2.1; exact HR9.out.base), HR9.out.base, HQA.out, HQL.out⟩
              have HK12 : Hid (Keeps (fun k => k = p) w W12) := hid (HK10.out.then K12.out fun k hk h => by have h1 := HQP.out.2.2.1; omega)
              have G12 : Hid (W12.heap[g]? = some (.cells #[.string { data := #[] }, .string { data := #[] }, .bool false, .bool false, .bool false, .int .i64 0, .slice none 0 0, .slice none 0 0] 59)) := hid ((K12.out.block g (Array.getElem?_eq_some_iff.1 G10.out).1 (by have h1 := HQP.out.2.1; have h2 := HGP.out.1; omega)).trans G10.out)
              have X10d : Hid (w10.drew.heap[bx]? = some (.cells #[.pointer (some ⟨p, 0, none⟩)] 63)) := hid X10.out
              go_wp2_with fail
              refine wp_region_c (fun u => u.heap[bx]? = some (.cells #[.pointer (some ⟨p, 0, none⟩)] 63)) (by kernel_rfl) ?_
              refine c_take 0 _ _ rfl (by kernel_rfl) (by kernel_rfl) (by kernel_rfl) rfl (fun c a' w' h => ⟨(putC_defers _ _ _).symm.trans h.1, h.2⟩) X10d.out (fun u hu => by
                have q0 := (cell_of_row _ _ 0 _ _ _ hu).trans (show (#[Value.pointer (some ⟨p, 0, none⟩)] : Array Value)[0]? = some (.pointer (some ⟨p, 0, none⟩)) from rfl)
                go_simp; rfl) ?_
              simp only [List.getElem_toArray, List.getElem_cons_zero, List.getElem_cons_succ, Act.put, List.setIfInBounds_toArray, List.set_cons_zero, List.set_cons_succ]
              refine c_take 1 _ _ rfl (by kernel_rfl) (by kernel_rfl) (by kernel_rfl) rfl (fun c a' w' h => ⟨(putC_defers _ _ _).symm.trans h.1, h.2⟩) X10d.out (fun u hu => by
                go_simp; rfl) ?_
              simp only [List.getElem_toArray, List.getElem_cons_zero, List.getElem_cons_succ, Act.put, List.setIfInBounds_toArray, List.set_cons_zero, List.set_cons_succ]
              refine c_take 2 _ _ rfl (by kernel_rfl) (by kernel_rfl) (by kernel_rfl) rfl (fun c a' w' h => ⟨(putC_defers _ _ _).symm.trans h.1, h.2⟩) X10d.out (fun u hu => by
                go_simp; rfl) ?_
              simp only [List.getElem_toArray, List.getElem_cons_zero, List.getElem_cons_succ, Act.put, List.setIfInBounds_toArray, List.set_cons_zero, List.set_cons_succ]
              refine c_take 3 _ _ rfl (by kernel_rfl) (by kernel_rfl) (by kernel_rfl) rfl (fun c a' w' h => ⟨(putC_defers _ _ _).symm.trans h.1, h.2⟩) X10d.out (fun u hu => by
                go_simp; rfl) ?_
              simp only [List.getElem_toArray, List.getElem_cons_zero, List.getElem_cons_succ, Act.put, List.setIfInBounds_toArray, List.set_cons_zero, List.set_cons_succ]
              refine c_only 4 _ rfl (by kernel_rfl) ?_
              go_simp
              refine ⟨X11.out, ?_⟩
              try simp only [List.getElem_toArray, List.getElem_cons_zero, List.getElem_cons_succ, Act.put, List.setIfInBounds_toArray, List.set_cons_zero, List.set_cons_succ]
              refine c_take 5 _ _ rfl (by kernel_rfl) (by kernel_rfl) (by kernel_rfl) rfl (fun c a' w' h => ⟨(putC_defers _ _ _).symm.trans h.1, h.2⟩) X11.out (fun u hu => by
                go_simp; rfl) ?_
              simp only [List.getElem_toArray, List.getElem_cons_zero, List.getElem_cons_succ, Act.put, List.setIfInBounds_toArray, List.set_cons_zero, List.set_cons_succ]
              refine c_take 6 _ _ rfl (by kernel_rfl) (by kernel_rfl) (by kernel_rfl) rfl (fun c a' w' h => ⟨(putC_defers _ _ _).symm.trans h.1, h.2⟩) X11.out (fun u hu => by
                go_simp; rfl) ?_
              simp only [List.getElem_toArray, List.getElem_cons_zero, List.getElem_cons_succ, Act.put, List.setIfInBounds_toArray, List.set_cons_zero, List.set_cons_succ]
              refine c_only 7 _ rfl (by kernel_rfl) ?_
              go_simp
              refine ⟨X12.out, ?_⟩
              refine c_end (by kernel_rfl) ?_
              clear d6 d6f p1 p1f hW11 hW12
              have b3 := (cell_of_row _ _ 0 _ _ _ X12.out).trans (show (#[Value.pointer (some ⟨p, 0, none⟩)] : Array Value)[0]? = some (.pointer (some ⟨p, 0, none⟩)) from rfl)
              go_wp2_with fail
              refine (listH_any HR12.out X12.out HNE.out).mono ?_
              intro e w13 h13
              cases hp13 : rdN rdH q with
              | none =>
                obtain ⟨rfl, hk13⟩ := reads_no h13 hp13
                exact ⟨rfl, reads_none (by unfold rdM; rw [HP1.out]; simp [HP2.out, HP3.out, HP4.out, HPC.out, hp13]) (HK12.out.trans hk13)⟩
              | some q13 =>
                obtain ⟨hs, R6⟩ := q13
                obtain ⟨vh, rfl, hoh, hr13, hk13⟩ := reads_yes h13 hp13
                have HF : Hid (rdM R = some (⟨s1, s2, B1, B2, B3, lo, .nilIface, .nilIface, l, hs⟩, R6)) := hid (by
                  unfold rdM; rw [HP1.out]; simp [HP2.out, HP3.out, HP4.out, HPC.out, hp13, HBS.out.1, HBS.out.2.1, HBS.out.2.2])
                have HR13 := hid hr13
                have HK13 := hid (HK12.out.trans hk13)
                have HKI := hid hk13
                have HOH := hid hoh
                have G13 := hid (kp_row hk13 G12.out HGP.out.1)
                have D13 := hid (kp_row hk13 D12.out HQP.out.1)
                have HS12 : Hid (w10.heap.size ≤ W12.heap.size) := hid K12.out.size
                obtain ⟨ah, ch, rfl⟩ := (sl_of_owns hoh).val
                clear h13 hr13 hk13 hp13 hoh b3
                have e7 : w13.cell? ⟨g2, 7, none⟩ = some (.slice none 0 0) := by rw [cell_of_row _ _ _ _ _ _ D13.out]; rfl
                have e7f : w13.frozen? ⟨g2, 7, none⟩ = false := frozen_of_row _ _ _ _ _ D13.out
                obtain ⟨W14, hW14⟩ : ∃ W, w13.setCell ⟨g2, 7, none⟩ (.slice ah hs.length ch) = W := ⟨_, rfl⟩
                have K14 : Hid (Keeps (fun k => k = g2) w13 W14) := hid (by subst hW14; exact Keeps.set w13 g2 7 _)
                have D14 : Hid (W14.heap[g2]? = some (.cells #[.string s1, .string s2, .bool B1, .bool B2, .bool B3, .int .i64 lo, .slice a1 l.length c1, .slice ah hs.length ch] 59)) := hid (by subst hW14; exact heap_set D13.out 7 _)
                have G14 : Hid (W14.heap[g]? = some (.cells #[.string { data := #[] }, .string { data := #[] }, .bool false, .bool false, .bool false, .int .i64 0, .slice none 0 0, .slice none 0 0] 59)) := hid ((K14.out.block g (Array.getElem?_eq_some_iff.1 G13.out).1 HQP.out.2.1).trans G13.out)
                have HR14 : Hid (RD w0 p R6 W14) := hid (HR13.out.keeps K14.out fun k hk => by subst hk; exact ⟨HQP.out.2.2.2.1, HQP.out.1⟩)
                have HK14 : Hid (Keeps (fun k => k = p) w W14) := hid (HK13.out.then K14.out fun k hk h => by have h1 := HQP.out.2.2.1; omega)
                go_wp2_with (first | (refine wpList_load_row rfl 59 (.tmp 3) rfl g2 rfl _ _ _ _ D14.out Tryz.underlying59 rfl (by kernel_rfl) ?_) | (refine wpList_store_row rfl 59 (.tmp 2) (.tmp 52) rfl g #[.string s1, .string s2, .bool B1, .bool B2, .bool B3, .int .i64 lo, .slice a1 l.length c1, .slice ah hs.length ch] rfl rfl 59 _ G14.out (by kernel_rfl) rfl (by simp [Value.oneCell']) ?_))
                clear e7 e7f hW14
                have K15 : Hid (Keeps (fun k => k = g) W14 (W14.setRow g #[.string s1, .string s2, .bool B1, .bool B2, .bool B3, .int .i64 lo, .slice a1 l.length c1, .slice ah hs.length ch])) := hid (keeps_rowF W14 g _)
                have G15 := hid (setRow_heap W14 g _ #[.string s1, .string s2, .bool B1, .bool B2, .bool B3, .int .i64 lo, .slice a1 l.length c1, .slice ah hs.length ch] _ _ G14.out)
                have HR15 := hid (HR14.out.keeps K15.out fun k hk => by subst hk; exact ⟨HGP.out.2.2, HGP.out.1⟩)
                have HK15 : Hid (Keeps (fun k => k = p) w (W14.setRow g #[.string s1, .string s2, .bool B1, .bool B2, .bool B3, .int .i64 lo, .slice a1 l.length c1, .slice ah hs.length ch])) := hid (HK14.out.then K15.out fun k hk h => by have := HGW.out.2; omega)
                have HMM : Hid (MadeM w.heap.size ⟨s1, s2, B1, B2, B3, lo, .nilIface, .nilIface, l, hs⟩ (.agg #[.string s1, .string s2, .bool B1, .bool B2, .bool B3, .int .i64 lo, .slice a1 l.length c1, .slice ah hs.length ch]) (W14.setRow g #[.string s1, .string s2, .bool B1, .bool B2, .bool B3, .int .i64 lo, .slice a1 l.length c1, .slice ah hs.length ch])) := hid (by
                  refine ⟨⟨s1, s2, B1, B2, B3, lo, .slice a1 l.length c1, .slice ah hs.length ch, l, hs⟩, rfl, rfl, ?_, ?_⟩
                  · have h1 := owns_keeps HOC.out.own K12.out (fun j hj e => by have h1 := HW9S.out j hj; have h2 := HSZ.out; omega) HSZ.out.2.2.2
                    have h2 := owns_keeps h1 HKI.out (fun j hj e => by have h1 := HW9S.out j hj; have h2 := HSZ.out; omega) (Nat.le_refl _)
                    have h3 := owns_keeps h2 K14.out (fun j hj e => by have h1 := HW9S.out j hj; have h2 := HSZ.out; omega) (Nat.le_refl _)
                    exact owns_keeps h3 K15.out (fun j hj e => by have h1 := HW9S.out j hj; have h2 := HSZ.out; omega) (Nat.le_refl _)
                  · have hb : ∀ j, (Value.slice ah hs.length ch).ownBlock = some j → W12.heap.size ≤ j := fun j hj => (HOH.out.lt j hj).1
                    have h1 := owns_keeps HOH.out K14.out (fun j hj e => by have h1 := hb j hj; have h2 := HSZ.out; have h3 := HS12.out; have h4 := HB10.out.size; omega) (Nat.le_trans HSZ.out.2.2.2 (Nat.le_trans HB10.out.size HS12.out))
                    exact owns_keeps h1 K15.out (fun j hj e => by have h1 := hb j hj; have h2 := HSZ.out; have h3 := HS12.out; have h4 := HB10.out.size; omega) (Nat.le_refl _))
                try simp only [Exit.inBlock, Exit.then]
                refine bodyPost_ret (results_cell_row rfl _ _ g 59 _ (0, 0) _ rfl G15.out Tryz.underlying59 rfl (by kernel_rfl)) rfl ?_
                exact reads_some HF.out HMM.out HR15.out HK15.out
end Go.Proofs.YtnhhaefoilhlhaaGreatDoor.files
