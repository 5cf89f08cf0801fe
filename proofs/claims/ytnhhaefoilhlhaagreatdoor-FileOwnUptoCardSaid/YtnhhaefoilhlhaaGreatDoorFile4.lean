/- file.Encode: its walk. Conditions: the tables lie in their variables; the class is not long; its code's numbers are of 64 bits. -/
import Derived.Test.YtnhhaefoilhlhaaGreatDoorFile4P
import Derived.Test.YtnhhaefoilhlhaaGreatDoorCls6
set_option linter.unusedSimpArgs false
set_option linter.unusedVariables false
namespace Go.Proofs.YtnhhaefoilhlhaaGreatDoor.files
open Go.RowKit Go.Proofs.YtnhhaefoilhlhaaGreatDoor.lib Go.Proofs.YtnhhaefoilhlhaaGreatDoor.errs Go.Proofs.YtnhhaefoilhlhaaGreatDoor.names Go.Proofs.YtnhhaefoilhlhaaGreatDoor.descs Go.Proofs.YtnhhaefoilhlhaaGreatDoor.ins Go.Proofs.YtnhhaefoilhlhaaGreatDoor.flows Go.Proofs.YtnhhaefoilhlhaaGreatDoor.hdls Go.Proofs.YtnhhaefoilhlhaaGreatDoor.classes Go.Proofs.YtnhhaefoilhlhaaGreatDoor.txts Go.Proofs.YtnhhaefoilhlhaaGreatDoor.nums Go.Proofs.YtnhhaefoilhlhaaGreatDoor.grow

theorem Wrote.drew {B p : Nat} {F : List Int} {w u : World} (h : Wrote B p F w u) : Wrote B p F w u.drew := ⟨h.buf, h.below.drew, h.kept⟩
theorem Wrote.alloc_then {B p : Nat} {F G : List Int} {w u u' : World} {o : Obj} (h : Wrote B p F w u) (k : Wrote B p G (u.alloc o) u') : Wrote B p G w u' :=
  ⟨k.buf, (h.below.trans ((ext_alloc _ _).mono h.buf.base)).trans k.below, (h.kept.trans (kept_of_below (ext_alloc _ _))).trans k.kept⟩
theorem below_mono1 {w u : World} {p : Nat} (h : Below p w u) (hp : w.heap.size = p) : Below w.heap.size w u := hp ▸ h
theorem owns_less {w : World} {B B' : Nat} {e : TypeId} {size n : Nat} {v : Value} {xs : List Value} (h : w.ownsRow B e size v n xs) (hB : B' ≤ B) : w.ownsRow B' e size v n xs :=
  ⟨h.1, h.2.imp id fun ⟨g, cap, cur, hv, hb, r⟩ => ⟨g, cap, cur, hv, Nat.le_trans hB hb, r⟩⟩
theorem fd_no {c c' : Array Value} {fz fz' : Nat × Nat} : Obj.cells c 55 fz ≠ .cells c' 5 fz' := fun e => by injection e with _ h _; exact absurd h (by decide)
/-- what file.Encode answers -/
def FEncBy (w : World) (c : CV) (e : Ending) (w' : World) : Prop :=
  if clsFault c = 0 then ∃ v, e = .returned (.tuple #[v, .nilIface]) ∧ Out w w' 5 1 v (cb c).length ((cb c).map (.int .u8))
  else e = .returned (.tuple #[.slice none 0 0, .iface 36 (.int .i64 (clsFault c))]) ∧ Below w.heap.size w w'
theorem fenc_good {w w' : World} {c : CV} {v : Value} {B : Nat} (h : clsFault c = 0) (hb : Below w.heap.size w w') (ho : w'.ownsRow B 5 1 v (cb c).length ((cb c).map (.int .u8))) (hB : w.heap.size ≤ B) : FEncBy w c (.returned (.tuple #[v, .nilIface])) w' := by
  unfold FEncBy
  rw [if_pos h]
  exact ⟨v, rfl, owns_less ho hB, hb⟩
theorem fenc_bad {w w' : World} {c : CV} (h : ¬ clsFault c = 0) (hb : Below w.heap.size w w') : FEncBy w c (.returned (.tuple #[.slice none 0 0, .iface 36 (.int .i64 (clsFault c))])) w' := by
  unfold FEncBy
  rw [if_neg h]
  exact ⟨rfl, hb⟩

set_option maxRecDepth 100000 in
set_option maxHeartbeats 8000000 in
theorem fencode_any (c : CV) (w : World) (hc : c.At w) (hf : FormsAt w) (hp : Pow w) (hsm : SmallC c) (hn : ∀ m ∈ c.mets, ∀ x ∈ m.code, Small x ∧ InR x.a ∧ InR x.b) :
    Calls Tryz.prog 7 #[.agg c.cells.toArray] w (FEncBy w c) := by
  have HGD := hid (fun h => good_cls (c := c) h hn hsm)
  have HCK := hid (fun (u : World) (h : Below w.heap.size w u) => ccheck_any c u (hc.below h) (hf.below h) hsm)
  obtain ⟨nm, sup, vf, face, vd, vm, faces, fields, mets⟩ := c
  have h1 := hc.faces
  have h2 := hc.fields
  have h3 := hc.mets
  simp only [CV.cells] at h1 h2 h3 HCK ⊢
  obtain ⟨af, cf, rfl⟩ := h1.val
  obtain ⟨ad, cd, rfl⟩ := h2.val
  obtain ⟨am, cm, rfl⟩ := h3.sl.val
  have HF := hid hf
  have HP := hid hp
  have K1 := hid h1
  have K2 := hid h2
  have K3 := hid h3
  have HNM := hid (show nm.size ≤ 1048576 from hsm.nm)
  have HSU := hid (show sup.size ≤ 1048576 from hsm.sup)
  obtain ⟨q, hq⟩ : ∃ q, w.heap.size = q := ⟨_, rfl⟩
  have HQ := hid hq
  obtain ⟨W0, hW0⟩ : ∃ W0, w.alloc (.cells #[.string nm, .string sup, .slice af faces.length cf, .bool face, .slice ad fields.length cd, .slice am mets.length cm] 26) = W0 := ⟨_, rfl⟩
  have HB0 : Hid (Below w.heap.size w W0 ∧ q < W0.heap.size ∧ W0.heap[q]? = some (.cells #[.string nm, .string sup, .slice af faces.length cf, .bool face, .slice ad fields.length cd, .slice am mets.length cm] 26)) := hid (by
    subst hW0
    exact ⟨ext_alloc _ _, by rw [World.size_alloc]; omega, by rw [← hq]; exact heap_alloc_new _ _⟩)
  clear hc hf hp hsm hn h1 h2 h3
  go_enter Tryz.func7, Tryz.ntmps7
  go_wp2_with (refine wpList_load_row rfl 26 (.tmp 1) rfl q rfl _ _ _ _ HB0.out.2.2 Tryz.underlying26 rfl (by kernel_rfl) ?_)
  refine (HCK.out W0 HB0.out.1).mono ?_
  rintro e w1 ⟨rfl, hb1⟩
  have HB1 := hid (HB0.out.1.trans (hb1.mono HB0.out.1.size))
  have HX1 : Hid (w1.heap[q]? = some (.cells #[.string nm, .string sup, .slice af faces.length cf, .bool face, .slice ad fields.length cd, .slice am mets.length cm] 26) ∧ q < w1.heap.size) := hid ⟨(hb1.block q HB0.out.2.1).trans HB0.out.2.2, Nat.lt_of_lt_of_le HB0.out.2.1 hb1.size⟩
  clear hb1 hW0
  by_cases h0 : clsFault ⟨nm, sup, .slice af faces.length cf, face, .slice ad fields.length cd, .slice am mets.length cm, faces, fields, mets⟩ = 0
  · have HZ0 := hid h0
    have HGC := hid (HGD.out h0)
    rw [h0, show errVal 0 = Value.nilIface from rfl]
    obtain ⟨p, hp⟩ : ∃ p, w1.heap.size = p := ⟨_, rfl⟩
    have HP1 := hid hp
    have HPQ := hid hp
    have HP3 : Hid (w.heap.size ≤ p) := hid (by rw [← hp]; exact HB1.out.size)
    have HRW : Hid (∀ u, Below p w1 u → u.heap[q]? = some (.cells #[.string nm, .string sup, .slice af faces.length cf, .bool face, .slice ad fields.length cd, .slice am mets.length cm] 26)) := hid (fun u hu => (hu.block q (by have := HX1.out.2; omega)).trans HX1.out.1)
    have HFA := hid (K1.out.below HB1.out)
    have HFD := hid (K2.out.below HB1.out)
    have HFM := hid (K3.out.below HB1.out)
    have HF1 := hid (HF.out.below HB1.out)
    have HP2 := hid (HP.out.below HB1.out)
    have HFN := hid (show faces.length ≤ 8 from HGC.out.fn)
    have HDN := hid (show fields.length ≤ 8 from HGC.out.dn)
    have HMN := hid (show mets.length ≤ 8 from HGC.out.mn)
    have HFS := hid (show ∀ x ∈ faces, x.size ≤ 1048576 from HGC.out.small.faces)
    have HDS := hid (show ∀ x ∈ fields, x.nm.size ≤ 1048576 ∧ x.ty.size ≤ 1048576 from HGC.out.small.fields)
    have HMG := hid (show ∀ x ∈ mets, GoodM x from HGC.out.mets)
    have hf8 : faces.length ≤ 1000000 := by have : faces.length ≤ 8 := HGC.out.fn; omega
    have hd8 : fields.length ≤ 1000000 := by have : fields.length ≤ 8 := HGC.out.dn; omega
    have hm8 : mets.length ≤ 1000000 := by have : mets.length ≤ 8 := HGC.out.mn; omega
    obtain ⟨W2, hW2⟩ : ∃ W2, w1.alloc (.cells #[.slice none 0 0, .int .i64 0, .int .i8 0] 48) = W2 := ⟨_, rfl⟩
    have V0 : Hid (Wrote p p [] w1 W2) := hid (by
      subst hW2
      exact ⟨Go.LibA.zero_isBuffer (Nat.le_refl _) (Go.LibA.three_whole (by rw [← hp]; exact heap_alloc_new _ _)), (ext_alloc _ _).mono (by omega), kept_of_below (ext_alloc _ _)⟩)
    clear h0
    go_wp2_with fail
    refine (wstring_any _ V0.out.buf (by decide)).mono ?_
    rintro e w_V1 ⟨rfl, h_V1⟩
    have V1 : Hid (Wrote p p magic w1 w_V1) := hid (V0.out.trans h_V1)
    clear h_V1 hW2
    have q0 := cell_of_row _ _ 0 _ _ _ (HRW.out _ V1.out.below)
    go_wp2_with fail
    refine (wtext_any nm V1.out.buf (by have := HNM.out; simp only [magic, List.length_cons, List.length_nil]; omega)).mono ?_
    rintro e w_V2 ⟨rfl, h_V2⟩
    have V2 := hid (V1.out.trans h_V2)
    clear h_V2 q0
    have q1 := cell_of_row _ _ 1 _ _ _ (HRW.out _ V2.out.below)
    go_wp2_with fail
    refine (wtext_any sup V2.out.buf (by have := HNM.out; have := HSU.out; simp only [List.length_append, tb_len, List.length_cons, List.length_nil, magic]; omega)).mono ?_
    rintro e w_V3 ⟨rfl, h_V3⟩
    have V3 := hid (V2.out.trans h_V3)
    clear h_V3 q1
    have V3D := hid V3.out.drew
    go_wp2_with fail
    refine wp_region_c (fun u => u.heap[q]? = some (.cells #[.string nm, .string sup, .slice af faces.length cf, .bool face, .slice ad fields.length cd, .slice am mets.length cm] 26)) (by kernel_rfl) ?_
    refine c_take 0 _ _ rfl (by kernel_rfl) (by kernel_rfl) (by kernel_rfl) rfl (fun c a' w' h => ⟨(putC_defers _ _ _).symm.trans h.1, h.2⟩) (HRW.out _ V3D.out.below) (fun u hu => by
      go_simp; rfl) ?_
    simp only [List.getElem_toArray, List.getElem_cons_zero, List.getElem_cons_succ, Act.put, List.setIfInBounds_toArray, List.set_cons_zero, List.set_cons_succ]
    refine c_take 1 _ _ rfl (by kernel_rfl) (by kernel_rfl) (by kernel_rfl) rfl (fun c a' w' h => ⟨(putC_defers _ _ _).symm.trans h.1, h.2⟩) (HRW.out _ V3D.out.below) (fun u hu => by
      go_simp; rfl) ?_
    simp only [List.getElem_toArray, List.getElem_cons_zero, List.getElem_cons_succ, Act.put, List.setIfInBounds_toArray, List.set_cons_zero, List.set_cons_succ]
    refine c_take 2 _ _ rfl (by kernel_rfl) (by kernel_rfl) (by kernel_rfl) rfl (fun c a' w' h => ⟨(putC_defers _ _ _).symm.trans h.1, h.2⟩) (HRW.out _ V3D.out.below) (fun u hu => by
      go_simp; rfl) ?_
    simp only [List.getElem_toArray, List.getElem_cons_zero, List.getElem_cons_succ, Act.put, List.setIfInBounds_toArray, List.set_cons_zero, List.set_cons_succ]
    refine c_take 3 _ _ rfl (by kernel_rfl) (by kernel_rfl) (by kernel_rfl) rfl (fun c a' w' h => ⟨(putC_defers _ _ _).symm.trans h.1, h.2⟩) (HRW.out _ V3D.out.below) (fun u hu => by
      go_simp; rfl) ?_
    simp only [List.getElem_toArray, List.getElem_cons_zero, List.getElem_cons_succ, Act.put, List.setIfInBounds_toArray, List.set_cons_zero, List.set_cons_succ]
    refine c_take 4 _ _ rfl (by kernel_rfl) (by kernel_rfl) (by kernel_rfl) rfl (fun c a' w' h => ⟨(putC_defers _ _ _).symm.trans h.1, h.2⟩) (HRW.out _ V3D.out.below) (fun u hu => by
      have q2 := cell_of_row _ _ 2 _ _ _ hu
      go_simp; rfl) ?_
    simp only [List.getElem_toArray, List.getElem_cons_zero, List.getElem_cons_succ, Act.put, List.setIfInBounds_toArray, List.set_cons_zero, List.set_cons_succ]
    refine c_take 5 _ _ rfl (by kernel_rfl) (by kernel_rfl) (by kernel_rfl) rfl (fun c a' w' h => ⟨(putC_defers _ _ _).symm.trans h.1, h.2⟩) (HRW.out _ V3D.out.below) (fun u hu => by
      go_simp; rfl) ?_
    simp only [List.getElem_toArray, List.getElem_cons_zero, List.getElem_cons_succ, Act.put, List.setIfInBounds_toArray, List.set_cons_zero, List.set_cons_succ]
    refine c_take 6 _ _ rfl (by kernel_rfl) (by kernel_rfl) (by kernel_rfl) rfl (fun c a' w' h => ⟨(putC_defers _ _ _).symm.trans h.1, h.2⟩) (HRW.out _ V3D.out.below) (fun u hu => by
      go_simp; rfl) ?_
    simp only [List.getElem_toArray, List.getElem_cons_zero, List.getElem_cons_succ, Act.put, List.setIfInBounds_toArray, List.set_cons_zero, List.set_cons_succ]
    refine c_only 7 _ rfl (by kernel_rfl) ?_
    go_simp
    refine (wbyte_any _ V3D.out.buf (by have := HNM.out; have := HSU.out; simp only [List.length_append, tb_len, List.length_cons, List.length_nil, magic]; omega)).mono ?_
    rintro e w_V4 ⟨rfl, h_V4⟩
    have V4 := hid (V3D.out.trans h_V4)
    clear h_V4
    refine ⟨HRW.out _ V4.out.below, ?_⟩
    refine c_end (by kernel_rfl) ?_
    have q2 := cell_of_row _ _ 2 _ _ _ (HRW.out _ V4.out.below)
    have HG1 : Hid (∃ G : List Int, G.length ≤ 3000000 ∧ Wrote p p G w1 w_V4 ∧ magic ++ tb nm ++ tb sup ++ [(faces.length : Int) % 256] = G) := hid ⟨_, by have := HNM.out; have := HSU.out; simp only [List.length_append, tb_len, List.length_cons, List.length_nil, magic]; omega, V4.out, by rw [wrap_byte]⟩
    go_wp2_with fail
    obtain ⟨G1, hGL, hGW, hGE⟩ := HG1.out
    have HL1 := hid hGL
    have HW1 := hid hGW
    have HE1 := hid hGE
    clear hGL hGW hGE q2 HG1
    go_loopw [43] (fun i wr => ∃ k : Nat, k ≤ faces.length ∧ i = .int .i64 k ∧ Hid (Wrote p p (G1 ++ (faces.take k).flatMap tb) w1 wr)) (fun i _ => faces.length - (intOf i).toNat)
    case atStart => exact ⟨0, Nat.zero_le _, rfl, hid (by simpa using HW1.out)⟩
    case round =>
      obtain ⟨k, hk, rfl, HR⟩ := hrel
      have HKL : Hid (((faces.take k).flatMap tb).length ≤ 10000000) := hid (by
        have h1 := flat_le tb 1048577 (faces.take k) fun x hx => by rw [tb_len]; have := HFS.out x (List.mem_of_mem_take hx); omega
        have h2 : (faces.take k).length ≤ 8 := by rw [List.length_take]; have := HFN.out; omega
        have h3 := Nat.mul_le_mul_right 1048577 h2
        omega)
      by_cases hlt : k < faces.length
      · obtain ⟨bb, off, hab, hc0⟩ := text_at (HFA.out.below (below_mono1 HR.out.below HP1.out)) hlt
        subst hab
        have hi : (0 : Int) ≤ (k : Int) := by omega
        have hkl : (k : Int) < (faces.length : Int) := by omega
        have HSZ := hid (HFS.out _ (List.getElem_mem hlt))
        have HNX : Hid ((faces.take (k + 1)).flatMap tb = (faces.take k).flatMap tb ++ tb faces[k]) := hid (flat_take tb faces hlt)
        generalize faces[k] = x at hc0 HSZ HNX
        go_wp2_with fail
        refine (wtext_any x HR.out.buf (by have := HL1.out; have := HKL.out; have := HSZ.out; simp only [List.length_append]; omega)).mono ?_
        rintro e w3 ⟨rfl, h3⟩
        have T3 : Hid (Wrote p p (G1 ++ (faces.take (k + 1)).flatMap tb) w1 w3) := hid (by
          have := HR.out.trans h3
          rw [HNX.out]
          simpa only [List.append_assoc] using this)
        clear h3 hc0
        go_wp2
        go_roundw
        case rel => exact ⟨k + 1, by omega, by go_num, T3⟩
        case measure => simp [intOf]; omega
      · have hge : ¬ (k : Int) < (faces.length : Int) := by omega
        have e : k = faces.length := by omega
        obtain ⟨w_U0, hU0⟩ : ∃ W, W = wr := ⟨_, rfl⟩
        subst hU0
        have U0 : Hid (Wrote p p (G1 ++ faces.flatMap tb) w1 w_U0) := hid (by have := HR.out; rwa [e, List.take_length] at this)
        have HKL2 : Hid ((faces.flatMap tb).length ≤ 10000000) := hid (by have := HKL.out; rwa [e, List.take_length] at this)
        subst e
        clear HR hk HKL
        have q3 := cell_of_row _ _ 3 _ _ _ (HRW.out _ U0.out.below)
        go_wp2_with fail
        refine (flags_any _ _ [face] (U0.out.buf.later (ext_alloc _ _)) (Sl.lit _ #[.bool face] _ 1 1 rfl) (by simp) (by have := HL1.out; have := HKL2.out; simp only [List.length_append]; omega)).mono ?_
        rintro e w_U1 ⟨rfl, h_U1⟩
        have U1 := hid (U0.out.alloc_then h_U1)
        clear h_U1 q3
        have U1D := hid U1.out.drew
        go_wp2_with fail
        refine wp_region_c (fun u => u.heap[q]? = some (.cells #[.string nm, .string sup, .slice af faces.length cf, .bool face, .slice ad fields.length cd, .slice am mets.length cm] 26)) (by kernel_rfl) ?_
        refine c_take 0 _ _ rfl (by kernel_rfl) (by kernel_rfl) (by kernel_rfl) rfl (fun c a' w' h => ⟨(putC_defers _ _ _).symm.trans h.1, h.2⟩) (HRW.out _ U1D.out.below) (fun u hu => by
          go_simp; rfl) ?_
        simp only [List.getElem_toArray, List.getElem_cons_zero, List.getElem_cons_succ, Act.put, List.setIfInBounds_toArray, List.set_cons_zero, List.set_cons_succ]
        refine c_take 1 _ _ rfl (by kernel_rfl) (by kernel_rfl) (by kernel_rfl) rfl (fun c a' w' h => ⟨(putC_defers _ _ _).symm.trans h.1, h.2⟩) (HRW.out _ U1D.out.below) (fun u hu => by
          go_simp; rfl) ?_
        simp only [List.getElem_toArray, List.getElem_cons_zero, List.getElem_cons_succ, Act.put, List.setIfInBounds_toArray, List.set_cons_zero, List.set_cons_succ]
        refine c_take 2 _ _ rfl (by kernel_rfl) (by kernel_rfl) (by kernel_rfl) rfl (fun c a' w' h => ⟨(putC_defers _ _ _).symm.trans h.1, h.2⟩) (HRW.out _ U1D.out.below) (fun u hu => by
          go_simp; rfl) ?_
        simp only [List.getElem_toArray, List.getElem_cons_zero, List.getElem_cons_succ, Act.put, List.setIfInBounds_toArray, List.set_cons_zero, List.set_cons_succ]
        refine c_take 3 _ _ rfl (by kernel_rfl) (by kernel_rfl) (by kernel_rfl) rfl (fun c a' w' h => ⟨(putC_defers _ _ _).symm.trans h.1, h.2⟩) (HRW.out _ U1D.out.below) (fun u hu => by
          go_simp; rfl) ?_
        simp only [List.getElem_toArray, List.getElem_cons_zero, List.getElem_cons_succ, Act.put, List.setIfInBounds_toArray, List.set_cons_zero, List.set_cons_succ]
        refine c_take 4 _ _ rfl (by kernel_rfl) (by kernel_rfl) (by kernel_rfl) rfl (fun c a' w' h => ⟨(putC_defers _ _ _).symm.trans h.1, h.2⟩) (HRW.out _ U1D.out.below) (fun u hu => by
          have q4 := cell_of_row _ _ 4 _ _ _ hu
          go_simp; rfl) ?_
        simp only [List.getElem_toArray, List.getElem_cons_zero, List.getElem_cons_succ, Act.put, List.setIfInBounds_toArray, List.set_cons_zero, List.set_cons_succ]
        refine c_take 5 _ _ rfl (by kernel_rfl) (by kernel_rfl) (by kernel_rfl) rfl (fun c a' w' h => ⟨(putC_defers _ _ _).symm.trans h.1, h.2⟩) (HRW.out _ U1D.out.below) (fun u hu => by
          go_simp; rfl) ?_
        simp only [List.getElem_toArray, List.getElem_cons_zero, List.getElem_cons_succ, Act.put, List.setIfInBounds_toArray, List.set_cons_zero, List.set_cons_succ]
        refine c_take 6 _ _ rfl (by kernel_rfl) (by kernel_rfl) (by kernel_rfl) rfl (fun c a' w' h => ⟨(putC_defers _ _ _).symm.trans h.1, h.2⟩) (HRW.out _ U1D.out.below) (fun u hu => by
          go_simp; rfl) ?_
        simp only [List.getElem_toArray, List.getElem_cons_zero, List.getElem_cons_succ, Act.put, List.setIfInBounds_toArray, List.set_cons_zero, List.set_cons_succ]
        refine c_only 7 _ rfl (by kernel_rfl) ?_
        go_simp
        refine (wbyte_any _ U1D.out.buf (by have := HL1.out; have := HKL2.out; simp only [List.length_append, tb_len, List.length_cons, List.length_nil, magic]; omega)).mono ?_
        rintro e w_U2 ⟨rfl, h_U2⟩
        have U2 := hid (U1D.out.trans h_U2)
        clear h_U2
        refine ⟨HRW.out _ U2.out.below, ?_⟩
        refine c_end (by kernel_rfl) ?_
        have q4 := cell_of_row _ _ 4 _ _ _ (HRW.out _ U2.out.below)
        have HG2 : Hid (∃ G : List Int, G.length ≤ 14000000 ∧ Wrote p p G w1 w_U2 ∧ G1 ++ faces.flatMap tb ++ [bit [face]] ++ [(fields.length : Int) % 256] = G) := hid ⟨_, by have := HL1.out; have := HKL2.out; simp only [List.length_append, tb_len, List.length_cons, List.length_nil, magic]; omega, U2.out, by rw [wrap_byte]⟩
        go_wp2_with fail
        obtain ⟨G2, hGL, hGW, hGE⟩ := HG2.out
        have HL2 := hid hGL
        have HW2 := hid hGW
        have HE2 := hid hGE
        clear hGL hGW hGE q4 HG2
        go_loopw [67] (fun i wr => ∃ k : Nat, k ≤ fields.length ∧ i = .int .i64 k ∧ Hid (Wrote p p (G2 ++ (fields.take k).flatMap fb) w1 wr)) (fun i _ => fields.length - (intOf i).toNat)
        case atStart => exact ⟨0, Nat.zero_le _, rfl, hid (by simpa using HW2.out)⟩
        case round =>
          obtain ⟨k, hk, rfl, HR⟩ := hrel
          have HKL : Hid (((fields.take k).flatMap fb).length ≤ 20000000) := hid (by
            have h1 := flat_le fb 2097154 (fields.take k) fun x hx => fb_len (HDS.out x (List.mem_of_mem_take hx))
            have h2 : (fields.take k).length ≤ 8 := by rw [List.length_take]; have := HDN.out; omega
            have h3 := Nat.mul_le_mul_right 2097154 h2
            omega)
          by_cases hlt : k < fields.length
          · obtain ⟨bb, off, hab, hc0, hc1⟩ := fd_at (HFD.out.below (below_mono1 HR.out.below HP1.out)) hlt
            subst hab
            have hi : (0 : Int) ≤ (k : Int) := by omega
            have hkl : (k : Int) < (fields.length : Int) := by omega
            have HSZ := hid (HDS.out _ (List.getElem_mem hlt))
            have HNX : Hid ((fields.take (k + 1)).flatMap fb = (fields.take k).flatMap fb ++ fb fields[k]) := hid (flat_take fb fields hlt)
            generalize fields[k] = x at hc0 hc1 HSZ HNX
            obtain ⟨fn, ft⟩ := x
            simp only at hc0 hc1 HSZ
            obtain ⟨q', hq'⟩ : ∃ q', wr.heap.size = q' := ⟨_, rfl⟩
            have HQ' : Hid (q' ≠ p) := hid (by have := HR.out.buf.pl.2; omega)
            obtain ⟨X1, hX1⟩ : ∃ X1, wr.alloc (.cells #[.string fn, .string ft] 55) = X1 := ⟨_, rfl⟩
            have T0 : Hid (Stage p p q' (.cells #[.string fn, .string ft] 55) w1 X1 (G2 ++ (fields.take k).flatMap fb)) := hid (by
              subst hX1
              exact ⟨HR.out.buf.later (ext_alloc _ _), HR.out.below.trans ((ext_alloc _ _).mono HR.out.buf.base), HR.out.kept.trans (kept_of_below (ext_alloc _ _)), by rw [← hq']; exact heap_alloc_new _ _⟩)
            have r0 := cell_of_row _ _ 0 _ _ _ T0.out.row
            go_wp2_with fail
            refine (wtext_any fn T0.out.buf (by have := HL2.out; have := HKL.out; have := HSZ.out; simp only [List.length_append]; omega)).mono ?_
            rintro e w3 ⟨rfl, h3⟩
            have T1 := hid (T0.out.wrote h3 HQ'.out fun _ _ => fd_no)
            clear h3 r0 hX1 hc0 hc1
            have r1 := cell_of_row _ _ 1 _ _ _ T1.out.row
            go_wp2_with fail
            refine (wtext_any ft T1.out.buf (by have := HL2.out; have := HKL.out; have := HSZ.out; simp only [List.length_append, tb_len]; omega)).mono ?_
            rintro e w4 ⟨rfl, h4⟩
            have T3 : Hid (Wrote p p (G2 ++ (fields.take (k + 1)).flatMap fb) w1 w4) := hid (by
              have := (T1.out.wrote h4 HQ'.out fun _ _ => fd_no).all
              rw [HNX.out, show fb ⟨fn, ft⟩ = tb fn ++ tb ft from rfl]
              simpa only [List.append_assoc] using this)
            clear h4 r1
            go_wp2
            go_roundw
            case rel => exact ⟨k + 1, by omega, by go_num, T3⟩
            case measure => simp [intOf]; omega
          · have hge : ¬ (k : Int) < (fields.length : Int) := by omega
            have e : k = fields.length := by omega
            obtain ⟨w_X0, hX0⟩ : ∃ W, W = wr := ⟨_, rfl⟩
            subst hX0
            have X0 : Hid (Wrote p p (G2 ++ fields.flatMap fb) w1 w_X0) := hid (by have := HR.out; rwa [e, List.take_length] at this)
            have HKL3 : Hid ((fields.flatMap fb).length ≤ 20000000) := hid (by have := HKL.out; rwa [e, List.take_length] at this)
            subst e
            clear HR hk HKL
            have X0D := hid X0.out.drew
            go_wp2_with fail
            refine wp_region_c (fun u => u.heap[q]? = some (.cells #[.string nm, .string sup, .slice af faces.length cf, .bool face, .slice ad fields.length cd, .slice am mets.length cm] 26)) (by kernel_rfl) ?_
            refine c_take 0 _ _ rfl (by kernel_rfl) (by kernel_rfl) (by kernel_rfl) rfl (fun c a' w' h => ⟨(putC_defers _ _ _).symm.trans h.1, h.2⟩) (HRW.out _ X0D.out.below) (fun u hu => by
              go_simp; rfl) ?_
            simp only [List.getElem_toArray, List.getElem_cons_zero, List.getElem_cons_succ, Act.put, List.setIfInBounds_toArray, List.set_cons_zero, List.set_cons_succ]
            refine c_take 1 _ _ rfl (by kernel_rfl) (by kernel_rfl) (by kernel_rfl) rfl (fun c a' w' h => ⟨(putC_defers _ _ _).symm.trans h.1, h.2⟩) (HRW.out _ X0D.out.below) (fun u hu => by
              go_simp; rfl) ?_
            simp only [List.getElem_toArray, List.getElem_cons_zero, List.getElem_cons_succ, Act.put, List.setIfInBounds_toArray, List.set_cons_zero, List.set_cons_succ]
            refine c_take 2 _ _ rfl (by kernel_rfl) (by kernel_rfl) (by kernel_rfl) rfl (fun c a' w' h => ⟨(putC_defers _ _ _).symm.trans h.1, h.2⟩) (HRW.out _ X0D.out.below) (fun u hu => by
              go_simp; rfl) ?_
            simp only [List.getElem_toArray, List.getElem_cons_zero, List.getElem_cons_succ, Act.put, List.setIfInBounds_toArray, List.set_cons_zero, List.set_cons_succ]
            refine c_take 3 _ _ rfl (by kernel_rfl) (by kernel_rfl) (by kernel_rfl) rfl (fun c a' w' h => ⟨(putC_defers _ _ _).symm.trans h.1, h.2⟩) (HRW.out _ X0D.out.below) (fun u hu => by
              go_simp; rfl) ?_
            simp only [List.getElem_toArray, List.getElem_cons_zero, List.getElem_cons_succ, Act.put, List.setIfInBounds_toArray, List.set_cons_zero, List.set_cons_succ]
            refine c_take 4 _ _ rfl (by kernel_rfl) (by kernel_rfl) (by kernel_rfl) rfl (fun c a' w' h => ⟨(putC_defers _ _ _).symm.trans h.1, h.2⟩) (HRW.out _ X0D.out.below) (fun u hu => by
              have q5 := cell_of_row _ _ 5 _ _ _ hu
              go_simp; rfl) ?_
            simp only [List.getElem_toArray, List.getElem_cons_zero, List.getElem_cons_succ, Act.put, List.setIfInBounds_toArray, List.set_cons_zero, List.set_cons_succ]
            refine c_take 5 _ _ rfl (by kernel_rfl) (by kernel_rfl) (by kernel_rfl) rfl (fun c a' w' h => ⟨(putC_defers _ _ _).symm.trans h.1, h.2⟩) (HRW.out _ X0D.out.below) (fun u hu => by
              go_simp; rfl) ?_
            simp only [List.getElem_toArray, List.getElem_cons_zero, List.getElem_cons_succ, Act.put, List.setIfInBounds_toArray, List.set_cons_zero, List.set_cons_succ]
            refine c_take 6 _ _ rfl (by kernel_rfl) (by kernel_rfl) (by kernel_rfl) rfl (fun c a' w' h => ⟨(putC_defers _ _ _).symm.trans h.1, h.2⟩) (HRW.out _ X0D.out.below) (fun u hu => by
              go_simp; rfl) ?_
            simp only [List.getElem_toArray, List.getElem_cons_zero, List.getElem_cons_succ, Act.put, List.setIfInBounds_toArray, List.set_cons_zero, List.set_cons_succ]
            refine c_only 7 _ rfl (by kernel_rfl) ?_
            go_simp
            refine (wbyte_any _ X0D.out.buf (by have := HL2.out; have := HKL3.out; simp only [List.length_append, tb_len, List.length_cons, List.length_nil, magic]; omega)).mono ?_
            rintro e w_X1 ⟨rfl, h_X1⟩
            have X1 := hid (X0D.out.trans h_X1)
            clear h_X1
            refine ⟨HRW.out _ X1.out.below, ?_⟩
            refine c_end (by kernel_rfl) ?_
            have q5 := cell_of_row _ _ 5 _ _ _ (HRW.out _ X1.out.below)
            have HG3 : Hid (∃ G : List Int, G.length ≤ 40000000 ∧ Wrote p p G w1 w_X1 ∧ G2 ++ fields.flatMap fb ++ [(mets.length : Int) % 256] = G) := hid ⟨_, by have := HL2.out; have := HKL3.out; simp only [List.length_append, tb_len, List.length_cons, List.length_nil, magic]; omega, X1.out, by rw [wrap_byte]⟩
            go_wp2_with fail
            obtain ⟨G3, hGL, hGW, hGE⟩ := HG3.out
            have HL3 := hid hGL
            have HW3 := hid hGW
            have HE3 := hid hGE
            clear hGL hGW hGE q5 HG3
            go_loopw [12, 91] (fun _ i wr => ∃ k : Nat, k ≤ mets.length ∧ i = .int .i64 k ∧ Hid (Wrote p p (G3 ++ (mets.take k).flatMap mb) w1 wr)) (fun _ i _ => mets.length - (intOf i).toNat)
            case atStart => exact ⟨0, Nat.zero_le _, rfl, hid (by simpa using HW3.out)⟩
            case round =>
              obtain ⟨k, hk, rfl, HR⟩ := hrel
              have HKL : Hid (((mets.take k).flatMap mb).length ≤ 20000000000) := hid (by
                have h1 := flat_le mb 2020000000 (mets.take k) fun x hx => mb_len (HMG.out x (List.mem_of_mem_take hx))
                have h2 : (mets.take k).length ≤ 8 := by rw [List.length_take]; have := HMN.out; omega
                have h3 := Nat.mul_le_mul_right 2020000000 h2
                omega)
              by_cases hlt : k < mets.length
              · have HSL := hid (HFM.out.below (below_mono1 HR.out.below HP1.out))
                obtain ⟨bb, off, hab, hd0, hd1, hd2, hd3, hd4, hd5, hd6, hd7⟩ := met_at HSL.out hlt
                subst hab
                have hi : (0 : Int) ≤ (k : Int) := by omega
                have hkl : (k : Int) < (mets.length : Int) := by omega
                have HGM := hid (HMG.out _ (List.getElem_mem hlt))
                have HAT := hid (HFM.out.at_ _ (List.getElem_mem hlt))
                have HNX : Hid ((mets.take (k + 1)).flatMap mb = (mets.take k).flatMap mb ++ mb mets[k]) := hid (flat_take mb mets hlt)
                generalize mets[k] = x at hd0 hd1 hd2 hd3 hd4 hd5 hd6 hd7 HGM HAT HNX
                have HCM := hid (fun (u : World) (h : Wrote p p (G3 ++ (mets.take k).flatMap mb) w1 u) => method_any w1 p _ x u HAT.out HF1.out HP2.out (by rw [HPQ.out]; exact h.below) (by rw [HPQ.out]; exact h.buf) HGM.out (by have := HL3.out; have := HKL.out; simp only [List.length_append]; omega))
                rw [HPQ.out] at HCM
                obtain ⟨mn, mt, st, ab, pr, lo, vc, vh, code, hs⟩ := x
                simp only [MV.cells] at hd0 hd1 hd2 hd3 hd4 hd5 hd6 hd7 HCM
                obtain ⟨ac, cc, hvc⟩ := HAT.out.code.val
                obtain ⟨ah, ch, hvh⟩ := HAT.out.hs.val
                simp only at hvc hvh
                subst hvc hvh
                obtain ⟨q', hq'⟩ : ∃ q', wr.heap.size = q' := ⟨_, rfl⟩
                obtain ⟨X5, hX5⟩ : ∃ X5, wr.alloc (.cells #[.string mn, .string mt, .bool st, .bool ab, .bool pr, .int .i64 lo, .slice ac code.length cc, .slice ah hs.length ch] 59) = X5 := ⟨_, rfl⟩
                have T0 : Hid (Stage p p q' (.cells #[.string mn, .string mt, .bool st, .bool ab, .bool pr, .int .i64 lo, .slice ac code.length cc, .slice ah hs.length ch] 59) w1 X5 (G3 ++ (mets.take k).flatMap mb)) := hid (by
                  subst hX5
                  exact ⟨HR.out.buf.later (ext_alloc _ _), HR.out.below.trans ((ext_alloc _ _).mono HR.out.buf.base), HR.out.kept.trans (kept_of_below (ext_alloc _ _)), by rw [← hq']; exact heap_alloc_new _ _⟩)
                go_wp2_with (refine wpList_load_row rfl 59 (.tmp 11) rfl q' rfl _ _ _ _ T0.out.row Tryz.underlying59 rfl (by kernel_rfl) ?_)
                refine (HCM.out X5 T0.out.all).mono ?_
                rintro e w4 ⟨rfl, h4⟩
                have T3 : Hid (Wrote p p (G3 ++ (mets.take (k + 1)).flatMap mb) w1 w4) := hid (by
                  have := T0.out.all.trans h4
                  rw [HNX.out]
                  simpa only [List.append_assoc] using this)
                clear h4 hX5 hd0 hd1 hd2 hd3 hd4 hd5 hd6 hd7
                go_wp2
                refine ⟨?_, by simp [intOf]; omega⟩
                repeat apply Exists.intro
                refine ⟨⟨k + 1, by omega, by go_num, T3⟩, rfl⟩
              · have hge : ¬ (k : Int) < (mets.length : Int) := by omega
                have e : k = mets.length := by omega
                have HFI : Hid (Wrote p p (cb ⟨nm, sup, .slice af faces.length cf, face, .slice ad fields.length cd, .slice am mets.length cm, faces, fields, mets⟩) w1 wr) := hid (by
                  have := HR.out
                  rw [e, List.take_length, ← HE3.out, ← HE2.out, ← HE1.out] at this
                  unfold cb
                  simpa only [List.append_assoc] using this)
                have HNE : Hid (cb ⟨nm, sup, .slice af faces.length cf, face, .slice ad fields.length cd, .slice am mets.length cm, faces, fields, mets⟩ ≠ []) := hid (by unfold cb magic; simp)
                subst e
                go_wp2_with fail
                refine (bytes_any HFI.out.buf HNE.out).mono ?_
                rintro e w9 ⟨v9, rfl, ho9, hb9⟩
                have HFN2 := hid (show FEncBy w _ _ _ from fenc_good HZ0.out (HB1.out.trans (((below_mono1 HFI.out.below HP1.out).trans (hb9.mono (below_mono1 HFI.out.below HP1.out).size)).mono HB1.out.size)) ho9 HP3.out)
                obtain ⟨a9, c9, rfl⟩ := (sl_of_owns ho9).val
                clear ho9 hb9
                go_wp2
                go_ret2
                exact HFN2.out
  · have HBD := hid (fenc_bad h0 HB1.out)
    rw [errVal_ne h0]
    clear h0
    go_wp2
    go_ret2
    exact HBD.out

def clsAB : CV := ⟨{ data := #[65] }, { data := #[66] }, .slice none 0 0, false, .slice none 0 0, .slice none 0 0, [], [], []⟩
theorem clsAB_ok : clsFault clsAB = 0 := by decide +kernel
theorem clsAB_cb : cb clsAB = [67, 65, 70, 69, 1, 1, 65, 1, 66, 0, 0, 0, 0] := by decide +kernel
theorem clsAB_at (w : World) : CV.At w clsAB :=
  ⟨⟨rfl, none, 0, rfl, Nat.le_refl _, .inl rfl⟩, ⟨rfl, none, 0, rfl, Nat.le_refl _, .inl rfl⟩, ⟨⟨rfl, none, 0, rfl, Nat.le_refl _, .inl rfl⟩, fun m hm => by cases hm⟩⟩
theorem clsAB_small : SmallC clsAB :=
  ⟨by decide, by decide, by decide, (fun x hx => by cases hx), by decide, (fun x hx => by cases hx), by decide, (fun x hx => by cases hx)⟩

set_option maxRecDepth 100000 in
set_option maxHeartbeats 2000000 in
theorem filed_any (w : World) (hf : FormsAt w) (hp : Pow w) : Calls Tryz.prog 6 #[] w fun e w' => e = .returned (.bool true) ∧ Below w.heap.size w w' := by
  have HF := hid hf; have HP := hid hp
  clear hf hp
  go_enter Tryz.func6, Tryz.ntmps6
  go_wp2_with fail
  refine (fencode_any clsAB w (clsAB_at w) HF.out HP.out clsAB_small (fun m hm => by cases hm)).mono ?_
  intro e w2 h2
  unfold FEncBy at h2
  rw [if_pos clsAB_ok, clsAB_cb, show ([67, 65, 70, 69, 1, 1, 65, 1, 66, 0, 0, 0, 0] : List Int).length = 13 from rfl] at h2
  obtain ⟨v2, rfl, ho2⟩ := h2
  have HB2 := hid ho2.below
  have hcs := run_conv_str (P := Tryz.prog) Tryz.underlying27 Tryz.underlying5 Tryz.underlying9 ho2.sl
  rw [show strOfNums [67, 65, 70, 69, 1, 1, 65, 1, 66, 0, 0, 0, 0] = { data := #[67, 65, 70, 69, 1, 1, 65, 1, 66, 0, 0, 0, 0] } from rfl] at hcs
  obtain ⟨a2, c2, hv2⟩ := ho2.sl.val
  subst hv2
  clear ho2
  go_wp2
  go_ret
  exact ⟨rfl, HB2.out⟩
end Go.Proofs.YtnhhaefoilhlhaaGreatDoor.files
