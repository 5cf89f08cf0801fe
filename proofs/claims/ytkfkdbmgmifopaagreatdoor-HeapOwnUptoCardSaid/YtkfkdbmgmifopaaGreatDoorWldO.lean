/- Heaps copied by the law; coffeehousesame.Heap of two heaps that read alike. Condition: they are not great. -/
import Derived.Test.YtkfkdbmgmifopaaGreatDoorWldL
import Derived.Test.YtkfkdbmgmifopaaGreatDoorSameH
import Derived.Test.YtkfkdbmgmifopaaGreatDoorGrowS
import Derived.Test.YtkfkdbmgmifopaaGreatDoorRet
set_option linter.unusedSimpArgs false
set_option linter.unusedVariables false
namespace Go.Proofs.YtkfkdbmgmifopaaGreatDoor.worlds
open Go.RowKit Go.Proofs.YtkfkdbmgmifopaaGreatDoor.lib Go.Proofs.YtkfkdbmgmifopaaGreatDoor.maps Go.Proofs.YtkfkdbmgmifopaaGreatDoor.classes Go.Proofs.YtkfkdbmgmifopaaGreatDoor.errs Go.Proofs.YtkfkdbmgmifopaaGreatDoor.grow

theorem vl_one {l : List Vl} : ∀ u ∈ l.flatMap Vl.cells, u.oneCell' = true := fun u hu => by
  obtain ⟨x, _, hx⟩ := List.mem_flatMap.1 hu
  simp only [Vl.cells, List.mem_cons, List.not_mem_nil, or_false] at hx
  rcases hx with rfl | rfl <;> rfl
set_option maxRecDepth 100000 in
set_option maxHeartbeats 2000000 in
theorem values_any (va : Value) (l : List Vl) (w : World) (h : Vls w va l) (hn : l.length ≤ 2000000) :
    Calls Tryz.prog 10 #[va] w fun e w' => ∃ v, e = .returned v ∧ Out w w' 37 2 v l.length (l.flatMap Vl.cells) := by
  obtain ⟨a, c, rfl⟩ := h.val
  have H := hid h; have HN := hid hn
  have HM := hid (Out.made w 37 2)
  have HS := hid (h.below HM.out.below)
  obtain ⟨W1, hW1⟩ : ∃ W1, w.alloc (.cells #[] 37) = W1 := ⟨_, rfl⟩
  rw [hW1] at HM HS
  clear h hn
  go_enter Tryz.func10, Tryz.ntmps10
  go_wp2_with (at_builtin; refine wpList_append_src w W1 rfl _ _ 26 rfl 37 _ 2 16 l.length Tryz.underlying26 infoVl rfl (by decide) _ _ _ HM.out rfl _ _ HS.out rfl vl_one (by have := HN.out; omega) (by have := HN.out; omega) ?_)
  intro v3 w3 ho3 hg3
  have HO : Hid (Out w w3 37 2 v3 l.length (l.flatMap Vl.cells)) := hid (by simpa using ho3)
  clear ho3 hg3
  obtain ⟨a3, c3, rfl⟩ := HO.out.sl.val
  go_wp2_with fail
  go_ret
  exact ⟨_, rfl, HO.out⟩

set_option maxRecDepth 100000 in
set_option maxHeartbeats 8000000 in
theorem things_any (vt : Value) (H : List Th) (w : World) (hH : Ths w vt H) (hs : SmallH H) (hn : H.length ≤ 1048576) :
    Calls Tryz.prog 9 #[.agg #[vt]] w fun e w' => ∃ v L, e = .returned (.agg #[v]) ∧ OwnTh w w' v L ∧ L.map bare = H.map bare := by
  obtain ⟨ah, ch, rfl⟩ := hH.sl.val
  have HH := hid hH; have HS := hid hs; have HN := hid hn
  obtain ⟨b1, hb1⟩ : ∃ b1, w.heap.size = b1 := ⟨_, rfl⟩
  obtain ⟨w1, hw1⟩ : ∃ w1, w.alloc (.cells #[.slice ah H.length ch] 25) = w1 := ⟨_, rfl⟩
  have HB1 : Hid (Below w.heap.size w w1) := hid (hw1 ▸ ext_alloc _ _)
  have hr1 : w1.heap[b1]? = some (.cells #[.slice ah H.length ch] 25 (0, 0)) := by rw [← hw1, ← hb1]; exact heap_alloc_new _ _
  have hlt1 := (Array.getElem?_eq_some_iff.1 hr1).1
  have HX : Hid (∀ u, Below w1.heap.size w1 u → u.cell? ⟨b1, 0, none⟩ = some (.slice ah H.length ch)) := hid (fun u hu => by
    have h := (hu.block _ hlt1).trans hr1
    rw [cell_of_row _ _ _ _ _ _ h]; rfl)
  obtain ⟨b2, hb2⟩ : ∃ b2, w1.heap.size = b2 := ⟨_, rfl⟩
  obtain ⟨b3, hb3⟩ : ∃ b3, (w1.alloc (.cells #[.slice none 0 0] 25)).heap.size = b3 := ⟨_, rfl⟩
  obtain ⟨W3, hW3⟩ : ∃ W3, (w1.alloc (.cells #[.slice none 0 0] 25)).alloc (.cells #[.slice none 0 0] 25) = W3 := ⟨_, rfl⟩
  have HT0 : Hid (TW w1 W3 b2 b3 (.slice none 0 0) []) := hid (by
    have hb23 : b3 = b2 + 1 := by rw [← hb3, ← hb2, World.size_alloc]
    refine ⟨(OwnTh.nil w1).later ?_, ?_, ?_, by omega, by omega, by omega⟩
    · rw [← hW3]; exact (ext_alloc _ _).trans ((ext_alloc _ _).mono (ext_alloc _ _).size)
    · rw [← hW3, ← hb3]; exact heap_alloc_new _ _
    · rw [← hW3]
      refine ((ext_alloc (w1.alloc (.cells #[.slice none 0 0] 25)) _).block b2 (by rw [hb3]; omega)).trans ?_
      rw [← hb2]; exact heap_alloc_new _ _)
  clear hH hs hr1
  go_enter Tryz.func9, Tryz.ntmps9
  go_wp2_with fail
  go_loopw [4] (fun i wr => ∃ (k : Nat) (v : Value) (L : List Th), k ≤ H.length ∧ i = .int .i64 (k : Int) ∧ Hid (TW w1 wr b2 b3 v L) ∧ Hid (L.map bare = (H.take k).map bare)) (fun i _ => H.length - (intOf i).toNat)
  case atStart => exact ⟨0, _, [], Nat.zero_le _, rfl, HT0, hid rfl⟩
  case round =>
    obtain ⟨k, v, L, hk, rfl, HT, HL⟩ := hrel
    obtain ⟨wb, hwb⟩ : ∃ wb, wb = wr := ⟨_, rfl⟩
    subst hwb
    clear HT0
    have HBW := hid HT.out.own.own.below
    have x0 := HX.out wb HBW.out
    have hk0 : (0 : Int) ≤ (k : Int) := by omega
    by_cases hlt : k < H.length
    · have hk1 : (k : Int) < (H.length : Int) := by omega
      obtain ⟨hb, ho, hab, he0, he1⟩ := th_at (HH.out.below HB1.out) hlt
      subst hab
      have HVX := hid (HH.out.at_ _ (List.getElem_mem hlt))
      have HSX := hid (HS.out _ (List.getElem_mem hlt)).2
      have HLS : Hid ((H.take (k + 1)).map bare = (H.take k).map bare ++ [bare H[k]]) := hid (by rw [List.take_succ_eq_append_getElem hlt, List.map_append]; rfl)
      generalize H[k] = x at he0 he1 HVX HSX HLS
      obtain ⟨ty, vh, has⟩ := x
      simp only at he0 he1 HSX
      obtain ⟨ax, cx, hvh⟩ := HVX.out.val
      simp only at hvh
      subst hvh
      have HLK : Hid (L.length = k) := hid (by
        have := congrArg List.length HL.out
        rw [List.length_map, List.length_map, List.length_take] at this
        omega)
      have HKL : Hid (L.length ≤ 1048576) := hid (by have := HLK.out; have := HN.out; omega)
      obtain ⟨a3, c3, hv3⟩ := HT.out.own.own.sl.val
      rw [HLK.out] at hv3
      subst hv3
      have HTD := hid (HT.out.later (Below.refl _ _).drew)
      obtain ⟨WD, hWD⟩ : ∃ WD, wb.drew = WD := ⟨_, rfl⟩
      rw [hWD] at HTD
      have HEL : Hid (∀ u, Below w1.heap.size w1 u → u.cell? ⟨b1, 0, none⟩ = some (.slice (some ⟨hb, ho, none⟩) H.length ch) ∧ u.cell? ⟨hb, ho + k * 2, none⟩ = some (.string ty) ∧ u.cell? ⟨hb, ho + k * 2 + 1, none⟩ = some (.slice ax has.length cx)) :=
        hid (fun u hu => ⟨HX.out u hu, (hu.cell (World.block_lt_of_cell? _ _ he0)).trans he0, (hu.cell (World.block_lt_of_cell? _ _ he1)).trans he1⟩)
      have HDA : Hid (∀ u, Below WD.heap.size WD u → u.cell? ⟨b3, 0, none⟩ = some (.slice a3 k c3) ∧ u.cell? ⟨b1, 0, none⟩ = some (.slice (some ⟨hb, ho, none⟩) H.length ch) ∧ u.cell? ⟨hb, ho + k * 2, none⟩ = some (.string ty) ∧ u.cell? ⟨hb, ho + k * 2 + 1, none⟩ = some (.slice ax has.length cx)) := hid (fun u hu => ⟨by rw [cell_of_row _ _ _ _ _ _ (HTD.out.later hu).r3]; rfl, HEL.out u (HTD.out.later hu).own.own.below⟩)
      have HD := hid (HDA.out WD (Below.refl _ _))
      have HVX2 : Hid (Vls w (.slice ax has.length cx) has) := hid HVX.out
      clear he0 he1 HVX
      have HVX := hid (HVX2.out.below (HB1.out.trans (HTD.out.own.own.below.mono HB1.out.size)))
      go_wp2_with fail
      refine wp_region_s (fun u => u.cell? ⟨b3, 0, none⟩ = some (.slice a3 k c3) ∧ u.cell? ⟨b1, 0, none⟩ = some (.slice (some ⟨hb, ho, none⟩) H.length ch) ∧ u.cell? ⟨hb, ho + k * 2, none⟩ = some (.string ty) ∧ u.cell? ⟨hb, ho + k * 2 + 1, none⟩ = some (.slice ax has.length cx)) 19 (by kernel_rfl) ?_
      show Go.Proofs.YtkfkdbmgmifopaaGreatDoor.grow.wpAnyS _ _ _ _ _ _ _ _ _ wb.drew
      rw [hWD]
      refine s_calc 0 _ _ rfl (by kernel_rfl) (by kernel_rfl) (by kernel_rfl) (by kernel_rfl) (by decide) rfl (fun c a' w' h => ⟨(putS_defers _ _ _).symm.trans h.1, h.2⟩) (fun _ => HD.out) (fun u => by go_simp; rfl) ?_
      simp only [List.getElem_toArray, List.getElem_cons_zero, List.getElem_cons_succ, Act.put, List.setIfInBounds_toArray, List.set_cons_zero, List.set_cons_succ]
      refine s_take 1 _ _ rfl (by kernel_rfl) (by kernel_rfl) (by kernel_rfl) (by kernel_rfl) (by kernel_rfl) (by decide) rfl (fun c a' w' h => ⟨(putS_defers _ _ _).symm.trans h.1, h.2⟩) (fun _ => HD.out) (fun u hu => by obtain ⟨r0, r1, r2, r3⟩ := hu; go_simp; rfl) ?_
      simp only [List.getElem_toArray, List.getElem_cons_zero, List.getElem_cons_succ, Act.put, List.setIfInBounds_toArray, List.set_cons_zero, List.set_cons_succ]
      refine s_calc 2 _ _ rfl (by kernel_rfl) (by kernel_rfl) (by kernel_rfl) (by kernel_rfl) (by decide) rfl (fun c a' w' h => ⟨(putS_defers _ _ _).symm.trans h.1, h.2⟩) (fun _ => HD.out) (fun u => by go_simp; rfl) ?_
      simp only [List.getElem_toArray, List.getElem_cons_zero, List.getElem_cons_succ, Act.put, List.setIfInBounds_toArray, List.set_cons_zero, List.set_cons_succ]
      refine s_take 3 _ _ rfl (by kernel_rfl) (by kernel_rfl) (by kernel_rfl) (by kernel_rfl) (by kernel_rfl) (by decide) rfl (fun c a' w' h => ⟨(putS_defers _ _ _).symm.trans h.1, h.2⟩) (fun _ => HD.out) (fun u hu => by obtain ⟨r0, r1, r2, r3⟩ := hu; go_simp; rfl) ?_
      simp only [List.getElem_toArray, List.getElem_cons_zero, List.getElem_cons_succ, Act.put, List.setIfInBounds_toArray, List.set_cons_zero, List.set_cons_succ]
      refine s_calc 4 _ _ rfl (by kernel_rfl) (by kernel_rfl) (by kernel_rfl) (by kernel_rfl) (by decide) rfl (fun c a' w' h => ⟨(putS_defers _ _ _).symm.trans h.1, h.2⟩) (fun _ => HD.out) (fun u => by go_simp; rfl) ?_
      simp only [List.getElem_toArray, List.getElem_cons_zero, List.getElem_cons_succ, Act.put, List.setIfInBounds_toArray, List.set_cons_zero, List.set_cons_succ]
      refine s_calc 5 _ _ rfl (by kernel_rfl) (by kernel_rfl) (by kernel_rfl) (by kernel_rfl) (by decide) rfl (fun c a' w' h => ⟨(putS_defers _ _ _).symm.trans h.1, h.2⟩) (fun _ => HD.out) (fun u => by go_simp; rfl) ?_
      simp only [List.getElem_toArray, List.getElem_cons_zero, List.getElem_cons_succ, Act.put, List.setIfInBounds_toArray, List.set_cons_zero, List.set_cons_succ]
      refine s_calc 6 _ _ rfl (by kernel_rfl) (by kernel_rfl) (by kernel_rfl) (by kernel_rfl) (by decide) rfl (fun c a' w' h => ⟨(putS_defers _ _ _).symm.trans h.1, h.2⟩) (fun _ => HD.out) (fun u => by go_simp; rfl) ?_
      simp only [List.getElem_toArray, List.getElem_cons_zero, List.getElem_cons_succ, Act.put, List.setIfInBounds_toArray, List.set_cons_zero, List.set_cons_succ]
      refine s_take 7 _ _ rfl (by kernel_rfl) (by kernel_rfl) (by kernel_rfl) (by kernel_rfl) (by kernel_rfl) (by decide) rfl (fun c a' w' h => ⟨(putS_defers _ _ _).symm.trans h.1, h.2⟩) (fun _ => HD.out) (fun u hu => by obtain ⟨r0, r1, r2, r3⟩ := hu; go_simp; rfl) ?_
      simp only [List.getElem_toArray, List.getElem_cons_zero, List.getElem_cons_succ, Act.put, List.setIfInBounds_toArray, List.set_cons_zero, List.set_cons_succ]
      refine s_calc 8 _ _ rfl (by kernel_rfl) (by kernel_rfl) (by kernel_rfl) (by kernel_rfl) (by decide) rfl (fun c a' w' h => ⟨(putS_defers _ _ _).symm.trans h.1, h.2⟩) (fun _ => HD.out) (fun u => by go_simp; rfl) ?_
      simp only [List.getElem_toArray, List.getElem_cons_zero, List.getElem_cons_succ, Act.put, List.setIfInBounds_toArray, List.set_cons_zero, List.set_cons_succ]
      refine s_take 9 _ _ rfl (by kernel_rfl) (by kernel_rfl) (by kernel_rfl) (by kernel_rfl) (by kernel_rfl) (by decide) rfl (fun c a' w' h => ⟨(putS_defers _ _ _).symm.trans h.1, h.2⟩) (fun _ => HD.out) (fun u hu => by obtain ⟨r0, r1, r2, r3⟩ := hu; go_simp; rfl) ?_
      simp only [List.getElem_toArray, List.getElem_cons_zero, List.getElem_cons_succ, Act.put, List.setIfInBounds_toArray, List.set_cons_zero, List.set_cons_succ]
      refine s_calc 10 _ _ rfl (by kernel_rfl) (by kernel_rfl) (by kernel_rfl) (by kernel_rfl) (by decide) rfl (fun c a' w' h => ⟨(putS_defers _ _ _).symm.trans h.1, h.2⟩) (fun _ => HD.out) (fun u => by go_simp; rfl) ?_
      simp only [List.getElem_toArray, List.getElem_cons_zero, List.getElem_cons_succ, Act.put, List.setIfInBounds_toArray, List.set_cons_zero, List.set_cons_succ]
      refine s_calc 11 _ _ rfl (by kernel_rfl) (by kernel_rfl) (by kernel_rfl) (by kernel_rfl) (by decide) rfl (fun c a' w' h => ⟨(putS_defers _ _ _).symm.trans h.1, h.2⟩) (fun _ => HD.out) (fun u => by go_simp; rfl) ?_
      simp only [List.getElem_toArray, List.getElem_cons_zero, List.getElem_cons_succ, Act.put, List.setIfInBounds_toArray, List.set_cons_zero, List.set_cons_succ]
      refine s_calc 12 _ _ rfl (by kernel_rfl) (by kernel_rfl) (by kernel_rfl) (by kernel_rfl) (by decide) rfl (fun c a' w' h => ⟨(putS_defers _ _ _).symm.trans h.1, h.2⟩) (fun _ => HD.out) (fun u => by go_simp; rfl) ?_
      simp only [List.getElem_toArray, List.getElem_cons_zero, List.getElem_cons_succ, Act.put, List.setIfInBounds_toArray, List.set_cons_zero, List.set_cons_succ]
      refine s_take 13 _ _ rfl (by kernel_rfl) (by kernel_rfl) (by kernel_rfl) (by kernel_rfl) (by kernel_rfl) (by decide) rfl (fun c a' w' h => ⟨(putS_defers _ _ _).symm.trans h.1, h.2⟩) (fun _ => HD.out) (fun u hu => by obtain ⟨r0, r1, r2, r3⟩ := hu; go_simp; rfl) ?_
      simp only [List.getElem_toArray, List.getElem_cons_zero, List.getElem_cons_succ, Act.put, List.setIfInBounds_toArray, List.set_cons_zero, List.set_cons_succ]
      refine s_only 14 _ rfl (by kernel_rfl) ?_
      go_simp
      refine (values_any _ has _ HVX.out (by have := HSX.out; omega)).mono ?_
      rintro e w2 ⟨v2, rfl, ho2⟩
      have HB2 := hid ho2.below
      have HT2 := hid (HTD.out.later ho2.below)
      have HO2 := hid (Out.since HTD.out.own.own.below ho2)
      have HD2 : Hid (w2.cell? ⟨b3, 0, none⟩ = some (.slice a3 k c3) ∧ w2.cell? ⟨b1, 0, none⟩ = some (.slice (some ⟨hb, ho, none⟩) H.length ch) ∧ w2.cell? ⟨hb, ho + k * 2, none⟩ = some (.string ty) ∧ w2.cell? ⟨hb, ho + k * 2 + 1, none⟩ = some (.slice ax has.length cx)) := hid (HDA.out w2 ho2.below)
      obtain ⟨av, cv, hv⟩ := ho2.sl.val
      subst hv
      clear ho2
      refine ⟨fun _ => HD2.out, ?_⟩
      try simp only [List.getElem_toArray, List.getElem_cons_zero, List.getElem_cons_succ, Act.put, List.setIfInBounds_toArray, List.set_cons_zero, List.set_cons_succ]
      refine s_calc 15 _ _ rfl (by kernel_rfl) (by kernel_rfl) (by kernel_rfl) (by kernel_rfl) (by decide) rfl (fun c a' w' h => ⟨(putS_defers _ _ _).symm.trans h.1, h.2⟩) (fun _ => HD2.out) (fun u => by go_simp; rfl) ?_
      simp only [List.getElem_toArray, List.getElem_cons_zero, List.getElem_cons_succ, Act.put, List.setIfInBounds_toArray, List.set_cons_zero, List.set_cons_succ]
      refine s_only 16 _ rfl (by kernel_rfl) ?_
      go_simp
      refine ⟨fun _ => HDA.out _ (HB2.out.alloc HB2.out.size _), ?_⟩
      try simp only [List.getElem_toArray, List.getElem_cons_zero, List.getElem_cons_succ, Act.put, List.setIfInBounds_toArray, List.set_cons_zero, List.set_cons_succ]
      refine s_only 17 _ rfl (by kernel_rfl) ?_
      refine step_append_out w1 w2 _ rfl _ _ 23 rfl 35 (.agg #[.string { data := #[] }, .slice none 0 0]) 2 40 1 Tryz.underlying23 infoTh rfl (by decide) _ _ _ HT2.out.own.own rfl rfl rfl ?_ (by have := HKL.out; omega) (by have := HKL.out; omega) ?_
      · simp [Value.oneCell']
      intro v4 w4 ho4 hg4
      obtain ⟨hc4, hf4, hT4⟩ := HT2.out.step (x := ⟨ty, .slice av has.length cv, has⟩) HO2.out ho4 hg4
      have HT4 := hid hT4
      have HD4 := hid (by exact (⟨hc4, HEL.out w4 ho4.below⟩ : w4.cell? ⟨b3, 0, none⟩ = some (.slice a3 k c3) ∧ w4.cell? ⟨b1, 0, none⟩ = some (.slice (some ⟨hb, ho, none⟩) H.length ch) ∧ w4.cell? ⟨hb, ho + k * 2, none⟩ = some (.string ty) ∧ w4.cell? ⟨hb, ho + k * 2 + 1, none⟩ = some (.slice ax has.length cx)))
      have HF4 := hid hf4
      obtain ⟨a4, c4, rfl⟩ := ho4.sl.val
      clear ho4 hg4 hT4
      refine ⟨fun _ => HD4.out, ?_⟩
      try simp only [List.getElem_toArray, List.getElem_cons_zero, List.getElem_cons_succ, Act.put, List.setIfInBounds_toArray, List.set_cons_zero, List.set_cons_succ]
      refine s_calc 18 _ _ rfl (by kernel_rfl) (by kernel_rfl) (by kernel_rfl) (by kernel_rfl) (by decide) rfl (fun c a' w' h => ⟨(putS_defers _ _ _).symm.trans h.1, h.2⟩) (fun _ => HD4.out) (fun u => by go_simp; rfl) ?_
      simp only [List.getElem_toArray, List.getElem_cons_zero, List.getElem_cons_succ, Act.put, List.setIfInBounds_toArray, List.set_cons_zero, List.set_cons_succ]
      refine s_only 19 _ rfl (by kernel_rfl) ?_
      go_simp
      refine ⟨fun h => absurd h (by decide), ?_⟩
      refine s_end (by kernel_rfl) ?_
      go_wp2_with fail
      go_roundw
      case rel => exact ⟨k + 1, _, _, by omega, by simp, HT4, hid (by rw [List.map_append, HL.out, HLS.out]; rfl)⟩
      case measure => simp [intOf]; omega
    · obtain rfl : k = H.length := by omega
      have HL2 : Hid (L.map bare = H.map bare) := hid (by rw [HL.out, List.take_length])
      obtain ⟨a3, c3, hv3⟩ := HT.out.own.own.sl.val
      subst hv3
      have hq := HT.out.r3
      have hq0 : wb.cell? ⟨b3, 0, none⟩ = some (.slice a3 L.length c3) := by rw [cell_of_row _ _ _ _ _ _ hq]; rfl
      have hq2 : wb.cell? ⟨b2, 0, none⟩ = some (.slice none 0 0) := by rw [cell_of_row _ _ _ _ _ _ HT.out.r2]; rfl
      have hf2 : wb.frozen? ⟨b2, 0, none⟩ = false := frozen_of_row _ _ _ _ _ HT.out.r2
      have HO := hid (HT.out.own.put (x := .slice a3 L.length c3) HT.out.r2 HT.out.le2)
      have HR2 := hid (setCell_row (j := 0) (x := .slice a3 L.length c3) HT.out.r2)
      clear hq hlt
      go_wp2
      try simp only [Exit.inBlock, Exit.then]
      exact bodyPost_ret (results_cell_row rfl _ _ b2 _ _ _ _ rfl HR2.out Tryz.underlying25 rfl (by kernel_rfl)) rfl ⟨_, L, rfl, OwnTh.since HB1.out HO.out, HL2.out⟩
end Go.Proofs.YtkfkdbmgmifopaaGreatDoor.worlds
