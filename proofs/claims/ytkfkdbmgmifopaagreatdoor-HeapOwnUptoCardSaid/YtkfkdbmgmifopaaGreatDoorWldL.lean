/- Heaps: heap.Right, heap.Check. Condition: the texts and lists are not great. -/
import Derived.Test.YtkfkdbmgmifopaaGreatDoorWldJ
import Derived.Test.YtkfkdbmgmifopaaGreatDoorLive1
set_option linter.unusedSimpArgs false
set_option linter.unusedVariables false
namespace Go.Proofs.YtkfkdbmgmifopaaGreatDoor.worlds
open Go.RowKit Go.Proofs.YtkfkdbmgmifopaaGreatDoor.lib Go.Proofs.YtkfkdbmgmifopaaGreatDoor.maps Go.Proofs.YtkfkdbmgmifopaaGreatDoor.classes Go.Proofs.YtkfkdbmgmifopaaGreatDoor.errs Go.Proofs.YtkfkdbmgmifopaaGreatDoor.descs Go.Proofs.YtkfkdbmgmifopaaGreatDoor.names Go.Proofs.YtkfkdbmgmifopaaGreatDoor.grow Go.Proofs.YtkfkdbmgmifopaaGreatDoor.ins

/-- the values of one thing, from the k-th on -/
def valsK (W : WL) (H : List Th) (L : List ByteArray) (V : List Vl) (k : Nat) : Bool := ((L.zip V).drop k).all fun p => doesV W H p.2 p.1.data.toList
theorem valsK_step {W : WL} {H : List Th} {L : List ByteArray} {V : List Vl} {k : Nat} (h1 : k < L.length) (h2 : k < V.length) : valsK W H L V k = (doesV W H V[k] L[k].data.toList && valsK W H L V (k + 1)) := by
  unfold valsK
  rw [List.drop_eq_getElem_cons (by rw [List.length_zip]; omega), List.all_cons, List.getElem_zip]
theorem valsK_end {W : WL} {H : List Th} {L : List ByteArray} {V : List Vl} {k : Nat} (h : L.length ≤ k) : valsK W H L V k = true := by
  unfold valsK
  rw [List.drop_eq_nil_of_le (by rw [List.length_zip]; omega)]
  rfl
theorem form_ty {W : WL} {x : Th} (h : formF W x = 0) : isTy x.ty.data.toList = true := by
  cases ht : isTy x.ty.data.toList with
  | true => rfl
  | false =>
    unfold formF at h
    rw [if_pos (.inl ht)] at h
    cases h

theorem firstBad_all {T : Type} {f : T → List T → Int} : ∀ {l a : List T}, firstBad f a l = 0 → ∀ x ∈ l, ∃ b, f x b = 0
  | [], _, _, _, h => absurd h (List.not_mem_nil)
  | y :: r, a, h, x, hx => by
    unfold firstBad at h
    by_cases h0 : f y a = 0
    · rw [if_pos h0] at h
      rcases List.mem_cons.1 hx with rfl | hx
      · exact ⟨a, h0⟩
      · exact firstBad_all h x hx
    · rw [if_neg h0] at h; exact absurd h h0
theorem fld_ty {c : CV} (h : clsFault c = 0) : ∀ f ∈ c.fields, isTy f.ty.data.toList = true := by
  unfold clsFault at h
  by_cases a1 : headBad c = true
  · rw [if_pos a1] at h; cases h
  rw [if_neg a1] at h
  by_cases a2 : firstBad faceFault [] c.faces ≠ 0
  · rw [if_pos a2] at h; exact absurd h a2
  rw [if_neg a2] at h
  by_cases a3 : 8 < c.faces.length ∨ 8 < c.fields.length ∨ 8 < c.mets.length
  · rw [if_pos a3] at h; cases h
  rw [if_neg a3] at h
  by_cases a4 : firstBad fieldFault [] c.fields ≠ 0
  · rw [if_pos a4] at h; exact absurd h a4
  have a4' := Classical.not_not.1 a4
  intro f hf
  obtain ⟨b, hb⟩ := firstBad_all a4' f hf
  cases ht : isTy f.ty.data.toList with
  | true => rfl
  | false =>
    unfold fieldFault at hb
    rw [ht] at hb
    split at hb <;> simp at hb
theorem good_ty {W : WL} (h : GoodW W) (n : ByteArray) : ∀ f ∈ (cAt W n).fields, isTy f.ty.data.toList = true := by
  unfold cAt
  cases hg : getK W n with
  | none => intro f hf; simp [zeroC] at hf
  | some c =>
    rcases (h.cls n c hg).2 with ⟨_, rfl⟩ | ⟨_, rfl⟩ | hc
    · intro f hf; simp [objC, zeroC] at hf
    · intro f hf; simp [fltC, zeroC] at hf
    · exact fld_ty hc
theorem types_ty {W : WL} (h : GoodW W) {t : List UInt8} {m : Nat} (ht : isTy t = true) : ∀ e ∈ typesT W t m, isTy e.data.toList = true := by
  have hl : ∀ n, ∀ e ∈ layOf W n, isTy e.data.toList = true := fun n e he => by
    unfold layOf slotsOf at he
    obtain ⟨f, hf, rfl⟩ := List.mem_map.1 he
    obtain ⟨c, _, hc⟩ := List.mem_flatMap.1 hf
    exact good_ty h c f hc
  cases t with
  | nil => exact hl _
  | cons x e0 =>
    show ∀ e ∈ (if x = 91 then List.replicate m (bs e0) else layOf W (classN (x :: e0))), isTy e.data.toList = true
    by_cases hx : x = 91
    · rw [if_pos hx]
      subst hx
      intro e he
      rw [(List.mem_replicate.1 he).2]
      exact ty_tail ht
    · rw [if_neg hx]; exact hl _

set_option maxRecDepth 100000 in
set_option maxHeartbeats 8000000 in
theorem hright_any (W : WL) (b : Nat) (vt : Value) (H : List Th) (w : World) (hW : Wd w b W) (hH : Ths w vt H) (hs : ∀ x ∈ H, x.ty.size ≤ 1048576 ∧ x.has.length ≤ 1048576) (hn : H.length ≤ 1048576) :
    Calls Tryz.prog 44 #[.map (some b), .agg #[vt]] w fun e w' => e = .returned (errVal (rightF W H)) ∧ Below w.heap.size w w' := by
  obtain ⟨ah, ch, rfl⟩ := hH.sl.val
  have HW := hid hW; have HH := hid hH; have HS := hid hs; have HN := hid hn
  obtain ⟨W1, hW1⟩ : ∃ W1, w.alloc (.cells #[.slice ah H.length ch] 25) = W1 := ⟨_, rfl⟩
  have HB1 : Hid (Below w.heap.size w W1) := hid (hW1 ▸ ext_alloc _ _)
  have hlt1 : w.heap.size < W1.heap.size := by rw [← hW1]; simp
  have hr1 : W1.heap[w.heap.size]? = some (.cells #[.slice ah H.length ch] 25 (0, 0)) := hW1 ▸ heap_alloc_new _ _
  have HX : Hid (∀ u, Below W1.heap.size W1 u → u.cell? ⟨w.heap.size, 0, none⟩ = some (.slice ah H.length ch)) := hid (fun u hu => by
    have h := (hu.block _ hlt1).trans hr1
    rw [cell_of_row _ _ _ _ _ _ h]; rfl)
  have x0 := HX.out _ (Below.refl _ _)
  clear hW hH hs hr1
  by_cases h50 : 50 < H.length
  · have HZ : Hid (rightF W H = 4) := hid (by unfold rightF; rw [if_pos h50])
    have h51 : (50 : Int) < (H.length : Int) := by omega
    go_enter Tryz.func44, Tryz.ntmps44
    go_wp2
    go_ret
    exact ⟨by rw [HZ.out]; rfl, HB1.out⟩
  have h51 : ¬ (50 : Int) < (H.length : Int) := by omega
  have HR : Hid (rightF W H = if firstF (formF W) H ≠ 0 then firstF (formF W) H else firstF (valsF W H) H) := hid (by unfold rightF; rw [if_neg h50])
  clear h50
  go_enter Tryz.func44, Tryz.ntmps44
  go_wp2
  go_loopw [20] (fun v wr => ∃ k : Nat, k ≤ H.length ∧ v = .int .i64 (k : Int) ∧ Hid (Below W1.heap.size W1 wr) ∧ Hid (firstF (formF W) (H.drop k) = firstF (formF W) H)) (fun v _ => H.length - (intOf v).toNat)
  case atStart => exact ⟨0, Nat.zero_le _, rfl, hid (Below.refl _ _), hid rfl⟩
  case round =>
    obtain ⟨k, hk, rfl, HBv, HFF⟩ := hrel
    obtain ⟨wb, hwb⟩ : ∃ wb, wb = wr := ⟨_, rfl⟩
    subst hwb
    have HBw := hid (HB1.out.trans (HBv.out.mono HB1.out.size))
    have x0 := HX.out _ HBv.out
    by_cases hlt : k < H.length
    · have hk0 : (0 : Int) ≤ (k : Int) := by omega
      have hk1 : (k : Int) < (H.length : Int) := by omega
      obtain ⟨bb, off, hab, hd0, hd1⟩ := th_at (HH.out.below HBw.out) hlt
      subst hab
      have HVX := hid (HH.out.at_ _ (List.getElem_mem hlt))
      have HSX := hid (HS.out _ (List.getElem_mem hlt))
      have HY := hid (fun h => ff_no (f := formF W) hlt h)
      have HNX := hid (fun h => ff_ok (f := formF W) hlt h)
      generalize H[k] = x at hd0 hd1 HVX HSX HY HNX
      obtain ⟨ty, vh, has⟩ := x
      simp only at hd0 hd1
      obtain ⟨a1, c1, hvh⟩ := HVX.out.val
      simp only at hvh
      subst hvh
      obtain ⟨W3, hW3⟩ : ∃ W3, wb.alloc (.cells #[.string ty, .slice a1 has.length c1] 35) = W3 := ⟨_, rfl⟩
      have HBa : Hid (Below wb.heap.size wb W3) := hid (hW3 ▸ ext_alloc _ _)
      have HB3 := hid (HBw.out.trans (HBa.out.mono HBw.out.size))
      have hr3 : W3.heap[wb.heap.size]? = some (.cells #[.string ty, .slice a1 has.length c1] 35 (0, 0)) := hW3 ▸ heap_alloc_new _ _
      have y0 : W3.cell? ⟨wb.heap.size, 0, none⟩ = some (.string ty) := by rw [cell_of_row _ _ _ _ _ _ hr3]; rfl
      have y1 : W3.cell? ⟨wb.heap.size, 1, none⟩ = some (.slice a1 has.length c1) := by rw [cell_of_row _ _ _ _ _ _ hr3]; rfl
      clear hr3
      go_wp2_with fail
      refine (formed_any W b ⟨ty, .slice a1 has.length c1, has⟩ W3 (HW.out.below HB3.out) (HVX.out.below HB3.out) (by have := HSX.out.1; simp only at this ⊢; omega) (by have := HSX.out.2; simp only at this ⊢; omega)).mono ?_
      rintro e w4 ⟨rfl, hb4⟩
      have HV4 := hid (HBv.out.trans ((HBa.out.trans (hb4.mono HBa.out.size)).mono HBv.out.size))
      have HB4 := hid (HB1.out.trans (HV4.out.mono HB1.out.size))
      clear hb4
      obtain ⟨z, hz⟩ : ∃ z, formF W ⟨ty, .slice a1 has.length c1, has⟩ = z := ⟨_, rfl⟩
      rw [hz] at HY HNX ⊢
      clear hz
      by_cases h0 : z = 0
      · have HN2 := hid ((HNX.out h0).symm.trans HFF.out)
        rw [show errVal z = .nilIface from by unfold errVal; rw [if_pos h0]]
        clear h0
        go_wp2_with fail
        go_roundw
        case rel => exact ⟨k + 1, by omega, by simp, HV4, HN2⟩
        case measure => simp [intOf]; omega
      · have HE : Hid (rightF W H = z) := hid (by
          have e : firstF (formF W) H = z := by rw [← HFF.out, HY.out h0]
          rw [HR.out, e, if_pos h0])
        have HEV : Hid (errVal z = .iface 45 (.int .i64 z)) := hid (by unfold errVal; rw [if_neg h0])
        rw [HEV.out]
        clear h0
        go_wp2
        go_ret
        exact ⟨by rw [HE.out, HEV.out]; rfl, HB4.out⟩
    · obtain rfl : k = H.length := by omega
      have HJ : Hid (firstF (formF W) H = 0) := hid (by rw [← HFF.out, ff_end hlt])
      have HR2 : Hid (rightF W H = firstF (valsF W H) H) := hid (by rw [HR.out, HJ.out, if_neg (by decide)])
      have HTY : Hid (∀ x ∈ H, isTy x.ty.data.toList = true) := hid (fun x hx => form_ty (ff_all.1 HJ.out x hx))
      have HBc := hid HBv.out
      clear hlt HFF HBv
      go_wp2
      go_loopw [34] (fun v wr => ∃ k : Nat, k ≤ H.length ∧ v = .int .i64 (k : Int) ∧ Hid (Below W1.heap.size W1 wr) ∧ Hid (firstF (valsF W H) (H.drop k) = firstF (valsF W H) H)) (fun v _ => H.length - (intOf v).toNat)
      case atStart => exact ⟨0, Nat.zero_le _, rfl, HBc, hid rfl⟩
      case round =>
        clear x0
        obtain ⟨k, hk, rfl, HBv, HFF⟩ := hrel
        obtain ⟨wd, hwd⟩ : ∃ wd, wd = wr := ⟨_, rfl⟩
        subst hwd
        have HBw := hid (HB1.out.trans (HBv.out.mono HB1.out.size))
        have x0 := HX.out _ HBv.out
        by_cases hlt : k < H.length
        · have hk0 : (0 : Int) ≤ (k : Int) := by omega
          have hk1 : (k : Int) < (H.length : Int) := by omega
          obtain ⟨bb, off, hab, hd0, hd1⟩ := th_at (HH.out.below HBw.out) hlt
          subst hab
          have HVX := hid (HH.out.at_ _ (List.getElem_mem hlt))
          have HSX := hid (HS.out _ (List.getElem_mem hlt))
          have HTX := hid (HTY.out _ (List.getElem_mem hlt))
          have HLX := hid (form_len (ff_all.1 HJ.out _ (List.getElem_mem hlt)))
          have HRX := hid (ff_all.1 HJ.out _ (List.getElem_mem hlt))
          have HY := hid (fun h => ff_no (f := valsF W H) hlt h)
          have HNX := hid (fun h => ff_ok (f := valsF W H) hlt h)
          generalize H[k] = x at hd0 hd1 HVX HSX HY HNX HTX HLX HRX
          obtain ⟨ty, vh, has⟩ := x
          simp only at hd0 hd1
          obtain ⟨a1, c1, hvh⟩ := HVX.out.val
          simp only at hvh
          subst hvh
          obtain ⟨W3, hW3⟩ : ∃ W3, wd.alloc (.cells #[.string ty, .slice a1 has.length c1] 35) = W3 := ⟨_, rfl⟩
          have HBa : Hid (Below wd.heap.size wd W3) := hid (hW3 ▸ ext_alloc _ _)
          have HV3 := hid (HBv.out.trans (HBa.out.mono HBv.out.size))
          have HB3 := hid (HBw.out.trans (HBa.out.mono HBw.out.size))
          have hlt3 : wd.heap.size < W3.heap.size := by rw [← hW3]; simp
          have hr3 : W3.heap[wd.heap.size]? = some (.cells #[.string ty, .slice a1 has.length c1] 35 (0, 0)) := hW3 ▸ heap_alloc_new _ _
          have HX3 : Hid (∀ u, Below W3.heap.size W3 u → u.cell? ⟨wd.heap.size, 0, none⟩ = some (.string ty) ∧ u.cell? ⟨wd.heap.size, 1, none⟩ = some (.slice a1 has.length c1)) := hid (fun u hu => by
            have h := (hu.block _ hlt3).trans hr3
            refine ⟨?_, ?_⟩ <;> (rw [cell_of_row _ _ _ _ _ _ h]; rfl))
          obtain ⟨y0, y1⟩ := HX3.out _ (Below.refl _ _)
          clear hr3
          go_wp2_with fail
          refine (htypes_any W b ⟨ty, .slice a1 has.length c1, has⟩ W3 (HW.out.below HB3.out) (HVX.out.below HB3.out) HTX.out (by have := HSX.out.2; simp only at this ⊢; omega)).mono ?_
          rintro e w4 ⟨v4, rfl, hs4, hb4⟩
          have H34 := hid hb4
          have HV4 := hid (HV3.out.trans (hb4.mono HV3.out.size))
          have HB4 := hid (HB1.out.trans (HV4.out.mono HB1.out.size))
          clear hb4
          simp only at hs4
          have HLX2 : Hid ((typesT W ty.data.toList has.length).length = has.length) := hid HLX.out
          have HTT : Hid (∀ t ∈ typesT W ty.data.toList has.length, isTy t.data.toList = true) := hid (types_ty HW.out.good HTX.out)
          have HVF : Hid (valsF W H ⟨ty, .slice a1 has.length c1, has⟩ = if valsK W H (typesT W ty.data.toList has.length) has 0 = true then 0 else 7) := hid rfl
          obtain ⟨L, hL⟩ : ∃ L, typesT W ty.data.toList has.length = L := ⟨_, rfl⟩
          rw [hL] at hs4 HLX2 HTT HVF
          have HS4 := hid hs4
          obtain ⟨a4, c4, rfl⟩ := hs4.val
          obtain ⟨m, hm⟩ : ∃ m, L.length = m := ⟨_, rfl⟩
          have HM := hid hm
          have HHM : Hid (has.length = m) := hid (by rw [← HLX2.out, hm])
          have hmb : m ≤ 1048576 := by have h1 := HSX.out.2; have h2 := HHM.out; omega
          rw [hm]
          clear hs4 hL hm
          go_wp2
          go_loopw [42] (fun v wr => ∃ j : Nat, j ≤ m ∧ v = .int .i64 (j : Int) ∧ Hid (Below w4.heap.size w4 wr) ∧ Hid (valsK W H L has j = valsK W H L has 0)) (fun v _ => m - (intOf v).toNat)
          case atStart => exact ⟨0, Nat.zero_le _, rfl, hid (Below.refl _ _), hid rfl⟩
          case round =>
            obtain ⟨j, hj, rfl, HBx, HVK⟩ := hrel
            obtain ⟨we, hwe⟩ : ∃ we, we = wr := ⟨_, rfl⟩
            subst hwe
            have HVx := hid (HV4.out.trans (HBx.out.mono HV4.out.size))
            have HBy := hid (HB1.out.trans (HVx.out.mono HB1.out.size))
            have HZx := hid (H34.out.trans (HBx.out.mono H34.out.size))
            by_cases hjl : j < m
            · have hj0 : (0 : Int) ≤ (j : Int) := by omega
              have hj1 : (j : Int) < (m : Int) := by omega
              have hjL : j < L.length := by rw [HM.out]; exact hjl
              have hjV : j < has.length := by rw [HHM.out]; exact hjl
              have HJL := hid hj0; have HJM := hid hj1
              obtain ⟨bt, ot, hat, hct⟩ := text_at (HS4.out.below HBx.out) hjL
              cases hat
              obtain ⟨bv, ov, hav, hcv0, hcv1⟩ := vl_at (HVX.out.below HBy.out) hjV
              cases hav
              have HVB : Hid (∀ u, Below we.heap.size we u → u.cell? ⟨bv, ov + j * 2, none⟩ = some (.int .i64 has[j].k) ∧ u.cell? ⟨bv, ov + j * 2 + 1, none⟩ = some (.int .i64 has[j].n)) := hid (fun u hu => ⟨(hu.cell (World.block_lt_of_cell? _ _ hcv0)).trans hcv0, (hu.cell (World.block_lt_of_cell? _ _ hcv1)).trans hcv1⟩)
              have HST := hid (valsK_step (W := W) (H := H) hjL hjV)
              have HTJ := hid (HTT.out _ (List.getElem_mem hjL))
              have HHL := hid hjV
              clear hcv0 hcv1
              generalize L[j] = t at hct HST HTJ
              generalize has[j] = v at HVB HST
              obtain ⟨vk, vn⟩ := v
              simp only at HVB
              have HD := hid (fun u hu => hdoes_any W b _ H vk vn t u (HW.out.below (HBy.out.trans (Below.mono hu HBy.out.size))) (HH.out.below (HBy.out.trans (Below.mono hu HBy.out.size))) HTY.out HTJ.out HN.out)
              obtain ⟨r, hr⟩ : ∃ r, doesV W H ⟨vk, vn⟩ t.data.toList = r := ⟨_, rfl⟩
              rw [hr] at HD HST
              clear hr
              have hjh : (j : Int) < (has.length : Int) := by omega
              go_wp2_with fail
              cases r with
              | false =>
                have HE : Hid (firstF (valsF W H) H = 7) := hid (by
                  have e : valsK W H L has 0 = false := by rw [← HVK.out, HST.out]; rfl
                  have e2 : valsF W H ⟨ty, .slice (some ⟨bv, ov, none⟩) has.length c1, has⟩ = 7 := by rw [HVF.out, e]; rfl
                  rw [← HFF.out, HY.out (by rw [e2]; decide), e2])
                refine wp_region_ext [(8, is (.bool false))] ⟨is_stays _, trivial⟩ (by kernel_rfl) (by kernel_rfl) ?_
                refine wpG_calc 1 rfl rfl rfl (fun u => by go_simp; rfl) ?_
                simp only [Act.put, List.setIfInBounds_toArray, List.set_cons_zero, List.set_cons_succ]
                refine wpG_read 2 rfl rfl (.agg #[.slice (some ⟨bb, off, none⟩) H.length ch]) rfl ?_ ?_
                · intro u hu hh
                  have y0 := HX.out u (HVx.out.trans (hu.mono HVx.out.size))
                  go_simp
                simp only [Act.put, List.setIfInBounds_toArray, List.set_cons_zero, List.set_cons_succ]
                refine wpG_calc 3 rfl rfl rfl (fun u => by go_simp; rfl) ?_
                simp only [Act.put, List.setIfInBounds_toArray, List.set_cons_zero, List.set_cons_succ]
                refine wpG_read 4 rfl rfl (.slice (some ⟨bv, ov, none⟩) has.length c1) rfl ?_ ?_
                · intro u hu hh
                  obtain ⟨y0, y1⟩ := HX3.out u (HZx.out.trans (hu.mono HZx.out.size))
                  go_simp
                simp only [Act.put, List.setIfInBounds_toArray, List.set_cons_zero, List.set_cons_succ]
                refine wpG_calc 5 rfl rfl rfl (fun u => by go_simp; rfl) ?_
                simp only [Act.put, List.setIfInBounds_toArray, List.set_cons_zero, List.set_cons_succ]
                refine wpG_calc 6 rfl rfl rfl (fun u => by go_simp; rfl) ?_
                simp only [Act.put, List.setIfInBounds_toArray, List.set_cons_zero, List.set_cons_succ]
                refine wpG_read 7 rfl rfl (.agg #[.int .i64 vk, .int .i64 vn]) rfl ?_ ?_
                · intro u hu hh
                  obtain ⟨y0, y1⟩ := HVB.out u hu
                  go_simp
                simp only [Act.put, List.setIfInBounds_toArray, List.set_cons_zero, List.set_cons_succ]
                refine wpG_calc 8 rfl rfl rfl (fun u => by go_simp; rfl) ?_
                simp only [Act.put, List.setIfInBounds_toArray, List.set_cons_zero, List.set_cons_succ]
                refine wpG_rel 9 rfl rfl rfl ?_ ?_
                · intro u hu hh
                  go_simp
                  refine (HD.out u hu).mono ?_
                  rintro e w2 ⟨rfl, hb2⟩
                  exact ⟨_, rfl, rfl, hb2⟩
                intro vC ⟨uC, _, hrC⟩
                obtain rfl : vC = .bool false := hrC
                simp only [Act.put, List.setIfInBounds_toArray, List.set_cons_zero, List.set_cons_succ]
                refine wpG_calc 10 rfl rfl rfl (fun u => by go_simp; rfl) ?_
                simp only [Act.put, List.setIfInBounds_toArray, List.set_cons_zero, List.set_cons_succ]
                refine wpG_nil fun w' hb' hF => ?_
                clear hF
                have HVf := hid (HVx.out.trans (hb'.mono HVx.out.size))
                have HBf := hid (HBx.out.trans (hb'.mono HBx.out.size))
                have HBg := hid (HB1.out.trans (HVf.out.mono HB1.out.size))
                clear hb'
                go_wp2
                go_ret
                exact ⟨by rw [HR2.out, HE.out]; rfl, HBg.out⟩
              | true =>
                have HVK2 : Hid (valsK W H L has (j + 1) = valsK W H L has 0) := hid (by rw [← HVK.out, HST.out]; rfl)
                refine wp_region_ext [(8, is (.bool true))] ⟨is_stays _, trivial⟩ (by kernel_rfl) (by kernel_rfl) ?_
                refine wpG_calc 1 rfl rfl rfl (fun u => by go_simp; rfl) ?_
                simp only [Act.put, List.setIfInBounds_toArray, List.set_cons_zero, List.set_cons_succ]
                refine wpG_read 2 rfl rfl (.agg #[.slice (some ⟨bb, off, none⟩) H.length ch]) rfl ?_ ?_
                · intro u hu hh
                  have y0 := HX.out u (HVx.out.trans (hu.mono HVx.out.size))
                  go_simp
                simp only [Act.put, List.setIfInBounds_toArray, List.set_cons_zero, List.set_cons_succ]
                refine wpG_calc 3 rfl rfl rfl (fun u => by go_simp; rfl) ?_
                simp only [Act.put, List.setIfInBounds_toArray, List.set_cons_zero, List.set_cons_succ]
                refine wpG_read 4 rfl rfl (.slice (some ⟨bv, ov, none⟩) has.length c1) rfl ?_ ?_
                · intro u hu hh
                  obtain ⟨y0, y1⟩ := HX3.out u (HZx.out.trans (hu.mono HZx.out.size))
                  go_simp
                simp only [Act.put, List.setIfInBounds_toArray, List.set_cons_zero, List.set_cons_succ]
                refine wpG_calc 5 rfl rfl rfl (fun u => by go_simp; rfl) ?_
                simp only [Act.put, List.setIfInBounds_toArray, List.set_cons_zero, List.set_cons_succ]
                refine wpG_calc 6 rfl rfl rfl (fun u => by go_simp; rfl) ?_
                simp only [Act.put, List.setIfInBounds_toArray, List.set_cons_zero, List.set_cons_succ]
                refine wpG_read 7 rfl rfl (.agg #[.int .i64 vk, .int .i64 vn]) rfl ?_ ?_
                · intro u hu hh
                  obtain ⟨y0, y1⟩ := HVB.out u hu
                  go_simp
                simp only [Act.put, List.setIfInBounds_toArray, List.set_cons_zero, List.set_cons_succ]
                refine wpG_calc 8 rfl rfl rfl (fun u => by go_simp; rfl) ?_
                simp only [Act.put, List.setIfInBounds_toArray, List.set_cons_zero, List.set_cons_succ]
                refine wpG_rel 9 rfl rfl rfl ?_ ?_
                · intro u hu hh
                  go_simp
                  refine (HD.out u hu).mono ?_
                  rintro e w2 ⟨rfl, hb2⟩
                  exact ⟨_, rfl, rfl, hb2⟩
                intro vC ⟨uC, _, hrC⟩
                obtain rfl : vC = .bool true := hrC
                simp only [Act.put, List.setIfInBounds_toArray, List.set_cons_zero, List.set_cons_succ]
                refine wpG_calc 10 rfl rfl rfl (fun u => by go_simp; rfl) ?_
                simp only [Act.put, List.setIfInBounds_toArray, List.set_cons_zero, List.set_cons_succ]
                refine wpG_nil fun w' hb' hF => ?_
                clear hF
                have HVf := hid (HVx.out.trans (hb'.mono HVx.out.size))
                have HBf := hid (HBx.out.trans (hb'.mono HBx.out.size))
                have HBg := hid (HB1.out.trans (HVf.out.mono HB1.out.size))
                clear hb'
                go_wp2_with fail
                go_roundw
                case rel => exact ⟨j + 1, by omega, by simp, HBf, HVK2⟩
                case measure => simp [intOf]; omega
            · obtain rfl : j = m := by omega
              have HE : Hid (valsF W H ⟨ty, .slice a1 has.length c1, has⟩ = 0) := hid (by rw [HVF.out, ← HVK.out, valsK_end (by rw [HM.out]; exact Nat.le_refl _)]; rfl)
              have HN2 := hid ((HNX.out HE.out).symm.trans HFF.out)
              go_wp2_with fail
              go_roundw
              case rel => exact ⟨k + 1, by omega, by simp, HVx, HN2⟩
              case measure => simp [intOf]; omega
        · obtain rfl : k = H.length := by omega
          have HJ2 : Hid (firstF (valsF W H) H = 0) := hid (by rw [← HFF.out, ff_end hlt])
          clear hlt HFF
          go_wp2
          go_ret
          exact ⟨by rw [HR2.out, HJ2.out]; rfl, HBw.out⟩
end Go.Proofs.YtkfkdbmgmifopaaGreatDoor.worlds

/- Heaps and roots: heap.read, heap.Check, sweep.read. Condition: the texts and lists are not great. -/
set_option linter.unusedSimpArgs false
set_option linter.unusedVariables false
namespace Go.Proofs.YtkfkdbmgmifopaaGreatDoor.worlds
open Go.RowKit Go.Proofs.YtkfkdbmgmifopaaGreatDoor.lib Go.Proofs.YtkfkdbmgmifopaaGreatDoor.maps Go.Proofs.YtkfkdbmgmifopaaGreatDoor.classes Go.Proofs.YtkfkdbmgmifopaaGreatDoor.errs Go.Proofs.YtkfkdbmgmifopaaGreatDoor.descs Go.Proofs.YtkfkdbmgmifopaaGreatDoor.names Go.Proofs.YtkfkdbmgmifopaaGreatDoor.grow Go.Proofs.YtkfkdbmgmifopaaGreatDoor.ins

/-- what heap.read answers -/
def HReadBy (w : World) (l : List CV) (H : List Th) (e : Ending) (w' : World) : Prop :=
  Below w.heap.size w w' ∧ (if (readW l).1 = 0 then ∃ b, e = .returned (.tuple #[.map (some b), errVal (rightF (readW l).2 H)]) ∧ Wd w' b (readW l).2 else e = .returned (.tuple #[.map none, errVal (readW l).1]))
abbrev SmallH (H : List Th) : Prop := ∀ x ∈ H, x.ty.size ≤ 1048576 ∧ x.has.length ≤ 1048576

set_option maxRecDepth 100000 in
set_option maxHeartbeats 8000000 in
theorem hread_any (va vt : Value) (l : List CV) (H : List Th) (w : World) (hl : Clss w va l) (hf : FormsAt w) (hsm : ∀ c ∈ l, SmallC c) (hn : l.length ≤ 1048576) (hH : Ths w vt H) (hs : SmallH H) (hm : H.length ≤ 1048576) :
    Calls Tryz.prog 29 #[va, .agg #[vt]] w (HReadBy w l H) := by
  obtain ⟨ah, ch, rfl⟩ := hH.sl.val
  obtain ⟨al, cl, rfl⟩ := hl.val
  obtain ⟨W1, hW1⟩ : ∃ W1, w.alloc (.cells #[.slice ah H.length ch] 25) = W1 := ⟨_, rfl⟩
  have HB1 : Hid (Below w.heap.size w W1) := hid (hW1 ▸ ext_alloc _ _)
  have hlt1 : w.heap.size < W1.heap.size := by rw [← hW1]; simp
  have hr1 : W1.heap[w.heap.size]? = some (.cells #[.slice ah H.length ch] 25 (0, 0)) := hW1 ▸ heap_alloc_new _ _
  have HX : Hid (∀ u, Below W1.heap.size W1 u → u.cell? ⟨w.heap.size, 0, none⟩ = some (.slice ah H.length ch)) := hid (fun u hu => by
    have h := (hu.block _ hlt1).trans hr1
    rw [cell_of_row _ _ _ _ _ _ h]; rfl)
  have x0 := HX.out _ (Below.refl _ _)
  have HRD := hid (readwd_any _ l W1 (hl.below HB1.out) (hf.below HB1.out) hsm hn)
  unfold ReadWd at HRD
  have HH := hid hH; have HS := hid hs; have HM := hid hm
  clear hl hf hsm hn hH hs hm hr1
  go_enter Tryz.func29, Tryz.ntmps29
  go_wp2_with fail
  refine HRD.out.mono ?_
  rintro e w2 ⟨hb2, h2⟩
  have H12 := hid hb2
  have HB2 := hid (HB1.out.trans (hb2.mono HB1.out.size))
  have x0 := HX.out _ hb2
  clear hb2
  by_cases h0 : (readW l).1 = 0
  · rw [if_pos h0] at h2
    obtain ⟨rfl, hw2⟩ := h2
    have HW2 := hid hw2; have H0 := hid h0
    clear hw2 h0
    go_wp2_with fail
    refine (hright_any (readW l).2 _ (.slice ah H.length ch) H w2 HW2.out (HH.out.below HB2.out) HS.out HM.out).mono ?_
    rintro e w3 ⟨rfl, hb3⟩
    have HB3 := hid (HB2.out.trans (hb3.mono HB2.out.size))
    have HW3 := hid (HW2.out.below hb3)
    clear hb3
    obtain ⟨z, hz⟩ : ∃ z, errVal (rightF (readW l).2 H) = z := ⟨_, rfl⟩
    have HZ := hid hz
    rw [hz]
    clear hz
    go_wp2
    go_ret2
    exact ⟨HB3.out, by rw [if_pos H0.out, HZ.out]; exact ⟨_, rfl, HW3.out⟩⟩
  · rw [if_neg h0] at h2
    subst h2
    have H0 := hid h0
    have HEV : Hid (errVal (readW l).1 = .iface 45 (.int .i64 (readW l).1)) := hid (by unfold errVal; rw [if_neg h0])
    rw [HEV.out]
    clear h0
    go_wp2
    go_ret2
    exact ⟨HB2.out, by rw [if_neg H0.out, HEV.out]; rfl⟩

set_option maxRecDepth 100000 in
set_option maxHeartbeats 8000000 in
theorem hcheck_any (va vt : Value) (l : List CV) (H : List Th) (w : World) (hl : Clss w va l) (hf : FormsAt w) (hsm : ∀ c ∈ l, SmallC c) (hn : l.length ≤ 1048576) (hH : Ths w vt H) (hs : SmallH H) (hm : H.length ≤ 1048576) :
    Calls Tryz.prog 24 #[va, .agg #[vt]] w fun e w' => e = .returned (errVal (heapF l H)) ∧ Below w.heap.size w w' := by
  obtain ⟨ah, ch, rfl⟩ := hH.sl.val
  obtain ⟨al, cl, rfl⟩ := hl.val
  obtain ⟨W1, hW1⟩ : ∃ W1, w.alloc (.cells #[.slice ah H.length ch] 25) = W1 := ⟨_, rfl⟩
  have HB1 : Hid (Below w.heap.size w W1) := hid (hW1 ▸ ext_alloc _ _)
  have hlt1 : w.heap.size < W1.heap.size := by rw [← hW1]; simp
  have hr1 : W1.heap[w.heap.size]? = some (.cells #[.slice ah H.length ch] 25 (0, 0)) := hW1 ▸ heap_alloc_new _ _
  have x0 : W1.cell? ⟨w.heap.size, 0, none⟩ = some (.slice ah H.length ch) := by rw [cell_of_row _ _ _ _ _ _ hr1]; rfl
  have HRD := hid (hread_any _ _ l H W1 (hl.below HB1.out) (hf.below HB1.out) hsm hn (hH.below HB1.out) hs hm)
  unfold HReadBy at HRD
  clear hl hf hsm hn hH hs hm hr1
  go_enter Tryz.func24, Tryz.ntmps24
  go_wp2_with fail
  refine HRD.out.mono ?_
  rintro e w2 ⟨hb2, h2⟩
  have HB2 := hid (HB1.out.trans (hb2.mono HB1.out.size))
  clear hb2
  by_cases h0 : (readW l).1 = 0
  · rw [if_pos h0] at h2
    obtain ⟨b, rfl, _⟩ := h2
    have HE : Hid (errVal (heapF l H) = errVal (rightF (readW l).2 H)) := hid (by unfold heapF; rw [if_neg (by rw [h0]; decide)])
    clear h0
    generalize errVal (rightF (readW l).2 H) = z at HE
    go_wp2
    go_ret
    exact ⟨by rw [HE.out]; rfl, HB2.out⟩
  · rw [if_neg h0] at h2
    subst h2
    have HE : Hid (errVal (heapF l H) = errVal (readW l).1) := hid (by unfold heapF; rw [if_pos h0])
    clear h0
    generalize errVal (readW l).1 = z at HE
    go_wp2
    go_ret
    exact ⟨by rw [HE.out]; rfl, HB2.out⟩

theorem heap_types {l : List CV} {H : List Th} (h : heapF l H = 0) : (readW l).1 = 0 ∧ rightF (readW l).2 H = 0 ∧ ∀ x ∈ H, isTy x.ty.data.toList = true := by
  unfold heapF at h
  by_cases h0 : (readW l).1 ≠ 0
  · rw [if_pos h0] at h; exact absurd h h0
  rw [if_neg h0] at h
  refine ⟨by simpa using h0, h, fun x hx => ?_⟩
  unfold rightF at h
  by_cases h1 : 50 < H.length
  · rw [if_pos h1] at h; cases h
  rw [if_neg h1] at h
  by_cases h2 : firstF (formF (readW l).2) H ≠ 0
  · rw [if_pos h2] at h; exact absurd h h2
  exact form_ty (ff_all.1 (by simpa using h2) x hx)

set_option maxRecDepth 100000 in
set_option maxHeartbeats 8000000 in
theorem sread_any (va vt vr : Value) (l : List CV) (H : List Th) (R : List Vl) (w : World) (hl : Clss w va l) (hf : FormsAt w) (hsm : ∀ c ∈ l, SmallC c) (hn : l.length ≤ 1048576) (hH : Ths w vt H) (hs : SmallH H) (hm : H.length ≤ 1048576) (hR : Vls w vr R) :
    Calls Tryz.prog 26 #[va, .agg #[vt], vr] w fun e w' => e = .returned (errVal (rootsF l H R)) ∧ Below w.heap.size w w' := by
  obtain ⟨ah, ch, rfl⟩ := hH.sl.val
  obtain ⟨al, cl, rfl⟩ := hl.val
  obtain ⟨ar, cr, rfl⟩ := hR.val
  obtain ⟨W1, hW1⟩ : ∃ W1, w.alloc (.cells #[.slice ah H.length ch] 25) = W1 := ⟨_, rfl⟩
  have HB1 : Hid (Below w.heap.size w W1) := hid (hW1 ▸ ext_alloc _ _)
  have hlt1 : w.heap.size < W1.heap.size := by rw [← hW1]; simp
  have hr1 : W1.heap[w.heap.size]? = some (.cells #[.slice ah H.length ch] 25 (0, 0)) := hW1 ▸ heap_alloc_new _ _
  have HXb : Hid (∀ u, Below W1.heap.size W1 u → u.cell? ⟨w.heap.size, 0, none⟩ = some (.slice ah H.length ch)) := hid (fun u hu => by
    have h := (hu.block _ hlt1).trans hr1
    rw [cell_of_row _ _ _ _ _ _ h]; rfl)
  have x0 := HXb.out _ (Below.refl _ _)
  have HCK := hid (hcheck_any _ _ l H W1 (hl.below HB1.out) (hf.below HB1.out) hsm hn (hH.below HB1.out) hs hm)
  have HRD := hid (fun (u : World) (hu : Below W1.heap.size W1 u) => readwd_any (.slice al l.length cl) l u (hl.below (HB1.out.trans (hu.mono HB1.out.size))) (hf.below (HB1.out.trans (hu.mono HB1.out.size))) hsm hn)
  unfold ReadWd at HRD
  have HH := hid hH; have HM := hid hm; have HR := hid hR
  clear hl hf hsm hn hH hs hm hr1 hR
  go_enter Tryz.func26, Tryz.ntmps26
  go_wp2_with fail
  refine HCK.out.mono ?_
  rintro e w2 ⟨rfl, hb2⟩
  have H12 := hid hb2
  have HB2 := hid (HB1.out.trans (hb2.mono HB1.out.size))
  clear hb2 x0
  by_cases h0 : heapF l H = 0
  · obtain ⟨hr0, hrt, hty⟩ := heap_types h0
    have HTY := hid hty
    have HRZ0 : Hid (rootsF l H R = if 50 < R.length then 4 else firstF (rootF (readW l).2 H) R) := hid (by unfold rootsF; rw [if_neg (by rw [h0]; decide)])
    rw [h0, show errVal 0 = .nilIface from rfl]
    have HR0 := hid hr0
    clear hty hrt h0
    go_wp2_with fail
    refine (HRD.out w2 H12.out).mono ?_
    rintro e w3 ⟨hb3, h3⟩
    rw [if_pos hr0] at h3
    obtain ⟨rfl, hw3⟩ := h3
    have H13 := hid (H12.out.trans (hb3.mono H12.out.size))
    have HB3 := hid (HB2.out.trans (hb3.mono HB2.out.size))
    have HW3 := hid hw3
    clear hw3 hb3 hr0
    generalize w2.heap.size = b at HW3
    generalize (readW l).2 = W at HRZ0 HW3
    by_cases h50 : 50 < R.length
    · have HZ : Hid (rootsF l H R = 4) := hid (by rw [HRZ0.out, if_pos h50])
      have h51 : (50 : Int) < (R.length : Int) := by omega
      go_wp2
      go_ret
      exact ⟨by rw [HZ.out]; rfl, HB3.out⟩
    have h51 : ¬ (50 : Int) < (R.length : Int) := by omega
    have HRZ : Hid (rootsF l H R = firstF (rootF W H) R) := hid (by rw [HRZ0.out, if_neg h50])
    clear h50 HRZ0
    obtain ⟨W6, hW6⟩ : ∃ W6, W6 = w3 := ⟨_, rfl⟩
    subst hW6
    have HB6 := hid HB3.out
    have HX : Hid (∀ u, Below W6.heap.size W6 u → u.cell? ⟨w.heap.size, 0, none⟩ = some (.slice ah H.length ch)) := hid (fun u hu => HXb.out u (H13.out.trans (hu.mono H13.out.size)))
    go_wp2_with fail
    go_loopw [32] (fun v wr => ∃ k : Nat, k ≤ R.length ∧ v = .int .i64 (k : Int) ∧ Hid (Below W6.heap.size W6 wr) ∧ Hid (firstF (rootF W H) (R.drop k) = firstF (rootF W H) R)) (fun v _ => R.length - (intOf v).toNat)
    case atStart => exact ⟨0, Nat.zero_le _, rfl, hid (Below.refl _ _), hid rfl⟩
    case round =>
      obtain ⟨k, hk, rfl, HBv, HFF⟩ := hrel
      obtain ⟨wb, hwb⟩ : ∃ wb, wb = wr := ⟨_, rfl⟩
      subst hwb
      have HBw := hid (HB6.out.trans (HBv.out.mono HB6.out.size))
      by_cases hlt : k < R.length
      · have hk0 : (0 : Int) ≤ (k : Int) := by omega
        have hk1 : (k : Int) < (R.length : Int) := by omega
        obtain ⟨bb, off, hab, hd0, hd1⟩ := vl_at (HR.out.below HBw.out) hlt
        cases hab
        have HY := hid (fun h => ff_no (f := rootF W H) hlt h)
        have HNX := hid (fun h => ff_ok (f := rootF W H) hlt h)
        generalize R[k] = x at hd0 hd1 HY HNX
        obtain ⟨vk, vn⟩ := x
        simp only at hd0 hd1
        obtain ⟨W3, hW3⟩ : ∃ W3, wb.alloc (.cells #[.int .i64 vk, .int .i64 vn] 37) = W3 := ⟨_, rfl⟩
        have HBa : Hid (Below wb.heap.size wb W3) := hid (hW3 ▸ ext_alloc _ _)
        have HVx := hid (HBv.out.trans (HBa.out.mono HBv.out.size))
        have HB3x := hid (HBw.out.trans (HBa.out.mono HBw.out.size))
        have hlt3 : wb.heap.size < W3.heap.size := by rw [← hW3]; simp
        have hr3 : W3.heap[wb.heap.size]? = some (.cells #[.int .i64 vk, .int .i64 vn] 37 (0, 0)) := hW3 ▸ heap_alloc_new _ _
        have HVB : Hid (∀ u, Below W3.heap.size W3 u → u.cell? ⟨wb.heap.size, 0, none⟩ = some (.int .i64 vk) ∧ u.cell? ⟨wb.heap.size, 1, none⟩ = some (.int .i64 vn)) := hid (fun u hu => by
          have h := (hu.block _ hlt3).trans hr3
          refine ⟨?_, ?_⟩ <;> (rw [cell_of_row _ _ _ _ _ _ h]; rfl))
        clear hr3
        have HDoes : Hid (∀ (t : ByteArray), isTy t.data.toList = true → ∀ u, Below W3.heap.size W3 u → Calls Tryz.prog 41 #[.map (some b), .agg #[.slice ah H.length ch], .agg #[.int .i64 vk, .int .i64 vn], .string t] u fun e w' => e = .returned (.bool (doesV W H ⟨vk, vn⟩ t.data.toList)) ∧ Below u.heap.size u w') :=
          hid (fun t ht u hu => hdoes_any W b _ H vk vn t u (HW3.out.below ((HVx.out.trans (hu.mono HVx.out.size)))) (HH.out.below (HB3x.out.trans (hu.mono HB3x.out.size))) HTY.out ht HM.out)
        have HDI := hid (fun u hu => HDoes.out { data := #[73] } (by decide +kernel) u hu)
        have HDJ := hid (fun u hu => HDoes.out { data := #[74] } (by decide +kernel) u hu)
        obtain ⟨OB, hOB⟩ : ∃ OB, bs (thingB objB) = OB := ⟨_, rfl⟩
        have HOB : Hid (Value.string (bs (thingB objB)) = .string OB) := hid (by rw [hOB])
        have HDO := hid (fun u hu => HDoes.out OB (by rw [← hOB]; decide +kernel) u hu)
        have hOBt : OB.data.toList = objT := by rw [← hOB]; decide +kernel
        rw [hOBt] at HDO
        have HDI : Hid (∀ u, Below W3.heap.size W3 u → Calls Tryz.prog 41 #[.map (some b), .agg #[.slice ah H.length ch], .agg #[.int .i64 vk, .int .i64 vn], .string { data := #[73] }] u fun e w' => e = .returned (.bool (doesV W H ⟨vk, vn⟩ [73])) ∧ Below u.heap.size u w') := HDI
        have HDJ : Hid (∀ u, Below W3.heap.size W3 u → Calls Tryz.prog 41 #[.map (some b), .agg #[.slice ah H.length ch], .agg #[.int .i64 vk, .int .i64 vn], .string { data := #[74] }] u fun e w' => e = .returned (.bool (doesV W H ⟨vk, vn⟩ [74])) ∧ Below u.heap.size u w') := HDJ
        clear HDoes hOB hOBt
        go_wp2_with fail
        cases ha : doesV W H ⟨vk, vn⟩ [73] with
        | true =>
          rw [ha] at HDI
          have HOK : Hid (rootF W H ⟨vk, vn⟩ = 0) := hid (by unfold rootF rootOk; rw [ha]; simp)
          have HN2 := hid ((HNX.out HOK.out).symm.trans HFF.out)
          refine wp_region_ext [(3, is (.bool true))] ⟨is_stays _, trivial⟩ (by kernel_rfl) (by kernel_rfl) ?_
          refine wpG_calc 1 rfl rfl rfl (fun u => by go_simp; rfl) ?_
          simp only [Act.put, List.setIfInBounds_toArray, List.set_cons_zero, List.set_cons_succ]
          refine wpG_read 2 rfl rfl (.agg #[.slice ah H.length ch]) rfl ?_ ?_
          · intro u hu hh
            have y0 := HX.out u (HVx.out.trans (hu.mono HVx.out.size))
            go_simp
          simp only [Act.put, List.setIfInBounds_toArray, List.set_cons_zero, List.set_cons_succ]
          refine wpG_read 3 rfl rfl (.agg #[.int .i64 vk, .int .i64 vn]) rfl ?_ ?_
          · intro u hu hh
            obtain ⟨y0, y1⟩ := HVB.out u hu
            go_simp
          simp only [Act.put, List.setIfInBounds_toArray, List.set_cons_zero, List.set_cons_succ]
          refine wpG_rel 4 rfl rfl rfl ?_ ?_
          · intro u hu hh
            go_simp
            refine (HDI.out u hu).mono ?_
            rintro e w2 ⟨rfl, hb2⟩
            exact ⟨_, rfl, rfl, hb2⟩
          intro vA ⟨uA, _, hrA⟩
          obtain rfl : vA = .bool true := hrA
          simp only [Act.put, List.setIfInBounds_toArray, List.set_cons_zero, List.set_cons_succ]
          refine wpG_calc 5 rfl rfl rfl (fun u => by go_simp; rfl) ?_
          simp only [Act.put, List.setIfInBounds_toArray, List.set_cons_zero, List.set_cons_succ]
          refine wpG_calc 6 rfl rfl rfl (fun u => by go_simp; rfl) ?_
          simp only [Act.put, List.setIfInBounds_toArray, List.set_cons_zero, List.set_cons_succ]
          refine wpG_skip 7 rfl rfl ?_
          simp only [Act.put, List.setIfInBounds_toArray, List.set_cons_zero, List.set_cons_succ]
          refine wpG_skip 8 rfl rfl ?_
          simp only [Act.put, List.setIfInBounds_toArray, List.set_cons_zero, List.set_cons_succ]
          refine wpG_skip 9 rfl rfl ?_
          simp only [Act.put, List.setIfInBounds_toArray, List.set_cons_zero, List.set_cons_succ]
          refine wpG_skip 10 rfl rfl ?_
          simp only [Act.put, List.setIfInBounds_toArray, List.set_cons_zero, List.set_cons_succ]
          refine wpG_skip 11 rfl rfl ?_
          simp only [Act.put, List.setIfInBounds_toArray, List.set_cons_zero, List.set_cons_succ]
          refine wpG_calc (v := .bool false) 12 rfl rfl rfl (fun u => by first | (go_simp; done) | (go_simp; rfl)) ?_
          simp only [Act.put, List.setIfInBounds_toArray, List.set_cons_zero, List.set_cons_succ]
          refine wpG_calc 13 rfl rfl rfl (fun u => by go_simp; rfl) ?_
          simp only [Act.put, List.setIfInBounds_toArray, List.set_cons_zero, List.set_cons_succ]
          refine wpG_skip 14 rfl rfl ?_
          simp only [Act.put, List.setIfInBounds_toArray, List.set_cons_zero, List.set_cons_succ]
          refine wpG_skip 15 rfl rfl ?_
          simp only [Act.put, List.setIfInBounds_toArray, List.set_cons_zero, List.set_cons_succ]
          refine wpG_skip 16 rfl rfl ?_
          simp only [Act.put, List.setIfInBounds_toArray, List.set_cons_zero, List.set_cons_succ]
          refine wpG_skip 17 rfl rfl ?_
          simp only [Act.put, List.setIfInBounds_toArray, List.set_cons_zero, List.set_cons_succ]
          refine wpG_skip 18 rfl rfl ?_
          simp only [Act.put, List.setIfInBounds_toArray, List.set_cons_zero, List.set_cons_succ]
          refine wpG_skip 19 rfl rfl ?_
          simp only [Act.put, List.setIfInBounds_toArray, List.set_cons_zero, List.set_cons_succ]
          refine wpG_calc (v := .bool false) 20 rfl rfl rfl (fun u => by first | (go_simp; done) | (go_simp; rfl)) ?_
          simp only [Act.put, List.setIfInBounds_toArray, List.set_cons_zero, List.set_cons_succ]
          refine wpG_nil fun w' hb' hF => ?_
          clear hF
          have HVf := hid (HVx.out.trans (hb'.mono HVx.out.size))
          have HBg := hid (HB6.out.trans (HVf.out.mono HB6.out.size))
          clear hb'
          go_wp2_with fail
          go_roundw
          case rel => exact ⟨k + 1, by omega, by simp, HVf, HN2⟩
          case measure => simp [intOf]; omega
        | false =>
          rw [ha] at HDI
          cases hb : doesV W H ⟨vk, vn⟩ [74] with
          | true =>
            rw [hb] at HDJ
            have HOK : Hid (rootF W H ⟨vk, vn⟩ = 0) := hid (by unfold rootF rootOk; rw [ha, hb]; simp)
            have HN2 := hid ((HNX.out HOK.out).symm.trans HFF.out)
            refine wp_region_ext [(3, is (.bool false)), (9, is (.bool true))] ⟨is_stays _, is_stays _, trivial⟩ (by kernel_rfl) (by kernel_rfl) ?_
            refine wpG_calc 1 rfl rfl rfl (fun u => by go_simp; rfl) ?_
            simp only [Act.put, List.setIfInBounds_toArray, List.set_cons_zero, List.set_cons_succ]
            refine wpG_read 2 rfl rfl (.agg #[.slice ah H.length ch]) rfl ?_ ?_
            · intro u hu hh
              have y0 := HX.out u (HVx.out.trans (hu.mono HVx.out.size))
              go_simp
            simp only [Act.put, List.setIfInBounds_toArray, List.set_cons_zero, List.set_cons_succ]
            refine wpG_read 3 rfl rfl (.agg #[.int .i64 vk, .int .i64 vn]) rfl ?_ ?_
            · intro u hu hh
              obtain ⟨y0, y1⟩ := HVB.out u hu
              go_simp
            simp only [Act.put, List.setIfInBounds_toArray, List.set_cons_zero, List.set_cons_succ]
            refine wpG_rel 4 rfl rfl rfl ?_ ?_
            · intro u hu hh
              go_simp
              refine (HDI.out u hu).mono ?_
              rintro e w2 ⟨rfl, hb2⟩
              exact ⟨_, rfl, rfl, hb2⟩
            intro vA ⟨uA, _, hrA⟩
            obtain rfl : vA = .bool false := hrA
            simp only [Act.put, List.setIfInBounds_toArray, List.set_cons_zero, List.set_cons_succ]
            refine wpG_calc 5 rfl rfl rfl (fun u => by go_simp; rfl) ?_
            simp only [Act.put, List.setIfInBounds_toArray, List.set_cons_zero, List.set_cons_succ]
            refine wpG_calc 6 rfl rfl rfl (fun u => by go_simp; rfl) ?_
            simp only [Act.put, List.setIfInBounds_toArray, List.set_cons_zero, List.set_cons_succ]
            refine wpG_calc 7 rfl rfl rfl (fun u => by go_simp; rfl) ?_
            simp only [Act.put, List.setIfInBounds_toArray, List.set_cons_zero, List.set_cons_succ]
            refine wpG_read 8 rfl rfl (.agg #[.slice ah H.length ch]) rfl ?_ ?_
            · intro u hu hh
              have y0 := HX.out u (HVx.out.trans (hu.mono HVx.out.size))
              go_simp
            simp only [Act.put, List.setIfInBounds_toArray, List.set_cons_zero, List.set_cons_succ]
            refine wpG_read 9 rfl rfl (.agg #[.int .i64 vk, .int .i64 vn]) rfl ?_ ?_
            · intro u hu hh
              obtain ⟨y0, y1⟩ := HVB.out u hu
              go_simp
            simp only [Act.put, List.setIfInBounds_toArray, List.set_cons_zero, List.set_cons_succ]
            refine wpG_rel 10 rfl rfl rfl ?_ ?_
            · intro u hu hh
              go_simp
              refine (HDJ.out u hu).mono ?_
              rintro e w2 ⟨rfl, hb2⟩
              exact ⟨_, rfl, rfl, hb2⟩
            intro vB ⟨uB, _, hrB⟩
            obtain rfl : vB = .bool true := hrB
            simp only [Act.put, List.setIfInBounds_toArray, List.set_cons_zero, List.set_cons_succ]
            refine wpG_calc 11 rfl rfl rfl (fun u => by go_simp; rfl) ?_
            simp only [Act.put, List.setIfInBounds_toArray, List.set_cons_zero, List.set_cons_succ]
            refine wpG_calc (v := .bool false) 12 rfl rfl rfl (fun u => by first | (go_simp; done) | (go_simp; rfl)) ?_
            simp only [Act.put, List.setIfInBounds_toArray, List.set_cons_zero, List.set_cons_succ]
            refine wpG_calc 13 rfl rfl rfl (fun u => by go_simp; rfl) ?_
            simp only [Act.put, List.setIfInBounds_toArray, List.set_cons_zero, List.set_cons_succ]
            refine wpG_skip 14 rfl rfl ?_
            simp only [Act.put, List.setIfInBounds_toArray, List.set_cons_zero, List.set_cons_succ]
            refine wpG_skip 15 rfl rfl ?_
            simp only [Act.put, List.setIfInBounds_toArray, List.set_cons_zero, List.set_cons_succ]
            refine wpG_skip 16 rfl rfl ?_
            simp only [Act.put, List.setIfInBounds_toArray, List.set_cons_zero, List.set_cons_succ]
            refine wpG_skip 17 rfl rfl ?_
            simp only [Act.put, List.setIfInBounds_toArray, List.set_cons_zero, List.set_cons_succ]
            refine wpG_skip 18 rfl rfl ?_
            simp only [Act.put, List.setIfInBounds_toArray, List.set_cons_zero, List.set_cons_succ]
            refine wpG_skip 19 rfl rfl ?_
            simp only [Act.put, List.setIfInBounds_toArray, List.set_cons_zero, List.set_cons_succ]
            refine wpG_calc (v := .bool false) 20 rfl rfl rfl (fun u => by first | (go_simp; done) | (go_simp; rfl)) ?_
            simp only [Act.put, List.setIfInBounds_toArray, List.set_cons_zero, List.set_cons_succ]
            refine wpG_nil fun w' hb' hF => ?_
            clear hF
            have HVf := hid (HVx.out.trans (hb'.mono HVx.out.size))
            have HBg := hid (HB6.out.trans (HVf.out.mono HB6.out.size))
            clear hb'
            go_wp2_with fail
            go_roundw
            case rel => exact ⟨k + 1, by omega, by simp, HVf, HN2⟩
            case measure => simp [intOf]; omega
          | false =>
            rw [hb] at HDJ
            cases hc : doesV W H ⟨vk, vn⟩ objT with
            | true =>
              rw [hc] at HDO
              have HOK : Hid (rootF W H ⟨vk, vn⟩ = 0) := hid (by unfold rootF rootOk; rw [ha, hb, hc]; simp)
              have HN2 := hid ((HNX.out HOK.out).symm.trans HFF.out)
              refine wp_region_ext [(3, is (.bool false)), (9, is (.bool false)), (16, is (.string OB)), (17, is (.bool true))] ⟨is_stays _, is_stays _, is_stays _, is_stays _, trivial⟩ (by kernel_rfl) (by kernel_rfl) ?_
              refine wpG_calc 1 rfl rfl rfl (fun u => by go_simp; rfl) ?_
              simp only [Act.put, List.setIfInBounds_toArray, List.set_cons_zero, List.set_cons_succ]
              refine wpG_read 2 rfl rfl (.agg #[.slice ah H.length ch]) rfl ?_ ?_
              · intro u hu hh
                have y0 := HX.out u (HVx.out.trans (hu.mono HVx.out.size))
                go_simp
              simp only [Act.put, List.setIfInBounds_toArray, List.set_cons_zero, List.set_cons_succ]
              refine wpG_read 3 rfl rfl (.agg #[.int .i64 vk, .int .i64 vn]) rfl ?_ ?_
              · intro u hu hh
                obtain ⟨y0, y1⟩ := HVB.out u hu
                go_simp
              simp only [Act.put, List.setIfInBounds_toArray, List.set_cons_zero, List.set_cons_succ]
              refine wpG_rel 4 rfl rfl rfl ?_ ?_
              · intro u hu hh
                go_simp
                refine (HDI.out u hu).mono ?_
                rintro e w2 ⟨rfl, hb2⟩
                exact ⟨_, rfl, rfl, hb2⟩
              intro vA ⟨uA, _, hrA⟩
              obtain rfl : vA = .bool false := hrA
              simp only [Act.put, List.setIfInBounds_toArray, List.set_cons_zero, List.set_cons_succ]
              refine wpG_calc 5 rfl rfl rfl (fun u => by go_simp; rfl) ?_
              simp only [Act.put, List.setIfInBounds_toArray, List.set_cons_zero, List.set_cons_succ]
              refine wpG_calc 6 rfl rfl rfl (fun u => by go_simp; rfl) ?_
              simp only [Act.put, List.setIfInBounds_toArray, List.set_cons_zero, List.set_cons_succ]
              refine wpG_calc 7 rfl rfl rfl (fun u => by go_simp; rfl) ?_
              simp only [Act.put, List.setIfInBounds_toArray, List.set_cons_zero, List.set_cons_succ]
              refine wpG_read 8 rfl rfl (.agg #[.slice ah H.length ch]) rfl ?_ ?_
              · intro u hu hh
                have y0 := HX.out u (HVx.out.trans (hu.mono HVx.out.size))
                go_simp
              simp only [Act.put, List.setIfInBounds_toArray, List.set_cons_zero, List.set_cons_succ]
              refine wpG_read 9 rfl rfl (.agg #[.int .i64 vk, .int .i64 vn]) rfl ?_ ?_
              · intro u hu hh
                obtain ⟨y0, y1⟩ := HVB.out u hu
                go_simp
              simp only [Act.put, List.setIfInBounds_toArray, List.set_cons_zero, List.set_cons_succ]
              refine wpG_rel 10 rfl rfl rfl ?_ ?_
              · intro u hu hh
                go_simp
                refine (HDJ.out u hu).mono ?_
                rintro e w2 ⟨rfl, hb2⟩
                exact ⟨_, rfl, rfl, hb2⟩
              intro vB ⟨uB, _, hrB⟩
              obtain rfl : vB = .bool false := hrB
              simp only [Act.put, List.setIfInBounds_toArray, List.set_cons_zero, List.set_cons_succ]
              refine wpG_calc 11 rfl rfl rfl (fun u => by go_simp; rfl) ?_
              simp only [Act.put, List.setIfInBounds_toArray, List.set_cons_zero, List.set_cons_succ]
              refine wpG_calc (v := .bool true) 12 rfl rfl rfl (fun u => by first | (go_simp; done) | (go_simp; rfl)) ?_
              simp only [Act.put, List.setIfInBounds_toArray, List.set_cons_zero, List.set_cons_succ]
              refine wpG_calc 13 rfl rfl rfl (fun u => by go_simp; rfl) ?_
              simp only [Act.put, List.setIfInBounds_toArray, List.set_cons_zero, List.set_cons_succ]
              refine wpG_calc 14 rfl rfl rfl (fun u => by go_simp; rfl) ?_
              simp only [Act.put, List.setIfInBounds_toArray, List.set_cons_zero, List.set_cons_succ]
              refine wpG_read 15 rfl rfl (.agg #[.slice ah H.length ch]) rfl ?_ ?_
              · intro u hu hh
                have y0 := HX.out u (HVx.out.trans (hu.mono HVx.out.size))
                go_simp
              simp only [Act.put, List.setIfInBounds_toArray, List.set_cons_zero, List.set_cons_succ]
              refine wpG_read 16 rfl rfl (.agg #[.int .i64 vk, .int .i64 vn]) rfl ?_ ?_
              · intro u hu hh
                obtain ⟨y0, y1⟩ := HVB.out u hu
                go_simp
              simp only [Act.put, List.setIfInBounds_toArray, List.set_cons_zero, List.set_cons_succ]
              refine wpG_rel 17 rfl rfl rfl ?_ ?_
              · intro u hu hh
                go_simp
                refine (thing_any objB u (by decide)).mono ?_
                rintro e w2 ⟨rfl, rfl⟩
                exact ⟨_, rfl, HOB.out, Below.refl _ _⟩
              intro vT ⟨uT, _, hrT⟩
              obtain rfl : vT = .string OB := hrT
              simp only [Act.put, List.setIfInBounds_toArray, List.set_cons_zero, List.set_cons_succ]
              refine wpG_rel 18 rfl rfl rfl ?_ ?_
              · intro u hu hh
                go_simp
                refine (HDO.out u hu).mono ?_
                rintro e w2 ⟨rfl, hb2⟩
                exact ⟨_, rfl, rfl, hb2⟩
              intro vC ⟨uC, _, hrC⟩
              obtain rfl : vC = .bool true := hrC
              simp only [Act.put, List.setIfInBounds_toArray, List.set_cons_zero, List.set_cons_succ]
              refine wpG_calc 19 rfl rfl rfl (fun u => by go_simp; rfl) ?_
              simp only [Act.put, List.setIfInBounds_toArray, List.set_cons_zero, List.set_cons_succ]
              refine wpG_calc (v := .bool false) 20 rfl rfl rfl (fun u => by first | (go_simp; done) | (go_simp; rfl)) ?_
              simp only [Act.put, List.setIfInBounds_toArray, List.set_cons_zero, List.set_cons_succ]
              refine wpG_nil fun w' hb' hF => ?_
              clear hF
              have HVf := hid (HVx.out.trans (hb'.mono HVx.out.size))
              have HBg := hid (HB6.out.trans (HVf.out.mono HB6.out.size))
              clear hb'
              go_wp2_with fail
              go_roundw
              case rel => exact ⟨k + 1, by omega, by simp, HVf, HN2⟩
              case measure => simp [intOf]; omega
            | false =>
              rw [hc] at HDO
              have HZ : Hid (firstF (rootF W H) R = 7) := hid (by
                have e : rootF W H ⟨vk, vn⟩ = 7 := by unfold rootF rootOk; rw [ha, hb, hc]; rfl
                rw [← HFF.out, HY.out (by rw [e]; decide), e])
              clear ha hb hc
              refine wp_region_ext [(3, is (.bool false)), (9, is (.bool false)), (16, is (.string OB)), (17, is (.bool false))] ⟨is_stays _, is_stays _, is_stays _, is_stays _, trivial⟩ (by kernel_rfl) (by kernel_rfl) ?_
              refine wpG_calc 1 rfl rfl rfl (fun u => by go_simp; rfl) ?_
              simp only [Act.put, List.setIfInBounds_toArray, List.set_cons_zero, List.set_cons_succ]
              refine wpG_read 2 rfl rfl (.agg #[.slice ah H.length ch]) rfl ?_ ?_
              · intro u hu hh
                have y0 := HX.out u (HVx.out.trans (hu.mono HVx.out.size))
                go_simp
              simp only [Act.put, List.setIfInBounds_toArray, List.set_cons_zero, List.set_cons_succ]
              refine wpG_read 3 rfl rfl (.agg #[.int .i64 vk, .int .i64 vn]) rfl ?_ ?_
              · intro u hu hh
                obtain ⟨y0, y1⟩ := HVB.out u hu
                go_simp
              simp only [Act.put, List.setIfInBounds_toArray, List.set_cons_zero, List.set_cons_succ]
              refine wpG_rel 4 rfl rfl rfl ?_ ?_
              · intro u hu hh
                go_simp
                refine (HDI.out u hu).mono ?_
                rintro e w2 ⟨rfl, hb2⟩
                exact ⟨_, rfl, rfl, hb2⟩
              intro vA ⟨uA, _, hrA⟩
              obtain rfl : vA = .bool false := hrA
              simp only [Act.put, List.setIfInBounds_toArray, List.set_cons_zero, List.set_cons_succ]
              refine wpG_calc 5 rfl rfl rfl (fun u => by go_simp; rfl) ?_
              simp only [Act.put, List.setIfInBounds_toArray, List.set_cons_zero, List.set_cons_succ]
              refine wpG_calc 6 rfl rfl rfl (fun u => by go_simp; rfl) ?_
              simp only [Act.put, List.setIfInBounds_toArray, List.set_cons_zero, List.set_cons_succ]
              refine wpG_calc 7 rfl rfl rfl (fun u => by go_simp; rfl) ?_
              simp only [Act.put, List.setIfInBounds_toArray, List.set_cons_zero, List.set_cons_succ]
              refine wpG_read 8 rfl rfl (.agg #[.slice ah H.length ch]) rfl ?_ ?_
              · intro u hu hh
                have y0 := HX.out u (HVx.out.trans (hu.mono HVx.out.size))
                go_simp
              simp only [Act.put, List.setIfInBounds_toArray, List.set_cons_zero, List.set_cons_succ]
              refine wpG_read 9 rfl rfl (.agg #[.int .i64 vk, .int .i64 vn]) rfl ?_ ?_
              · intro u hu hh
                obtain ⟨y0, y1⟩ := HVB.out u hu
                go_simp
              simp only [Act.put, List.setIfInBounds_toArray, List.set_cons_zero, List.set_cons_succ]
              refine wpG_rel 10 rfl rfl rfl ?_ ?_
              · intro u hu hh
                go_simp
                refine (HDJ.out u hu).mono ?_
                rintro e w2 ⟨rfl, hb2⟩
                exact ⟨_, rfl, rfl, hb2⟩
              intro vB ⟨uB, _, hrB⟩
              obtain rfl : vB = .bool false := hrB
              simp only [Act.put, List.setIfInBounds_toArray, List.set_cons_zero, List.set_cons_succ]
              refine wpG_calc 11 rfl rfl rfl (fun u => by go_simp; rfl) ?_
              simp only [Act.put, List.setIfInBounds_toArray, List.set_cons_zero, List.set_cons_succ]
              refine wpG_calc (v := .bool true) 12 rfl rfl rfl (fun u => by first | (go_simp; done) | (go_simp; rfl)) ?_
              simp only [Act.put, List.setIfInBounds_toArray, List.set_cons_zero, List.set_cons_succ]
              refine wpG_calc 13 rfl rfl rfl (fun u => by go_simp; rfl) ?_
              simp only [Act.put, List.setIfInBounds_toArray, List.set_cons_zero, List.set_cons_succ]
              refine wpG_calc 14 rfl rfl rfl (fun u => by go_simp; rfl) ?_
              simp only [Act.put, List.setIfInBounds_toArray, List.set_cons_zero, List.set_cons_succ]
              refine wpG_read 15 rfl rfl (.agg #[.slice ah H.length ch]) rfl ?_ ?_
              · intro u hu hh
                have y0 := HX.out u (HVx.out.trans (hu.mono HVx.out.size))
                go_simp
              simp only [Act.put, List.setIfInBounds_toArray, List.set_cons_zero, List.set_cons_succ]
              refine wpG_read 16 rfl rfl (.agg #[.int .i64 vk, .int .i64 vn]) rfl ?_ ?_
              · intro u hu hh
                obtain ⟨y0, y1⟩ := HVB.out u hu
                go_simp
              simp only [Act.put, List.setIfInBounds_toArray, List.set_cons_zero, List.set_cons_succ]
              refine wpG_rel 17 rfl rfl rfl ?_ ?_
              · intro u hu hh
                go_simp
                refine (thing_any objB u (by decide)).mono ?_
                rintro e w2 ⟨rfl, rfl⟩
                exact ⟨_, rfl, HOB.out, Below.refl _ _⟩
              intro vT ⟨uT, _, hrT⟩
              obtain rfl : vT = .string OB := hrT
              simp only [Act.put, List.setIfInBounds_toArray, List.set_cons_zero, List.set_cons_succ]
              refine wpG_rel 18 rfl rfl rfl ?_ ?_
              · intro u hu hh
                go_simp
                refine (HDO.out u hu).mono ?_
                rintro e w2 ⟨rfl, hb2⟩
                exact ⟨_, rfl, rfl, hb2⟩
              intro vC ⟨uC, _, hrC⟩
              obtain rfl : vC = .bool false := hrC
              simp only [Act.put, List.setIfInBounds_toArray, List.set_cons_zero, List.set_cons_succ]
              refine wpG_calc 19 rfl rfl rfl (fun u => by go_simp; rfl) ?_
              simp only [Act.put, List.setIfInBounds_toArray, List.set_cons_zero, List.set_cons_succ]
              refine wpG_calc (v := .bool true) 20 rfl rfl rfl (fun u => by first | (go_simp; done) | (go_simp; rfl)) ?_
              simp only [Act.put, List.setIfInBounds_toArray, List.set_cons_zero, List.set_cons_succ]
              refine wpG_nil fun w' hb' hF => ?_
              clear hF
              have HVf := hid (HVx.out.trans (hb'.mono HVx.out.size))
              have HBg := hid (HB6.out.trans (HVf.out.mono HB6.out.size))
              clear hb'
              go_wp2
              go_ret
              exact ⟨by rw [HRZ.out, HZ.out]; rfl, HBg.out⟩
      · obtain rfl : k = R.length := by omega
        have HZ : Hid (rootsF l H R = 0) := hid (by rw [HRZ.out, ← HFF.out, ff_end hlt])
        clear hlt HFF
        go_wp2
        go_ret
        exact ⟨by rw [HZ.out]; rfl, HBw.out⟩
  · have HZ : Hid (rootsF l H R = heapF l H) := hid (by unfold rootsF; rw [if_pos h0])
    have HEV : Hid (errVal (heapF l H) = .iface 45 (.int .i64 (heapF l H))) := hid (by unfold errVal; rw [if_neg h0])
    rw [HEV.out]
    clear h0
    go_wp2
    go_ret
    exact ⟨by rw [HZ.out, HEV.out]; rfl, HB2.out⟩
end Go.Proofs.YtkfkdbmgmifopaaGreatDoor.worlds
