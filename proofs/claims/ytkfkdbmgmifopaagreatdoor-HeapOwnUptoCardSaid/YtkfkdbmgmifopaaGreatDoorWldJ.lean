/- Heaps: heap.types. Condition: the world was read, the thing's type is right. -/
import Derived.Test.YtkfkdbmgmifopaaGreatDoorRep1
set_option linter.unusedSimpArgs false
set_option linter.unusedVariables false
namespace Go.Proofs.YtkfkdbmgmifopaaGreatDoor.worlds
open Go.RowKit Go.Proofs.YtkfkdbmgmifopaaGreatDoor.lib Go.Proofs.YtkfkdbmgmifopaaGreatDoor.maps Go.Proofs.YtkfkdbmgmifopaaGreatDoor.classes Go.Proofs.YtkfkdbmgmifopaaGreatDoor.errs Go.Proofs.YtkfkdbmgmifopaaGreatDoor.descs

theorem cutArr_any (s : ByteArray) (w : World) : Calls Tryz.prog 73 #[.string s, .string { data := #[91] }] w fun e w' =>
    e = .returned (.tuple #[.string (bs (if s.data.toList.head? = some 91 then s.data.toList.drop 1 else s.data.toList)), .bool (decide (s.data.toList.head? = some 91))]) ∧ w = w' := by
  refine (Tryz.strings_CutPrefix s { data := #[91] } w).mono ?_
  rintro e w' ⟨rfl, rfl⟩
  refine ⟨?_, rfl⟩
  show Ending.returned (.tuple #[.string ⟨(Lib.trimPrefix s.data.toList [91]).toArray⟩, .bool (Lib.hasPrefix s.data.toList [91])]) = _
  unfold Lib.trimPrefix
  rw [prefix_one]
  by_cases h1 : s.data.toList.head? = some 91
  · rw [if_pos h1, decide_eq_true h1, if_pos rfl]; exact congrArg Ending.returned rfl
  · rw [if_neg h1, decide_eq_false h1, if_neg (by decide)]; exact congrArg Ending.returned rfl

set_option maxRecDepth 100000 in
set_option maxHeartbeats 8000000 in
theorem htypes_any (W : WL) (b : Nat) (x : Th) (w : World) (hW : Wd w b W) (hx : Vls w x.vh x.has) (hty : isTy x.ty.data.toList = true) (hn : x.has.length ≤ 2000000) :
    Calls Tryz.prog 45 #[.map (some b), .agg #[.string x.ty, x.vh]] w fun e w' => ∃ v, e = .returned v ∧ Sl w' v (typesT W x.ty.data.toList x.has.length).length 1 ((typesT W x.ty.data.toList x.has.length).map .string) ∧ Below w.heap.size w w' := by
  obtain ⟨ty, vh, has⟩ := x
  simp only at hx hty hn ⊢
  obtain ⟨ah, ch, rfl⟩ := hx.val
  obtain ⟨y, e0, hT⟩ : ∃ y e0, ty.data.toList = y :: e0 := by
    cases h : ty.data.toList with
    | nil => rw [h] at hty; exact absurd hty (by decide)
    | cons y e0 => exact ⟨y, e0, rfl⟩
  have HW := hid hW
  have HCP := hid (cutArr_any ty)
  obtain ⟨W1, hW1⟩ : ∃ W1, w.alloc (.cells #[.string ty, .slice ah has.length ch] 35) = W1 := ⟨_, rfl⟩
  have HB1 : Hid (Below w.heap.size w W1) := hid (hW1 ▸ ext_alloc _ _)
  have hlt1 : w.heap.size < W1.heap.size := by rw [← hW1]; simp
  have hr1 : W1.heap[w.heap.size]? = some (.cells #[.string ty, .slice ah has.length ch] 35 (0, 0)) := hW1 ▸ heap_alloc_new _ _
  have x0 : W1.cell? ⟨w.heap.size, 0, none⟩ = some (.string ty) := by rw [cell_of_row _ _ _ _ _ _ hr1]; rfl
  have x1 : W1.cell? ⟨w.heap.size, 1, none⟩ = some (.slice ah has.length ch) := by rw [cell_of_row _ _ _ _ _ _ hr1]; rfl
  by_cases hy : y = 91
  · subst hy
    have HZ : Hid (typesT W ty.data.toList has.length = List.replicate has.length (bs e0)) := hid (by rw [hT]; rfl)
    rw [hT] at HCP
    obtain ⟨E, hE⟩ : ∃ E, bs e0 = E := ⟨_, rfl⟩
    have HCP2 : Hid (∀ u, Calls Tryz.prog 73 #[.string ty, .string { data := #[91] }] u fun e w' => e = .returned (.tuple #[.string E, .bool true]) ∧ u = w') := hid (fun u => by rw [← hE]; exact HCP.out u)
    rw [hE] at HZ
    have HREP := hid (repeat_any W1.heap.size 1 has.length E (W1.alloc (.cells #[.string E] 9)) (by rw [World.cell?_alloc_at _ _ _ _ rfl]; rfl) hn)
    have HB2 : Hid (Below w.heap.size w (W1.alloc (.cells #[.string E] 9))) := hid (HB1.out.alloc HB1.out.size _)
    clear hT hE HCP hW hx hty hr1
    go_enter Tryz.func45, Tryz.ntmps45
    go_wp2_with fail
    refine (HCP2.out _).mono ?_
    rintro e w3 ⟨rfl, rfl⟩
    go_wp2_with fail
    refine HREP.out.mono ?_
    rintro e w4 ⟨v, rfl, hs4, hb4⟩
    have HS4 : Hid (Sl w4 v (typesT W ty.data.toList has.length).length 1 ((typesT W ty.data.toList has.length).map .string)) := hid (by rw [HZ.out, List.length_replicate, List.map_replicate]; exact hs4)
    have HB4 := hid (HB2.out.trans (hb4.mono HB2.out.size))
    obtain ⟨av, cv, hv⟩ := hs4.val
    subst hv
    clear hs4 hb4
    go_wp2
    go_ret
    exact ⟨_, rfl, HS4.out, HB4.out⟩
  · have HZ : Hid (typesT W ty.data.toList has.length = layOf W (classN ty.data.toList)) := hid (by rw [hT]; show (if y = 91 then List.replicate has.length (bs e0) else layOf W (classN (y :: e0))) = _; rw [if_neg hy])
    have hh : ¬ ty.data.toList.head? = some 91 := by rw [hT]; simpa using hy
    have HCP2 : Hid (∀ u, Calls Tryz.prog 73 #[.string ty, .string { data := #[91] }] u fun e w' => ∃ E, e = .returned (.tuple #[.string E, .bool false]) ∧ u = w') := hid (fun u => (HCP.out u).mono fun e w' h => ⟨_, h.1.trans (by rw [decide_eq_false hh]), h.2⟩)
    have HCL := hid (class_any ty W1 hty)
    have HTY := hid (types_any W b (classN ty.data.toList) W1 (HW.out.below HB1.out))
    clear hT HCP hW hx hty hr1 hh hy
    go_enter Tryz.func45, Tryz.ntmps45
    go_wp2_with fail
    refine (HCP2.out _).mono ?_
    rintro e w3 ⟨E, rfl, rfl⟩
    go_wp2_with fail
    refine HCL.out.mono ?_
    rintro e w4 ⟨rfl, rfl⟩
    go_wp2_with fail
    refine HTY.out.mono ?_
    rintro e w5 ⟨v, rfl, hs5, hb5⟩
    have HS5 := hid hs5
    have HB5 := hid (HB1.out.trans (hb5.mono HB1.out.size))
    obtain ⟨av, cv, hv⟩ := hs5.val
    subst hv
    clear hs5 hb5
    go_wp2
    go_ret
    exact ⟨_, rfl, by rw [HZ.out]; exact HS5.out, HB5.out⟩
end Go.Proofs.YtkfkdbmgmifopaaGreatDoor.worlds

/- Heaps: heap.formed. Condition: the world was read. -/
set_option linter.unusedSimpArgs false
set_option linter.unusedVariables false
namespace Go.Proofs.YtkfkdbmgmifopaaGreatDoor.worlds
open Go.RowKit Go.Proofs.YtkfkdbmgmifopaaGreatDoor.lib Go.Proofs.YtkfkdbmgmifopaaGreatDoor.maps Go.Proofs.YtkfkdbmgmifopaaGreatDoor.classes Go.Proofs.YtkfkdbmgmifopaaGreatDoor.errs Go.Proofs.YtkfkdbmgmifopaaGreatDoor.descs Go.Proofs.YtkfkdbmgmifopaaGreatDoor.names Go.Proofs.YtkfkdbmgmifopaaGreatDoor.grow

theorem refs_of_ty {l : List UInt8} (h : isTy l = true) (hw : isWd l = false) : refs l = true := by
  obtain ⟨p, t, rfl, hp, h3, ht, _⟩ := right_parts h
  cases p with
  | nil =>
    rw [List.nil_append] at hw ⊢
    rcases ht with rfl | rfl | ⟨nm, rfl, _⟩
    · exact absurd hw (by decide)
    · exact absurd hw (by decide)
    · rfl
  | cons z p =>
    have := hp z (List.mem_cons_self ..)
    subst this
    rfl
set_option maxRecDepth 100000 in
theorem run_face (v0 v1 v2 v4 v5 : Value) (f : Bool) (w : World) : (Instr.field 69 (.agg #[v0, v1, v2, .bool f, v4, v5]) 3).run Tryz.prog w = .ok (.bool f) w := by
  simp [Instr.field, run_underlying Tryz.underlying69]
  first | rfl | kernel_rfl | (go_simp; done) | (go_simp; rfl)
def slR (n : Nat) : Value → World → Prop := fun v _ => ∃ a c, v = .slice a n c
theorem slR_stays (n : Nat) : ∀ v u u', Below u.heap.size u u' → slR n v u → slR n v u' := fun _ _ _ _ h => h

set_option maxRecDepth 100000 in
set_option maxHeartbeats 8000000 in
theorem formed_any (W : WL) (b : Nat) (x : Th) (w : World) (hW : Wd w b W) (hx : Vls w x.vh x.has) (hsz : x.ty.size ≤ 9223372036854775807) (hn : x.has.length ≤ 2000000) :
    Calls Tryz.prog 72 #[.map (some b), .agg #[.string x.ty, x.vh]] w fun e w' => e = .returned (errVal (formF W x)) ∧ Below w.heap.size w w' := by
  obtain ⟨ty, vh, has⟩ := x
  simp only at hx hsz hn ⊢
  obtain ⟨ah, ch, rfl⟩ := hx.val
  have HW := hid hW; have HV := hid hx; have HSZ := hid hsz; have HLN := hid hn
  obtain ⟨W1, hW1⟩ : ∃ W1, w.alloc (.cells #[.string ty, .slice ah has.length ch] 35) = W1 := ⟨_, rfl⟩
  have HB1 : Hid (Below w.heap.size w W1) := hid (hW1 ▸ ext_alloc _ _)
  have hlt1 : w.heap.size < W1.heap.size := by rw [← hW1]; simp
  have hr1 : W1.heap[w.heap.size]? = some (.cells #[.string ty, .slice ah has.length ch] 35 (0, 0)) := hW1 ▸ heap_alloc_new _ _
  have HX : Hid (∀ u, Below W1.heap.size W1 u → u.cell? ⟨w.heap.size, 0, none⟩ = some (.string ty) ∧ u.cell? ⟨w.heap.size, 1, none⟩ = some (.slice ah has.length ch)) := hid (fun u hu => by
    have h := (hu.block _ hlt1).trans hr1
    refine ⟨?_, ?_⟩ <;> (rw [cell_of_row _ _ _ _ _ _ h]; rfl))
  obtain ⟨x0, x1⟩ := HX.out _ (Below.refl _ _)
  have HCK := hid (tcheck_any ty W1 hsz)
  unfold names.Checked at HCK
  clear hW hx hsz hr1
  cases hty : isTy ty.data.toList with
  | false =>
    have HZ : Hid (formF W ⟨ty, .slice ah has.length ch, has⟩ = 1) := hid (if_pos (.inl hty))
    rw [hty, if_neg (by simp)] at HCK
    clear hty
    go_enter Tryz.func72, Tryz.ntmps72
    go_wp2_with fail
    refine HCK.out.mono ?_
    rintro e w2 ⟨rfl, hb2⟩
    have H12 := hid hb2
    have HB2 := hid (HB1.out.trans (hb2.mono HB1.out.size))
    obtain ⟨x0, x1⟩ := HX.out _ hb2
    clear hb2
    go_wp2
    go_ret
    exact ⟨by rw [HZ.out]; rfl, HB2.out⟩
  | true =>
    have HTY := hid hty
    rw [hty, if_pos rfl] at HCK
    cases hwd : isWd ty.data.toList with
    | true =>
      have HZ : Hid (formF W ⟨ty, .slice ah has.length ch, has⟩ = 1) := hid (if_pos (.inr hwd))
      have HWD := hid hwd
      clear hty hwd
      go_enter Tryz.func72, Tryz.ntmps72
      go_wp2_with fail
      refine HCK.out.mono ?_
      rintro e w2 ⟨rfl, hb2⟩
      have H12 := hid hb2
      have HB2 := hid (HB1.out.trans (hb2.mono HB1.out.size))
      obtain ⟨x0, x1⟩ := HX.out _ hb2
      clear hb2
      go_wp2_with fail
      refine (number_any ty _).mono ?_
      rintro e w3 ⟨rfl, rfl⟩
      rw [HWD.out]
      go_wp2
      go_ret
      exact ⟨by rw [HZ.out]; rfl, HB2.out⟩
    | false =>
      have HWD := hid hwd
      obtain ⟨z, hz⟩ : ∃ z, kindF W ty.data.toList = z := ⟨_, rfl⟩
      have HKZ := hid hz
      have hne0 : ¬ (isTy ty.data.toList = false ∨ isWd ty.data.toList = true) := by rw [hty, hwd]; simp
      by_cases hz0 : z = 0
      · have hz1 : kindF W ty.data.toList = 0 := by rw [hz, hz0]
        have hfm : formF W ⟨ty, .slice ah has.length ch, has⟩ = if ty.data.toList.head? = some 76 ∧ (cAt W (classN ty.data.toList)).face = true then 7 else if (ty.data.toList.head? = some 91 ∧ 10 < has.length) ∨ (typesT W ty.data.toList has.length).length ≠ has.length then 8 else 0 := by
          unfold formF
          rw [if_neg hne0]
          simp only [hz1]
          rw [if_neg (by simp)]
        have HEV : Hid (errVal z = .nilIface) := hid (by rw [hz0]; rfl)
        obtain ⟨TL, hTLd⟩ : ∃ TL, (typesT W ty.data.toList has.length).length = TL := ⟨_, rfl⟩
        rw [hTLd] at hfm
        have HTLD := hid hTLd
        obtain ⟨y, e0, hT⟩ : ∃ y e0, ty.data.toList = y :: e0 := by
          cases h : ty.data.toList with
          | nil => rw [h] at hty; exact absurd hty (by decide)
          | cons y e0 => exact ⟨y, e0, rfl⟩
        obtain ⟨hf0, hfy⟩ := first_byte hT
        have hf0' : (0 : Int) < (ty.size : Int) := by omega
        have HCL := hid (fun u => class_any ty u hty)
        by_cases hy : y = 76
        · subst hy
          obtain ⟨cn, hcn⟩ : ∃ cn, classN ty.data.toList = cn := ⟨_, rfl⟩
          rw [hcn] at hfm HCL
          have HLK := hid (fun (u : World) (hu : Below w.heap.size w u) => world_look (HW.out.at_.below hu) cn)
          have hat := HW.out.at_.at_ cn
          obtain ⟨q, hq⟩ : ∃ q, cAt W cn = q := ⟨_, rfl⟩
          rw [hq] at hfm HLK hat
          obtain ⟨nm, sup, vf, face, vd, vm, faces, fields, mets⟩ := q
          obtain ⟨a1, d1, a2, d2, a3, d3, e1, e2, e3⟩ := cls_vals hat
          simp only at e1 e2 e3 hfm
          subst e1 e2 e3
          simp only [CV.cells] at HLK
          have hh76 : ty.data.toList.head? = some 76 := by rw [hT]; rfl
          have hh91 : ¬ ty.data.toList.head? = some 91 := by rw [hT]; simp
          have hfl := fun u => run_face (.string nm) (.string sup) (.slice a1 faces.length d1) (.slice a2 fields.length d2) (.slice a3 mets.length d3) face u
          cases face with
          | true =>
            have HZ : Hid (formF W ⟨ty, .slice ah has.length ch, has⟩ = 7) := hid (by rw [hfm, if_pos ⟨hh76, rfl⟩])
            clear hty hwd hz hne0 hz0 hz1 hfm hTLd hT hh76 hh91 hcn hq hat
            go_enter Tryz.func72, Tryz.ntmps72
            go_wp2_with fail
            refine HCK.out.mono ?_
            rintro e w2 ⟨rfl, hb2⟩
            have H12 := hid hb2
            have HB2 := hid (HB1.out.trans (hb2.mono HB1.out.size))
            obtain ⟨x0, x1⟩ := HX.out _ hb2
            clear hb2
            go_wp2_with fail
            refine (number_any ty _).mono ?_
            rintro e w3 ⟨rfl, rfl⟩
            rw [HWD.out]
            go_wp2_with fail
            refine (kind_any W b ty _ (HW.out.at_.below HB2.out) HSZ.out).mono ?_
            rintro e w4 ⟨rfl, hb4⟩
            have H14 := hid (H12.out.trans (hb4.mono H12.out.size))
            have HB4 := hid (HB2.out.trans (hb4.mono HB2.out.size))
            obtain ⟨x0, x1⟩ := HX.out _ H14.out
            clear hb4
            rw [HKZ.out]
            rw [HEV.out]
            have hlk := HLK.out _ HB4.out
            go_wp2_with fail
            refine (HCL.out _).mono ?_
            rintro e w5 ⟨rfl, rfl⟩
            go_wp2
            go_ret
            exact ⟨by rw [HZ.out]; rfl, HB4.out⟩
          | false =>
            rw [if_neg (by simp)] at hfm
            by_cases hTL : TL = has.length
            · have HZF : Hid (formF W ⟨ty, .slice ah has.length ch, has⟩ = 0) := hid (by rw [hfm, if_neg (by rintro (h | h); exact hh91 h.1; exact h hTL)])
              clear hty hwd hz hne0 hz0 hz1 hfm hTLd hT hh76 hh91 hcn hq hat
              go_enter Tryz.func72, Tryz.ntmps72
              go_wp2_with fail
              refine HCK.out.mono ?_
              rintro e w2 ⟨rfl, hb2⟩
              have H12 := hid hb2
              have HB2 := hid (HB1.out.trans (hb2.mono HB1.out.size))
              obtain ⟨x0, x1⟩ := HX.out _ hb2
              clear hb2
              go_wp2_with fail
              refine (number_any ty _).mono ?_
              rintro e w3 ⟨rfl, rfl⟩
              rw [HWD.out]
              go_wp2_with fail
              refine (kind_any W b ty _ (HW.out.at_.below HB2.out) HSZ.out).mono ?_
              rintro e w4 ⟨rfl, hb4⟩
              have H14 := hid (H12.out.trans (hb4.mono H12.out.size))
              have HB4 := hid (HB2.out.trans (hb4.mono HB2.out.size))
              obtain ⟨x0, x1⟩ := HX.out _ H14.out
              clear hb4
              rw [HKZ.out]
              rw [HEV.out]
              have hlk := HLK.out _ HB4.out
              go_wp2_with fail
              refine (HCL.out _).mono ?_
              rintro e w5 ⟨rfl, rfl⟩
              go_wp2_with fail
              have HU := hid H14.out
              have HBU := hid HB4.out
              refine wp_region_ext [(13, slR TL)] ⟨slR_stays _, trivial⟩ (by kernel_rfl) (by kernel_rfl) ?_
              refine wpG_calc 1 rfl rfl rfl (fun u => by go_simp; rfl) ?_
              simp only [Act.put, List.setIfInBounds_toArray, List.set_cons_zero, List.set_cons_succ]
              refine wpG_read 2 rfl rfl (.string ty) rfl ?_ ?_
              · intro u hu hh
                obtain ⟨y0, y1⟩ := HX.out u (HU.out.trans (hu.mono HU.out.size))
                go_simp
              simp only [Act.put, List.setIfInBounds_toArray, List.set_cons_zero, List.set_cons_succ]
              refine wpG_calc 3 rfl rfl rfl (fun u => by go_simp; rfl) ?_
              simp only [Act.put, List.setIfInBounds_toArray, List.set_cons_zero, List.set_cons_succ]
              refine wpG_calc (v := .bool false) 4 rfl rfl rfl (fun u => by first | (go_simp; done) | (go_simp; rfl)) ?_
              simp only [Act.put, List.setIfInBounds_toArray, List.set_cons_zero, List.set_cons_succ]
              refine wpG_calc 5 rfl rfl rfl (fun u => by go_simp; rfl) ?_
              simp only [Act.put, List.setIfInBounds_toArray, List.set_cons_zero, List.set_cons_succ]
              refine wpG_skip 6 rfl rfl ?_
              simp only [Act.put, List.setIfInBounds_toArray, List.set_cons_zero, List.set_cons_succ]
              refine wpG_skip 7 rfl rfl ?_
              simp only [Act.put, List.setIfInBounds_toArray, List.set_cons_zero, List.set_cons_succ]
              refine wpG_skip 8 rfl rfl ?_
              simp only [Act.put, List.setIfInBounds_toArray, List.set_cons_zero, List.set_cons_succ]
              refine wpG_skip 9 rfl rfl ?_
              simp only [Act.put, List.setIfInBounds_toArray, List.set_cons_zero, List.set_cons_succ]
              refine wpG_calc 10 rfl rfl rfl (fun u => by go_simp; rfl) ?_
              simp only [Act.put, List.setIfInBounds_toArray, List.set_cons_zero, List.set_cons_succ]
              refine wpG_calc 11 rfl rfl rfl (fun u => by go_simp; rfl) ?_
              simp only [Act.put, List.setIfInBounds_toArray, List.set_cons_zero, List.set_cons_succ]
              refine wpG_calc 12 rfl rfl rfl (fun u => by go_simp; rfl) ?_
              simp only [Act.put, List.setIfInBounds_toArray, List.set_cons_zero, List.set_cons_succ]
              refine wpG_read 13 rfl rfl (.agg #[.string ty, .slice ah has.length ch]) rfl ?_ ?_
              · intro u hu hh
                obtain ⟨y0, y1⟩ := HX.out u (HU.out.trans (hu.mono HU.out.size))
                go_simp
              simp only [Act.put, List.setIfInBounds_toArray, List.set_cons_zero, List.set_cons_succ]
              refine wpG_rel 14 rfl rfl rfl ?_ ?_
              · intro u hu hh
                go_simp
                refine (htypes_any W b ⟨ty, .slice ah has.length ch, has⟩ u (HW.out.below (HBU.out.trans (hu.mono HBU.out.size))) (HV.out.below (HBU.out.trans (hu.mono HBU.out.size))) HTY.out HLN.out).mono ?_
                rintro e w2 ⟨v, rfl, hs2, hb2⟩
                obtain ⟨a9, c9, h9⟩ := hs2.val
                exact ⟨_, rfl, ⟨a9, c9, h9.trans (congrArg (fun q => Value.slice a9 q c9) (by first | exact HTLD.out | exact HTLD.out.trans hTL))⟩, hb2⟩
              intro vT ⟨uT, _, hrT⟩
              obtain ⟨at_, ct, rfl⟩ := hrT
              simp only [Act.put, List.setIfInBounds_toArray, List.set_cons_zero, List.set_cons_succ]
              refine wpG_calc 15 rfl rfl rfl (fun u => by go_simp; rfl) ?_
              simp only [Act.put, List.setIfInBounds_toArray, List.set_cons_zero, List.set_cons_succ]
              refine wpG_calc 16 rfl rfl rfl (fun u => by go_simp; rfl) ?_
              simp only [Act.put, List.setIfInBounds_toArray, List.set_cons_zero, List.set_cons_succ]
              refine wpG_read 17 rfl rfl (.slice ah has.length ch) rfl ?_ ?_
              · intro u hu hh
                obtain ⟨y0, y1⟩ := HX.out u (HU.out.trans (hu.mono HU.out.size))
                go_simp
              simp only [Act.put, List.setIfInBounds_toArray, List.set_cons_zero, List.set_cons_succ]
              refine wpG_calc 18 rfl rfl rfl (fun u => by go_simp; rfl) ?_
              simp only [Act.put, List.setIfInBounds_toArray, List.set_cons_zero, List.set_cons_succ]
              refine wpG_calc (v := .bool false) 19 rfl rfl rfl (fun u => by first | (go_simp; done) | (go_simp; simp [hTL]; done) | (go_simp; omega)) ?_
              simp only [Act.put, List.setIfInBounds_toArray, List.set_cons_zero, List.set_cons_succ]
              refine wpG_calc 20 rfl rfl rfl (fun u => by go_simp; rfl) ?_
              simp only [Act.put, List.setIfInBounds_toArray, List.set_cons_zero, List.set_cons_succ]
              refine wpG_nil fun w' hb' hF => ?_
              clear hF
              have HBf := hid (HB4.out.trans (hb'.mono HB4.out.size))
              clear hb'
              go_wp2
              go_ret
              exact ⟨by rw [HZF.out]; rfl, HBf.out⟩
            · have HZF : Hid (formF W ⟨ty, .slice ah has.length ch, has⟩ = 8) := hid (by rw [hfm, if_pos (.inr hTL)])
              clear hty hwd hz hne0 hz0 hz1 hfm hTLd hT hh76 hh91 hcn hq hat
              go_enter Tryz.func72, Tryz.ntmps72
              go_wp2_with fail
              refine HCK.out.mono ?_
              rintro e w2 ⟨rfl, hb2⟩
              have H12 := hid hb2
              have HB2 := hid (HB1.out.trans (hb2.mono HB1.out.size))
              obtain ⟨x0, x1⟩ := HX.out _ hb2
              clear hb2
              go_wp2_with fail
              refine (number_any ty _).mono ?_
              rintro e w3 ⟨rfl, rfl⟩
              rw [HWD.out]
              go_wp2_with fail
              refine (kind_any W b ty _ (HW.out.at_.below HB2.out) HSZ.out).mono ?_
              rintro e w4 ⟨rfl, hb4⟩
              have H14 := hid (H12.out.trans (hb4.mono H12.out.size))
              have HB4 := hid (HB2.out.trans (hb4.mono HB2.out.size))
              obtain ⟨x0, x1⟩ := HX.out _ H14.out
              clear hb4
              rw [HKZ.out]
              rw [HEV.out]
              have hlk := HLK.out _ HB4.out
              go_wp2_with fail
              refine (HCL.out _).mono ?_
              rintro e w5 ⟨rfl, rfl⟩
              go_wp2_with fail
              have HU := hid H14.out
              have HBU := hid HB4.out
              refine wp_region_ext [(13, slR TL)] ⟨slR_stays _, trivial⟩ (by kernel_rfl) (by kernel_rfl) ?_
              refine wpG_calc 1 rfl rfl rfl (fun u => by go_simp; rfl) ?_
              simp only [Act.put, List.setIfInBounds_toArray, List.set_cons_zero, List.set_cons_succ]
              refine wpG_read 2 rfl rfl (.string ty) rfl ?_ ?_
              · intro u hu hh
                obtain ⟨y0, y1⟩ := HX.out u (HU.out.trans (hu.mono HU.out.size))
                go_simp
              simp only [Act.put, List.setIfInBounds_toArray, List.set_cons_zero, List.set_cons_succ]
              refine wpG_calc 3 rfl rfl rfl (fun u => by go_simp; rfl) ?_
              simp only [Act.put, List.setIfInBounds_toArray, List.set_cons_zero, List.set_cons_succ]
              refine wpG_calc (v := .bool false) 4 rfl rfl rfl (fun u => by first | (go_simp; done) | (go_simp; rfl)) ?_
              simp only [Act.put, List.setIfInBounds_toArray, List.set_cons_zero, List.set_cons_succ]
              refine wpG_calc 5 rfl rfl rfl (fun u => by go_simp; rfl) ?_
              simp only [Act.put, List.setIfInBounds_toArray, List.set_cons_zero, List.set_cons_succ]
              refine wpG_skip 6 rfl rfl ?_
              simp only [Act.put, List.setIfInBounds_toArray, List.set_cons_zero, List.set_cons_succ]
              refine wpG_skip 7 rfl rfl ?_
              simp only [Act.put, List.setIfInBounds_toArray, List.set_cons_zero, List.set_cons_succ]
              refine wpG_skip 8 rfl rfl ?_
              simp only [Act.put, List.setIfInBounds_toArray, List.set_cons_zero, List.set_cons_succ]
              refine wpG_skip 9 rfl rfl ?_
              simp only [Act.put, List.setIfInBounds_toArray, List.set_cons_zero, List.set_cons_succ]
              refine wpG_calc 10 rfl rfl rfl (fun u => by go_simp; rfl) ?_
              simp only [Act.put, List.setIfInBounds_toArray, List.set_cons_zero, List.set_cons_succ]
              refine wpG_calc 11 rfl rfl rfl (fun u => by go_simp; rfl) ?_
              simp only [Act.put, List.setIfInBounds_toArray, List.set_cons_zero, List.set_cons_succ]
              refine wpG_calc 12 rfl rfl rfl (fun u => by go_simp; rfl) ?_
              simp only [Act.put, List.setIfInBounds_toArray, List.set_cons_zero, List.set_cons_succ]
              refine wpG_read 13 rfl rfl (.agg #[.string ty, .slice ah has.length ch]) rfl ?_ ?_
              · intro u hu hh
                obtain ⟨y0, y1⟩ := HX.out u (HU.out.trans (hu.mono HU.out.size))
                go_simp
              simp only [Act.put, List.setIfInBounds_toArray, List.set_cons_zero, List.set_cons_succ]
              refine wpG_rel 14 rfl rfl rfl ?_ ?_
              · intro u hu hh
                go_simp
                refine (htypes_any W b ⟨ty, .slice ah has.length ch, has⟩ u (HW.out.below (HBU.out.trans (hu.mono HBU.out.size))) (HV.out.below (HBU.out.trans (hu.mono HBU.out.size))) HTY.out HLN.out).mono ?_
                rintro e w2 ⟨v, rfl, hs2, hb2⟩
                obtain ⟨a9, c9, h9⟩ := hs2.val
                exact ⟨_, rfl, ⟨a9, c9, h9.trans (congrArg (fun q => Value.slice a9 q c9) (by first | exact HTLD.out | exact HTLD.out.trans hTL))⟩, hb2⟩
              intro vT ⟨uT, _, hrT⟩
              obtain ⟨at_, ct, rfl⟩ := hrT
              simp only [Act.put, List.setIfInBounds_toArray, List.set_cons_zero, List.set_cons_succ]
              refine wpG_calc 15 rfl rfl rfl (fun u => by go_simp; rfl) ?_
              simp only [Act.put, List.setIfInBounds_toArray, List.set_cons_zero, List.set_cons_succ]
              refine wpG_calc 16 rfl rfl rfl (fun u => by go_simp; rfl) ?_
              simp only [Act.put, List.setIfInBounds_toArray, List.set_cons_zero, List.set_cons_succ]
              refine wpG_read 17 rfl rfl (.slice ah has.length ch) rfl ?_ ?_
              · intro u hu hh
                obtain ⟨y0, y1⟩ := HX.out u (HU.out.trans (hu.mono HU.out.size))
                go_simp
              simp only [Act.put, List.setIfInBounds_toArray, List.set_cons_zero, List.set_cons_succ]
              refine wpG_calc 18 rfl rfl rfl (fun u => by go_simp; rfl) ?_
              simp only [Act.put, List.setIfInBounds_toArray, List.set_cons_zero, List.set_cons_succ]
              refine wpG_calc (v := .bool true) 19 rfl rfl rfl (fun u => by first | (go_simp; done) | (go_simp; simp [hTL]; done) | (go_simp; omega)) ?_
              simp only [Act.put, List.setIfInBounds_toArray, List.set_cons_zero, List.set_cons_succ]
              refine wpG_calc 20 rfl rfl rfl (fun u => by go_simp; rfl) ?_
              simp only [Act.put, List.setIfInBounds_toArray, List.set_cons_zero, List.set_cons_succ]
              refine wpG_nil fun w' hb' hF => ?_
              clear hF
              have HBf := hid (HB4.out.trans (hb'.mono HB4.out.size))
              clear hb'
              go_wp2
              go_ret
              exact ⟨by rw [HZF.out]; rfl, HBf.out⟩
        · have hh76 : ¬ ty.data.toList.head? = some 76 := by rw [hT]; simpa using hy
          obtain rfl : y = 91 := by
            have h1 := refs_of_ty hty hwd
            rw [hT] at h1
            exact (refs_head.1 h1).resolve_left hy
          have hh91 : ty.data.toList.head? = some 91 := by rw [hT]; rfl
          rw [if_neg (fun h => hh76 h.1)] at hfm
          by_cases hbig : 10 < has.length
          · have HZB : Hid (formF W ⟨ty, .slice ah has.length ch, has⟩ = 8) := hid (by rw [hfm, if_pos (.inl ⟨hh91, hbig⟩)])
            have hb1 : (10 : Int) < (has.length : Int) := by omega
            clear hty hwd hz hne0 hz0 hz1 hfm hTLd hT hy hh76 hh91
            go_enter Tryz.func72, Tryz.ntmps72
            go_wp2_with fail
            refine HCK.out.mono ?_
            rintro e w2 ⟨rfl, hb2⟩
            have H12 := hid hb2
            have HB2 := hid (HB1.out.trans (hb2.mono HB1.out.size))
            obtain ⟨x0, x1⟩ := HX.out _ hb2
            clear hb2
            go_wp2_with fail
            refine (number_any ty _).mono ?_
            rintro e w3 ⟨rfl, rfl⟩
            rw [HWD.out]
            go_wp2_with fail
            refine (kind_any W b ty _ (HW.out.at_.below HB2.out) HSZ.out).mono ?_
            rintro e w4 ⟨rfl, hb4⟩
            have H14 := hid (H12.out.trans (hb4.mono H12.out.size))
            have HB4 := hid (HB2.out.trans (hb4.mono HB2.out.size))
            obtain ⟨x0, x1⟩ := HX.out _ H14.out
            clear hb4
            rw [HKZ.out]
            rw [HEV.out]
            go_wp2_with fail
            have HU := hid H14.out
            have HBU := hid HB4.out
            refine wp_region_ext [] trivial (by kernel_rfl) (by kernel_rfl) ?_
            refine wpG_calc 1 rfl rfl rfl (fun u => by go_simp; rfl) ?_
            simp only [Act.put, List.setIfInBounds_toArray, List.set_cons_zero, List.set_cons_succ]
            refine wpG_read 2 rfl rfl (.string ty) rfl ?_ ?_
            · intro u hu hh
              obtain ⟨y0, y1⟩ := HX.out u (HU.out.trans (hu.mono HU.out.size))
              go_simp
            simp only [Act.put, List.setIfInBounds_toArray, List.set_cons_zero, List.set_cons_succ]
            refine wpG_calc 3 rfl rfl rfl (fun u => by go_simp; rfl) ?_
            simp only [Act.put, List.setIfInBounds_toArray, List.set_cons_zero, List.set_cons_succ]
            refine wpG_calc (v := .bool true) 4 rfl rfl rfl (fun u => by first | (go_simp; done) | (go_simp; rfl)) ?_
            simp only [Act.put, List.setIfInBounds_toArray, List.set_cons_zero, List.set_cons_succ]
            refine wpG_calc 5 rfl rfl rfl (fun u => by go_simp; rfl) ?_
            simp only [Act.put, List.setIfInBounds_toArray, List.set_cons_zero, List.set_cons_succ]
            refine wpG_calc 6 rfl rfl rfl (fun u => by go_simp; rfl) ?_
            simp only [Act.put, List.setIfInBounds_toArray, List.set_cons_zero, List.set_cons_succ]
            refine wpG_read 7 rfl rfl (.slice ah has.length ch) rfl ?_ ?_
            · intro u hu hh
              obtain ⟨y0, y1⟩ := HX.out u (HU.out.trans (hu.mono HU.out.size))
              go_simp
            simp only [Act.put, List.setIfInBounds_toArray, List.set_cons_zero, List.set_cons_succ]
            refine wpG_calc 8 rfl rfl rfl (fun u => by go_simp; rfl) ?_
            simp only [Act.put, List.setIfInBounds_toArray, List.set_cons_zero, List.set_cons_succ]
            refine wpG_calc (v := .bool true) 9 rfl rfl rfl (fun u => by first | (go_simp; done) | (go_simp; simp [hbig])) ?_
            simp only [Act.put, List.setIfInBounds_toArray, List.set_cons_zero, List.set_cons_succ]
            refine wpG_calc 10 rfl rfl rfl (fun u => by go_simp; rfl) ?_
            simp only [Act.put, List.setIfInBounds_toArray, List.set_cons_zero, List.set_cons_succ]
            refine wpG_calc 11 rfl rfl rfl (fun u => by go_simp; rfl) ?_
            simp only [Act.put, List.setIfInBounds_toArray, List.set_cons_zero, List.set_cons_succ]
            refine wpG_skip 12 rfl rfl ?_
            simp only [Act.put, List.setIfInBounds_toArray, List.set_cons_zero, List.set_cons_succ]
            refine wpG_skip 13 rfl rfl ?_
            simp only [Act.put, List.setIfInBounds_toArray, List.set_cons_zero, List.set_cons_succ]
            refine wpG_skip 14 rfl rfl ?_
            simp only [Act.put, List.setIfInBounds_toArray, List.set_cons_zero, List.set_cons_succ]
            refine wpG_skip 15 rfl rfl ?_
            simp only [Act.put, List.setIfInBounds_toArray, List.set_cons_zero, List.set_cons_succ]
            refine wpG_skip 16 rfl rfl ?_
            simp only [Act.put, List.setIfInBounds_toArray, List.set_cons_zero, List.set_cons_succ]
            refine wpG_skip 17 rfl rfl ?_
            simp only [Act.put, List.setIfInBounds_toArray, List.set_cons_zero, List.set_cons_succ]
            refine wpG_skip 18 rfl rfl ?_
            simp only [Act.put, List.setIfInBounds_toArray, List.set_cons_zero, List.set_cons_succ]
            refine wpG_skip 19 rfl rfl ?_
            simp only [Act.put, List.setIfInBounds_toArray, List.set_cons_zero, List.set_cons_succ]
            refine wpG_calc 20 rfl rfl rfl (fun u => by go_simp; rfl) ?_
            simp only [Act.put, List.setIfInBounds_toArray, List.set_cons_zero, List.set_cons_succ]
            refine wpG_nil fun w' hb' hF => ?_
            clear hF
            have HBf := hid (HB4.out.trans (hb'.mono HB4.out.size))
            clear hb'
            go_wp2
            go_ret
            exact ⟨by rw [HZB.out]; rfl, HBf.out⟩
          · have hb1 : ¬ (10 : Int) < (has.length : Int) := by omega
            by_cases hTL : TL = has.length
            · have HZF : Hid (formF W ⟨ty, .slice ah has.length ch, has⟩ = 0) := hid (by rw [hfm, if_neg (by rintro (h | h); exact hbig h.2; exact h hTL)])
              clear hty hwd hz hne0 hz0 hz1 hfm hTLd hT hy hh76 hh91
              go_enter Tryz.func72, Tryz.ntmps72
              go_wp2_with fail
              refine HCK.out.mono ?_
              rintro e w2 ⟨rfl, hb2⟩
              have H12 := hid hb2
              have HB2 := hid (HB1.out.trans (hb2.mono HB1.out.size))
              obtain ⟨x0, x1⟩ := HX.out _ hb2
              clear hb2
              go_wp2_with fail
              refine (number_any ty _).mono ?_
              rintro e w3 ⟨rfl, rfl⟩
              rw [HWD.out]
              go_wp2_with fail
              refine (kind_any W b ty _ (HW.out.at_.below HB2.out) HSZ.out).mono ?_
              rintro e w4 ⟨rfl, hb4⟩
              have H14 := hid (H12.out.trans (hb4.mono H12.out.size))
              have HB4 := hid (HB2.out.trans (hb4.mono HB2.out.size))
              obtain ⟨x0, x1⟩ := HX.out _ H14.out
              clear hb4
              rw [HKZ.out]
              rw [HEV.out]
              go_wp2_with fail
              have HU := hid H14.out
              have HBU := hid HB4.out
              refine wp_region_ext [(13, slR TL)] ⟨slR_stays _, trivial⟩ (by kernel_rfl) (by kernel_rfl) ?_
              refine wpG_calc 1 rfl rfl rfl (fun u => by go_simp; rfl) ?_
              simp only [Act.put, List.setIfInBounds_toArray, List.set_cons_zero, List.set_cons_succ]
              refine wpG_read 2 rfl rfl (.string ty) rfl ?_ ?_
              · intro u hu hh
                obtain ⟨y0, y1⟩ := HX.out u (HU.out.trans (hu.mono HU.out.size))
                go_simp
              simp only [Act.put, List.setIfInBounds_toArray, List.set_cons_zero, List.set_cons_succ]
              refine wpG_calc 3 rfl rfl rfl (fun u => by go_simp; rfl) ?_
              simp only [Act.put, List.setIfInBounds_toArray, List.set_cons_zero, List.set_cons_succ]
              refine wpG_calc (v := .bool true) 4 rfl rfl rfl (fun u => by first | (go_simp; done) | (go_simp; rfl)) ?_
              simp only [Act.put, List.setIfInBounds_toArray, List.set_cons_zero, List.set_cons_succ]
              refine wpG_calc 5 rfl rfl rfl (fun u => by go_simp; rfl) ?_
              simp only [Act.put, List.setIfInBounds_toArray, List.set_cons_zero, List.set_cons_succ]
              refine wpG_calc 6 rfl rfl rfl (fun u => by go_simp; rfl) ?_
              simp only [Act.put, List.setIfInBounds_toArray, List.set_cons_zero, List.set_cons_succ]
              refine wpG_read 7 rfl rfl (.slice ah has.length ch) rfl ?_ ?_
              · intro u hu hh
                obtain ⟨y0, y1⟩ := HX.out u (HU.out.trans (hu.mono HU.out.size))
                go_simp
              simp only [Act.put, List.setIfInBounds_toArray, List.set_cons_zero, List.set_cons_succ]
              refine wpG_calc 8 rfl rfl rfl (fun u => by go_simp; rfl) ?_
              simp only [Act.put, List.setIfInBounds_toArray, List.set_cons_zero, List.set_cons_succ]
              refine wpG_calc (v := .bool false) 9 rfl rfl rfl (fun u => by first | (go_simp; done) | (go_simp; simp [hbig])) ?_
              simp only [Act.put, List.setIfInBounds_toArray, List.set_cons_zero, List.set_cons_succ]
              refine wpG_calc 10 rfl rfl rfl (fun u => by go_simp; rfl) ?_
              simp only [Act.put, List.setIfInBounds_toArray, List.set_cons_zero, List.set_cons_succ]
              refine wpG_calc 11 rfl rfl rfl (fun u => by go_simp; rfl) ?_
              simp only [Act.put, List.setIfInBounds_toArray, List.set_cons_zero, List.set_cons_succ]
              refine wpG_calc 12 rfl rfl rfl (fun u => by go_simp; rfl) ?_
              simp only [Act.put, List.setIfInBounds_toArray, List.set_cons_zero, List.set_cons_succ]
              refine wpG_read 13 rfl rfl (.agg #[.string ty, .slice ah has.length ch]) rfl ?_ ?_
              · intro u hu hh
                obtain ⟨y0, y1⟩ := HX.out u (HU.out.trans (hu.mono HU.out.size))
                go_simp
              simp only [Act.put, List.setIfInBounds_toArray, List.set_cons_zero, List.set_cons_succ]
              refine wpG_rel 14 rfl rfl rfl ?_ ?_
              · intro u hu hh
                go_simp
                refine (htypes_any W b ⟨ty, .slice ah has.length ch, has⟩ u (HW.out.below (HBU.out.trans (hu.mono HBU.out.size))) (HV.out.below (HBU.out.trans (hu.mono HBU.out.size))) HTY.out HLN.out).mono ?_
                rintro e w2 ⟨v, rfl, hs2, hb2⟩
                obtain ⟨a9, c9, h9⟩ := hs2.val
                exact ⟨_, rfl, ⟨a9, c9, h9.trans (congrArg (fun q => Value.slice a9 q c9) (by first | exact HTLD.out | exact HTLD.out.trans hTL))⟩, hb2⟩
              intro vT ⟨uT, _, hrT⟩
              obtain ⟨at_, ct, rfl⟩ := hrT
              simp only [Act.put, List.setIfInBounds_toArray, List.set_cons_zero, List.set_cons_succ]
              refine wpG_calc 15 rfl rfl rfl (fun u => by go_simp; rfl) ?_
              simp only [Act.put, List.setIfInBounds_toArray, List.set_cons_zero, List.set_cons_succ]
              refine wpG_calc 16 rfl rfl rfl (fun u => by go_simp; rfl) ?_
              simp only [Act.put, List.setIfInBounds_toArray, List.set_cons_zero, List.set_cons_succ]
              refine wpG_read 17 rfl rfl (.slice ah has.length ch) rfl ?_ ?_
              · intro u hu hh
                obtain ⟨y0, y1⟩ := HX.out u (HU.out.trans (hu.mono HU.out.size))
                go_simp
              simp only [Act.put, List.setIfInBounds_toArray, List.set_cons_zero, List.set_cons_succ]
              refine wpG_calc 18 rfl rfl rfl (fun u => by go_simp; rfl) ?_
              simp only [Act.put, List.setIfInBounds_toArray, List.set_cons_zero, List.set_cons_succ]
              refine wpG_calc (v := .bool false) 19 rfl rfl rfl (fun u => by first | (go_simp; done) | (go_simp; simp [hTL]; done) | (go_simp; omega)) ?_
              simp only [Act.put, List.setIfInBounds_toArray, List.set_cons_zero, List.set_cons_succ]
              refine wpG_calc 20 rfl rfl rfl (fun u => by go_simp; rfl) ?_
              simp only [Act.put, List.setIfInBounds_toArray, List.set_cons_zero, List.set_cons_succ]
              refine wpG_nil fun w' hb' hF => ?_
              clear hF
              have HBf := hid (HB4.out.trans (hb'.mono HB4.out.size))
              clear hb'
              go_wp2
              go_ret
              exact ⟨by rw [HZF.out]; rfl, HBf.out⟩
            · have HZF : Hid (formF W ⟨ty, .slice ah has.length ch, has⟩ = 8) := hid (by rw [hfm, if_pos (.inr hTL)])
              clear hty hwd hz hne0 hz0 hz1 hfm hTLd hT hy hh76 hh91
              go_enter Tryz.func72, Tryz.ntmps72
              go_wp2_with fail
              refine HCK.out.mono ?_
              rintro e w2 ⟨rfl, hb2⟩
              have H12 := hid hb2
              have HB2 := hid (HB1.out.trans (hb2.mono HB1.out.size))
              obtain ⟨x0, x1⟩ := HX.out _ hb2
              clear hb2
              go_wp2_with fail
              refine (number_any ty _).mono ?_
              rintro e w3 ⟨rfl, rfl⟩
              rw [HWD.out]
              go_wp2_with fail
              refine (kind_any W b ty _ (HW.out.at_.below HB2.out) HSZ.out).mono ?_
              rintro e w4 ⟨rfl, hb4⟩
              have H14 := hid (H12.out.trans (hb4.mono H12.out.size))
              have HB4 := hid (HB2.out.trans (hb4.mono HB2.out.size))
              obtain ⟨x0, x1⟩ := HX.out _ H14.out
              clear hb4
              rw [HKZ.out]
              rw [HEV.out]
              go_wp2_with fail
              have HU := hid H14.out
              have HBU := hid HB4.out
              refine wp_region_ext [(13, slR TL)] ⟨slR_stays _, trivial⟩ (by kernel_rfl) (by kernel_rfl) ?_
              refine wpG_calc 1 rfl rfl rfl (fun u => by go_simp; rfl) ?_
              simp only [Act.put, List.setIfInBounds_toArray, List.set_cons_zero, List.set_cons_succ]
              refine wpG_read 2 rfl rfl (.string ty) rfl ?_ ?_
              · intro u hu hh
                obtain ⟨y0, y1⟩ := HX.out u (HU.out.trans (hu.mono HU.out.size))
                go_simp
              simp only [Act.put, List.setIfInBounds_toArray, List.set_cons_zero, List.set_cons_succ]
              refine wpG_calc 3 rfl rfl rfl (fun u => by go_simp; rfl) ?_
              simp only [Act.put, List.setIfInBounds_toArray, List.set_cons_zero, List.set_cons_succ]
              refine wpG_calc (v := .bool true) 4 rfl rfl rfl (fun u => by first | (go_simp; done) | (go_simp; rfl)) ?_
              simp only [Act.put, List.setIfInBounds_toArray, List.set_cons_zero, List.set_cons_succ]
              refine wpG_calc 5 rfl rfl rfl (fun u => by go_simp; rfl) ?_
              simp only [Act.put, List.setIfInBounds_toArray, List.set_cons_zero, List.set_cons_succ]
              refine wpG_calc 6 rfl rfl rfl (fun u => by go_simp; rfl) ?_
              simp only [Act.put, List.setIfInBounds_toArray, List.set_cons_zero, List.set_cons_succ]
              refine wpG_read 7 rfl rfl (.slice ah has.length ch) rfl ?_ ?_
              · intro u hu hh
                obtain ⟨y0, y1⟩ := HX.out u (HU.out.trans (hu.mono HU.out.size))
                go_simp
              simp only [Act.put, List.setIfInBounds_toArray, List.set_cons_zero, List.set_cons_succ]
              refine wpG_calc 8 rfl rfl rfl (fun u => by go_simp; rfl) ?_
              simp only [Act.put, List.setIfInBounds_toArray, List.set_cons_zero, List.set_cons_succ]
              refine wpG_calc (v := .bool false) 9 rfl rfl rfl (fun u => by first | (go_simp; done) | (go_simp; simp [hbig])) ?_
              simp only [Act.put, List.setIfInBounds_toArray, List.set_cons_zero, List.set_cons_succ]
              refine wpG_calc 10 rfl rfl rfl (fun u => by go_simp; rfl) ?_
              simp only [Act.put, List.setIfInBounds_toArray, List.set_cons_zero, List.set_cons_succ]
              refine wpG_calc 11 rfl rfl rfl (fun u => by go_simp; rfl) ?_
              simp only [Act.put, List.setIfInBounds_toArray, List.set_cons_zero, List.set_cons_succ]
              refine wpG_calc 12 rfl rfl rfl (fun u => by go_simp; rfl) ?_
              simp only [Act.put, List.setIfInBounds_toArray, List.set_cons_zero, List.set_cons_succ]
              refine wpG_read 13 rfl rfl (.agg #[.string ty, .slice ah has.length ch]) rfl ?_ ?_
              · intro u hu hh
                obtain ⟨y0, y1⟩ := HX.out u (HU.out.trans (hu.mono HU.out.size))
                go_simp
              simp only [Act.put, List.setIfInBounds_toArray, List.set_cons_zero, List.set_cons_succ]
              refine wpG_rel 14 rfl rfl rfl ?_ ?_
              · intro u hu hh
                go_simp
                refine (htypes_any W b ⟨ty, .slice ah has.length ch, has⟩ u (HW.out.below (HBU.out.trans (hu.mono HBU.out.size))) (HV.out.below (HBU.out.trans (hu.mono HBU.out.size))) HTY.out HLN.out).mono ?_
                rintro e w2 ⟨v, rfl, hs2, hb2⟩
                obtain ⟨a9, c9, h9⟩ := hs2.val
                exact ⟨_, rfl, ⟨a9, c9, h9.trans (congrArg (fun q => Value.slice a9 q c9) (by first | exact HTLD.out | exact HTLD.out.trans hTL))⟩, hb2⟩
              intro vT ⟨uT, _, hrT⟩
              obtain ⟨at_, ct, rfl⟩ := hrT
              simp only [Act.put, List.setIfInBounds_toArray, List.set_cons_zero, List.set_cons_succ]
              refine wpG_calc 15 rfl rfl rfl (fun u => by go_simp; rfl) ?_
              simp only [Act.put, List.setIfInBounds_toArray, List.set_cons_zero, List.set_cons_succ]
              refine wpG_calc 16 rfl rfl rfl (fun u => by go_simp; rfl) ?_
              simp only [Act.put, List.setIfInBounds_toArray, List.set_cons_zero, List.set_cons_succ]
              refine wpG_read 17 rfl rfl (.slice ah has.length ch) rfl ?_ ?_
              · intro u hu hh
                obtain ⟨y0, y1⟩ := HX.out u (HU.out.trans (hu.mono HU.out.size))
                go_simp
              simp only [Act.put, List.setIfInBounds_toArray, List.set_cons_zero, List.set_cons_succ]
              refine wpG_calc 18 rfl rfl rfl (fun u => by go_simp; rfl) ?_
              simp only [Act.put, List.setIfInBounds_toArray, List.set_cons_zero, List.set_cons_succ]
              refine wpG_calc (v := .bool true) 19 rfl rfl rfl (fun u => by first | (go_simp; done) | (go_simp; simp [hTL]; done) | (go_simp; omega)) ?_
              simp only [Act.put, List.setIfInBounds_toArray, List.set_cons_zero, List.set_cons_succ]
              refine wpG_calc 20 rfl rfl rfl (fun u => by go_simp; rfl) ?_
              simp only [Act.put, List.setIfInBounds_toArray, List.set_cons_zero, List.set_cons_succ]
              refine wpG_nil fun w' hb' hF => ?_
              clear hF
              have HBf := hid (HB4.out.trans (hb'.mono HB4.out.size))
              clear hb'
              go_wp2
              go_ret
              exact ⟨by rw [HZF.out]; rfl, HBf.out⟩
      · have HZ : Hid (formF W ⟨ty, .slice ah has.length ch, has⟩ = z) := hid (by
          unfold formF
          rw [if_neg hne0]
          simp only [hz]
          rw [if_pos hz0])
        have HEV : Hid (errVal z = .iface 45 (.int .i64 z)) := hid (by unfold errVal; rw [if_neg hz0])
        clear hty hwd hz hne0 hz0
        go_enter Tryz.func72, Tryz.ntmps72
        go_wp2_with fail
        refine HCK.out.mono ?_
        rintro e w2 ⟨rfl, hb2⟩
        have H12 := hid hb2
        have HB2 := hid (HB1.out.trans (hb2.mono HB1.out.size))
        obtain ⟨x0, x1⟩ := HX.out _ hb2
        clear hb2
        go_wp2_with fail
        refine (number_any ty _).mono ?_
        rintro e w3 ⟨rfl, rfl⟩
        rw [HWD.out]
        go_wp2_with fail
        refine (kind_any W b ty _ (HW.out.at_.below HB2.out) HSZ.out).mono ?_
        rintro e w4 ⟨rfl, hb4⟩
        have H14 := hid (H12.out.trans (hb4.mono H12.out.size))
        have HB4 := hid (HB2.out.trans (hb4.mono HB2.out.size))
        obtain ⟨x0, x1⟩ := HX.out _ H14.out
        clear hb4
        rw [HKZ.out]
        rw [HEV.out]
        go_wp2
        go_ret
        exact ⟨by rw [HZ.out, HEV.out]; rfl, HB4.out⟩
end Go.Proofs.YtkfkdbmgmifopaaGreatDoor.worlds
