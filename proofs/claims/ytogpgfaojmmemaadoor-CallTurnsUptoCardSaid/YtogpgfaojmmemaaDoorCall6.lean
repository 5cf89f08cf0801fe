/- Handles called: call.made, an arg changed, its subs' answers given. Condition: the lists are not long. -/
import Derived.Test.YtogpgfaojmmemaaDoorCall5
set_option linter.unusedSimpArgs false
set_option linter.unusedVariables false
namespace Go.Proofs.YtogpgfaojmmemaaDoor.hands
open Go.RowKit Go.Proofs.YtogpgfaojmmemaaDoor.lib Go.Proofs.YtogpgfaojmmemaaDoor.errs Go.Proofs.YtogpgfaojmmemaaDoor.mtypes Go.Proofs.YtogpgfaojmmemaaDoor.grow Go.Proofs.YtogpgfaojmmemaaDoor.nums

set_option maxRecDepth 100000 in
set_option maxHeartbeats 4000000 in
theorem made_filter_none (t : ByteArray) (i : Nat) (av sa aa : Option Addr) (n1 cv n2 cs ca : Nat) (az : List Int) (w : World) (haz : Sl w (.slice aa az.length ca) az.length 1 (az.map iv)) (hn : az.length ≤ 100) (vq : Int) (hv : az[i]? = some vq) (l : List Nd) (hl : l.length = n2) (hsl : Sl w (.slice sa n2 cs) n2 5 (l.flatMap Nd.cells)) (y1 : Nd) (hi1 : l[1]? = some y1) (hy1 : NAt w y1) (hm1 : ∀ (u : World) (v : Value), Below w.heap.size w u → Sl u v ([vq]).length 1 (([vq]).map iv) → Calls Tryd.prog 31 #[.agg #[.int .i64 y1.k, .string y1.t, .int .i64 y1.a, y1.va, y1.vs], v] u (MadeBy u (toldN y1 ([vq])))) (hm2 : toldN y1 [vq] = none) : Calls Tryd.prog 31 #[.agg #[.int .i64 7, .string t, .int .i64 (i : Int), .slice av n1 cv, .slice sa n2 cs], .slice aa az.length ca] w (MadeBy w none) := by
  have HAZ := hid haz
  have HQ1 : Hid (toldN y1 [vq] = none) := hid hm2
  obtain ⟨a, ha⟩ : ∃ a : Int, (i : Int) = a := ⟨_, rfl⟩
  simp only [ha]
  obtain ⟨X1, hX1⟩ : ∃ X1, w.alloc (.cells #[.int .i64 7, .string t, .int .i64 a, .slice av n1 cv, .slice sa n2 cs] 25) = X1 := ⟨_, rfl⟩
  have HB1 : Hid (Below w.heap.size w X1) := hid (hX1 ▸ ext_alloc _ _)
  have HLT : Hid (w.heap.size < X1.heap.size) := hid (by rw [← hX1]; simp)
  have HXR : Hid (X1.heap[w.heap.size]? = some (.cells #[.int .i64 7, .string t, .int .i64 a, .slice av n1 cv, .slice sa n2 cs] 25 (0, 0))) := hid (by rw [← hX1]; exact heap_alloc_new _ _)
  have HK1 : Hid (∀ u, Below X1.heap.size X1 u → u.cell? ⟨w.heap.size, 1, none⟩ = some (.string t)) := hid (fun u hu => by rw [cell_of_row _ _ _ _ _ _ ((hu.block _ HLT.out).trans HXR.out)]; rfl)
  have HK2 : Hid (∀ u, Below X1.heap.size X1 u → u.cell? ⟨w.heap.size, 2, none⟩ = some (.int .i64 a)) := hid (fun u hu => by rw [cell_of_row _ _ _ _ _ _ ((hu.block _ HLT.out).trans HXR.out)]; rfl)
  have HK3 : Hid (∀ u, Below X1.heap.size X1 u → u.cell? ⟨w.heap.size, 3, none⟩ = some (.slice av n1 cv)) := hid (fun u hu => by rw [cell_of_row _ _ _ _ _ _ ((hu.block _ HLT.out).trans HXR.out)]; rfl)
  have HK4 : Hid (∀ u, Below X1.heap.size X1 u → u.cell? ⟨w.heap.size, 4, none⟩ = some (.slice sa n2 cs)) := hid (fun u hu => by rw [cell_of_row _ _ _ _ _ _ ((hu.block _ HLT.out).trans HXR.out)]; rfl)
  have hq0 : X1.cell? ⟨w.heap.size, 0, none⟩ = some (.int .i64 7) := by rw [cell_of_row _ _ _ _ _ _ HXR.out]; rfl
  have hq2 := HK2.out X1 (Below.refl _ _)
  have hq3 := HK3.out X1 (Below.refl _ _)
  have hmf : ∀ (fn : Fn) (first cap : Array Value) (w : World), (Instr.makeFunc fn first cap).run Tryd.prog w = .ok (.func fn first cap) w := fun _ _ _ _ => rfl
  have HS1 : Hid (∀ (u : World) (v : Value), Below X1.heap.size X1 u → Sl u v ([vq]).length 1 (([vq]).map iv) → Calls Tryd.prog 52 #[.int .i64 1, v, .pointer (some ⟨w.heap.size, 0, none⟩)] u (MadeBy u none)) := hid (fun u v hu hv => by
    have hb := HB1.out.trans (hu.mono HB1.out.size)
    exact sub_any w.heap.size 1 u sa n2 cs l v _ y1 hl (HK4.out u hu) (hsl.below hb) hi1 (hy1.below hb) (HQ1.out ▸ hm1 u v hb hv))
  have HI : Hid (i < az.length) := hid (List.getElem?_eq_some_iff.1 hv).1
  have HV := hid hv
  subst ha
  have h0i : 0 ≤ (i : Int) := by omega
  have hil : (i : Int) < (az.length : Int) := by have := HI.out; omega
  clear haz hsl hm1 hm2 hi1 hy1 hl hv
  go_enter Tryd.func31, Tryd.ntmps31
  go_wp2_with fail
  refine (cloneN_any _ az _ (HAZ.out.below HB1.out) (by omega)).mono ?_
  rintro e w3 ⟨v3, rfl, ho3⟩
  obtain ⟨g, cap, hv3, hcap, hcell⟩ := Out.shape ho3 (Nat.lt_of_le_of_lt (Nat.zero_le _) HI.out)
  subst hv3
  have HO3 := hid ho3
  have HC3 : Hid (∀ u, Below w3.heap.size w3 u → u.cell? ⟨g, i, none⟩ = some (.int .i64 vq)) := hid (fun u hu => by
    have h := hcell i (.int .i64 vq) (by rw [List.getElem?_map, HV.out]; rfl)
    exact (hu.cell (World.block_lt_of_cell? _ _ h)).trans h)
  have HX3 := hid ho3.below
  have HB3 := hid (HB1.out.trans (HX3.out.mono HB1.out.size))
  clear ho3 hcell hcap
  go_wp2_with fail

  refine wp_region_pan 12 10 unm [(9, oneR vq)] ⟨oneR_stays _, trivial⟩ (by kernel_rfl) (by kernel_rfl) (by decide) (fun a' w5 hd hb5 => ⟨hd, HB3.out.trans (hb5.mono HB3.out.size), rfl⟩) ?_
  refine wpGP_calc 1 rfl (by decide) rfl rfl (fun u => by go_simp; rfl) ?_
  simp only [Act.put, List.setIfInBounds_toArray, List.set_cons_zero, List.set_cons_succ]
  refine wpGP_calc 2 rfl (by decide) rfl rfl (fun u => by go_simp; rfl) ?_
  simp only [Act.put, List.setIfInBounds_toArray, List.set_cons_zero, List.set_cons_succ]
  refine wpGP_read 3 rfl (by decide) rfl (.int .i64 i) rfl ?_ ?_
  · intro u hu hh
    have hk := HK2.out u (HX3.out.trans (hu.mono HX3.out.size))
    go_simp
  simp only [Act.put, List.setIfInBounds_toArray, List.set_cons_zero, List.set_cons_succ]
  refine wpGP_calc 4 rfl (by decide) rfl rfl (fun u => by go_simp; rfl) ?_
  simp only [Act.put, List.setIfInBounds_toArray, List.set_cons_zero, List.set_cons_succ]
  refine wpGP_calc 5 rfl (by decide) rfl rfl (fun u => by go_simp; rfl) ?_
  simp only [Act.put, List.setIfInBounds_toArray, List.set_cons_zero, List.set_cons_succ]
  refine wpGP_calc 6 rfl (by decide) rfl rfl (fun u => by go_simp; rfl) ?_
  simp only [Act.put, List.setIfInBounds_toArray, List.set_cons_zero, List.set_cons_succ]
  refine wpGP_read 7 rfl (by decide) rfl (.int .i64 i) rfl ?_ ?_
  · intro u hu hh
    have hk := HK2.out u (HX3.out.trans (hu.mono HX3.out.size))
    go_simp
  simp only [Act.put, List.setIfInBounds_toArray, List.set_cons_zero, List.set_cons_succ]
  refine wpGP_calc 8 rfl (by decide) rfl rfl (fun u => by go_simp; rfl) ?_
  simp only [Act.put, List.setIfInBounds_toArray, List.set_cons_zero, List.set_cons_succ]
  refine wpGP_read 9 rfl (by decide) rfl (.int .i64 vq) rfl ?_ ?_
  · intro u hu hh
    have hk := HC3.out u hu
    go_simp
  simp only [Act.put, List.setIfInBounds_toArray, List.set_cons_zero, List.set_cons_succ]
  refine wpGP_rel 10 rfl (by decide) rfl rfl ?_ ?_
  · intro u hu hh
    go_simp
    exact ⟨⟨_, rfl, heap_alloc_new _ _⟩, ext_alloc _ _⟩
  intro vS ⟨uS, _, hrS⟩
  clear hrS
  simp only [Act.put, List.setIfInBounds_toArray, List.set_cons_zero, List.set_cons_succ]
  refine wpGP_pan 11 rfl rfl rfl ?_ ?_
  · intro u hu hh
    have hk : oneR vq vS u := hh 9 rfl
    go_simp
    refine (HS1.out u _ (HX3.out.trans (hu.mono HX3.out.size)) (oneR_sl hk)).mono ?_
    rintro e w6 ⟨hb6, rfl⟩
    exact ⟨rfl, hb6⟩
  simp only [Act.put, List.setIfInBounds_toArray, List.set_cons_zero, List.set_cons_succ]
  refine wpGP_calc 12 rfl (by decide) rfl rfl (fun u => by go_simp; rfl) ?_
  simp only [Act.put, List.setIfInBounds_toArray, List.set_cons_zero, List.set_cons_succ]
  exact trivial

set_option maxRecDepth 100000 in
set_option maxHeartbeats 4000000 in
theorem made_filter (t : ByteArray) (m : Int) (i : Nat) (av sa aa : Option Addr) (n1 cv n2 cs ca : Nat) (az : List Int) (w : World) (haz : Sl w (.slice aa az.length ca) az.length 1 (az.map iv)) (hn : az.length ≤ 100) (vq : Int) (hv : az[i]? = some vq) (l : List Nd) (hl : l.length = n2) (hsl : Sl w (.slice sa n2 cs) n2 5 (l.flatMap Nd.cells)) (y0 : Nd) (hi0 : l[0]? = some y0) (hy0 : NAt w y0) (hm0 : ∀ (u : World) (v : Value), Below w.heap.size w u → Sl u v (az.set i m).length 1 ((az.set i m).map iv) → Calls Tryd.prog 31 #[.agg #[.int .i64 y0.k, .string y0.t, .int .i64 y0.a, y0.va, y0.vs], v] u (MadeBy u (toldN y0 (az.set i m)))) (y1 : Nd) (hi1 : l[1]? = some y1) (hy1 : NAt w y1) (hm1 : ∀ (u : World) (v : Value), Below w.heap.size w u → Sl u v ([vq]).length 1 (([vq]).map iv) → Calls Tryd.prog 31 #[.agg #[.int .i64 y1.k, .string y1.t, .int .i64 y1.a, y1.va, y1.vs], v] u (MadeBy u (toldN y1 ([vq])))) (hm2 : toldN y1 [vq] = some m) : Calls Tryd.prog 31 #[.agg #[.int .i64 7, .string t, .int .i64 (i : Int), .slice av n1 cv, .slice sa n2 cs], .slice aa az.length ca] w (MadeBy w (toldN y0 (az.set i m))) := by
  have HAZ := hid haz
  have HQ1 : Hid (toldN y1 [vq] = some m) := hid hm2
  obtain ⟨r0, hr0⟩ : ∃ R, toldN y0 (az.set i m) = R := ⟨_, rfl⟩
  have HQ0 := hid hr0
  obtain ⟨a, ha⟩ : ∃ a : Int, (i : Int) = a := ⟨_, rfl⟩
  rw [hr0]
  simp only [ha]
  obtain ⟨X1, hX1⟩ : ∃ X1, w.alloc (.cells #[.int .i64 7, .string t, .int .i64 a, .slice av n1 cv, .slice sa n2 cs] 25) = X1 := ⟨_, rfl⟩
  have HB1 : Hid (Below w.heap.size w X1) := hid (hX1 ▸ ext_alloc _ _)
  have HLT : Hid (w.heap.size < X1.heap.size) := hid (by rw [← hX1]; simp)
  have HXR : Hid (X1.heap[w.heap.size]? = some (.cells #[.int .i64 7, .string t, .int .i64 a, .slice av n1 cv, .slice sa n2 cs] 25 (0, 0))) := hid (by rw [← hX1]; exact heap_alloc_new _ _)
  have HK1 : Hid (∀ u, Below X1.heap.size X1 u → u.cell? ⟨w.heap.size, 1, none⟩ = some (.string t)) := hid (fun u hu => by rw [cell_of_row _ _ _ _ _ _ ((hu.block _ HLT.out).trans HXR.out)]; rfl)
  have HK2 : Hid (∀ u, Below X1.heap.size X1 u → u.cell? ⟨w.heap.size, 2, none⟩ = some (.int .i64 a)) := hid (fun u hu => by rw [cell_of_row _ _ _ _ _ _ ((hu.block _ HLT.out).trans HXR.out)]; rfl)
  have HK3 : Hid (∀ u, Below X1.heap.size X1 u → u.cell? ⟨w.heap.size, 3, none⟩ = some (.slice av n1 cv)) := hid (fun u hu => by rw [cell_of_row _ _ _ _ _ _ ((hu.block _ HLT.out).trans HXR.out)]; rfl)
  have HK4 : Hid (∀ u, Below X1.heap.size X1 u → u.cell? ⟨w.heap.size, 4, none⟩ = some (.slice sa n2 cs)) := hid (fun u hu => by rw [cell_of_row _ _ _ _ _ _ ((hu.block _ HLT.out).trans HXR.out)]; rfl)
  have hq0 : X1.cell? ⟨w.heap.size, 0, none⟩ = some (.int .i64 7) := by rw [cell_of_row _ _ _ _ _ _ HXR.out]; rfl
  have hq2 := HK2.out X1 (Below.refl _ _)
  have hq3 := HK3.out X1 (Below.refl _ _)
  have hmf : ∀ (fn : Fn) (first cap : Array Value) (w : World), (Instr.makeFunc fn first cap).run Tryd.prog w = .ok (.func fn first cap) w := fun _ _ _ _ => rfl
  have HS0 : Hid (∀ (u : World) (v : Value), Below X1.heap.size X1 u → Sl u v (az.set i m).length 1 ((az.set i m).map iv) → Calls Tryd.prog 52 #[.int .i64 0, v, .pointer (some ⟨w.heap.size, 0, none⟩)] u (MadeBy u r0)) := hid (fun u v hu hv => by
    have hb := HB1.out.trans (hu.mono HB1.out.size)
    exact sub_any w.heap.size 0 u sa n2 cs l v _ y0 hl (HK4.out u hu) (hsl.below hb) hi0 (hy0.below hb) (HQ0.out ▸ hm0 u v hb hv))
  have HS1 : Hid (∀ (u : World) (v : Value), Below X1.heap.size X1 u → Sl u v ([vq]).length 1 (([vq]).map iv) → Calls Tryd.prog 52 #[.int .i64 1, v, .pointer (some ⟨w.heap.size, 0, none⟩)] u (MadeBy u (some m))) := hid (fun u v hu hv => by
    have hb := HB1.out.trans (hu.mono HB1.out.size)
    exact sub_any w.heap.size 1 u sa n2 cs l v _ y1 hl (HK4.out u hu) (hsl.below hb) hi1 (hy1.below hb) (HQ1.out ▸ hm1 u v hb hv))
  have HI : Hid (i < az.length) := hid (List.getElem?_eq_some_iff.1 hv).1
  have HV := hid hv
  subst ha
  have h0i : 0 ≤ (i : Int) := by omega
  have hil : (i : Int) < (az.length : Int) := by have := HI.out; omega
  have HLE : Hid ((az.set i m).length = az.length) := hid (by rw [List.length_set])
  clear haz hsl hm0 hm1 hm2 hi0 hi1 hy0 hy1 hl hv hr0
  go_enter Tryd.func31, Tryd.ntmps31
  go_wp2_with fail
  refine (cloneN_any _ az _ (HAZ.out.below HB1.out) (by omega)).mono ?_
  rintro e w3 ⟨v3, rfl, ho3⟩
  obtain ⟨g, cap, hv3, hcap, hcell⟩ := Out.shape ho3 (Nat.lt_of_le_of_lt (Nat.zero_le _) HI.out)
  subst hv3
  have HO3 := hid ho3
  have HC3 : Hid (∀ u, Below w3.heap.size w3 u → u.cell? ⟨g, i, none⟩ = some (.int .i64 vq)) := hid (fun u hu => by
    have h := hcell i (.int .i64 vq) (by rw [List.getElem?_map, HV.out]; rfl)
    exact (hu.cell (World.block_lt_of_cell? _ _ h)).trans h)
  have HX3 := hid ho3.below
  have HB3 := hid (HB1.out.trans (HX3.out.mono HB1.out.size))
  clear ho3 hcell hcap
  go_wp2_with fail

  refine wp_region_ext_tail 12 [(9, oneR vq), (10, is (.int .i64 m))] ⟨oneR_stays _, is_stays _, trivial⟩ (by kernel_rfl) (by kernel_rfl) ?_
  refine wpG_calc 1 rfl rfl rfl (fun u => by go_simp; rfl) ?_
  simp only [Act.put, List.setIfInBounds_toArray, List.set_cons_zero, List.set_cons_succ]
  refine wpG_calc 2 rfl rfl rfl (fun u => by go_simp; rfl) ?_
  simp only [Act.put, List.setIfInBounds_toArray, List.set_cons_zero, List.set_cons_succ]
  refine wpG_read 3 rfl rfl (.int .i64 i) rfl ?_ ?_
  · intro u hu hh
    have hk := HK2.out u (HX3.out.trans (hu.mono HX3.out.size))
    go_simp
  simp only [Act.put, List.setIfInBounds_toArray, List.set_cons_zero, List.set_cons_succ]
  refine wpG_calc 4 rfl rfl rfl (fun u => by go_simp; rfl) ?_
  simp only [Act.put, List.setIfInBounds_toArray, List.set_cons_zero, List.set_cons_succ]
  refine wpG_calc 5 rfl rfl rfl (fun u => by go_simp; rfl) ?_
  simp only [Act.put, List.setIfInBounds_toArray, List.set_cons_zero, List.set_cons_succ]
  refine wpG_calc 6 rfl rfl rfl (fun u => by go_simp; rfl) ?_
  simp only [Act.put, List.setIfInBounds_toArray, List.set_cons_zero, List.set_cons_succ]
  refine wpG_read 7 rfl rfl (.int .i64 i) rfl ?_ ?_
  · intro u hu hh
    have hk := HK2.out u (HX3.out.trans (hu.mono HX3.out.size))
    go_simp
  simp only [Act.put, List.setIfInBounds_toArray, List.set_cons_zero, List.set_cons_succ]
  refine wpG_calc 8 rfl rfl rfl (fun u => by go_simp; rfl) ?_
  simp only [Act.put, List.setIfInBounds_toArray, List.set_cons_zero, List.set_cons_succ]
  refine wpG_read 9 rfl rfl (.int .i64 vq) rfl ?_ ?_
  · intro u hu hh
    have hk := HC3.out u hu
    go_simp
  simp only [Act.put, List.setIfInBounds_toArray, List.set_cons_zero, List.set_cons_succ]
  refine wpG_rel 10 rfl rfl rfl ?_ ?_
  · intro u hu hh
    go_simp
    exact ⟨⟨_, rfl, heap_alloc_new _ _⟩, ext_alloc _ _⟩
  intro vS ⟨uS, _, hrS⟩
  clear hrS
  simp only [Act.put, List.setIfInBounds_toArray, List.set_cons_zero, List.set_cons_succ]
  refine wpG_rel 11 rfl rfl rfl ?_ ?_
  · intro u hu hh
    have hk : oneR vq vS u := hh 9 rfl
    go_simp
    refine (HS1.out u _ (HX3.out.trans (hu.mono HX3.out.size)) (oneR_sl hk)).mono ?_
    rintro e w6 ⟨hb6, rfl⟩
    exact ⟨_, rfl, rfl, hb6⟩
  intro vZ ⟨uZ, _, hrZ⟩
  obtain rfl : vZ = .int .i64 m := hrZ
  simp only [Act.put, List.setIfInBounds_toArray, List.set_cons_zero, List.set_cons_succ]
  refine wpG_calc 12 rfl rfl rfl (fun u => by go_simp; rfl) ?_
  simp only [Act.put, List.setIfInBounds_toArray, List.set_cons_zero, List.set_cons_succ]
  refine wpG_nil fun w4 hb4 hF => ?_
  clear hF
  obtain ⟨g', cap', u0, hg', _, hc4, hf4, hst⟩ := Out.store (Out.later HO3.out hb4) HI.out
  cases hg'
  have HST := hid (hst (.int .i64 m))
  have hXX := hst (.int .i64 m)
  have HX5 := hid hXX.below
  have HS5 : Hid (Sl (w4.setCell ⟨g, i, none⟩ (.int .i64 m)) (.slice (some ⟨g, 0, none⟩) az.length cap) (az.set i m).length 1 ((az.set i m).map iv)) := hid (by
    have h := hXX.sl
    rw [HLE.out, List.map_set]
    exact h)
  clear hst hXX hb4
  have HB5 := hid (HB1.out.trans (HX5.out.mono HB1.out.size))
  go_wp2_with fail

  refine (HS0.out _ _ HX5.out HS5.out).mono ?_
  rintro e w6 ⟨hb6, he6⟩
  have HB6 := hid (HB5.out.trans (hb6.mono HB5.out.size))
  clear hb6
  cases r0 with
  | none =>
    obtain rfl : e = .panicked unm := he6
    exact ⟨rfl, HB6.out, rfl⟩
  | some n6 =>
    obtain rfl : e = .returned (.int .i64 n6) := he6
    go_wp2_with fail
    go_ret
    exact ⟨HB6.out, rfl⟩
end Go.Proofs.YtogpgfaojmmemaaDoor.hands
