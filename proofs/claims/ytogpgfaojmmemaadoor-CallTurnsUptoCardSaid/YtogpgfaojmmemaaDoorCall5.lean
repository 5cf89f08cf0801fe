/- Handles called: call.made, an arg bound, its subs' answers given. Condition: the lists are not long. -/
import Derived.Test.YtogpgfaojmmemaaDoorCall3
set_option linter.unusedSimpArgs false
set_option linter.unusedVariables false
namespace Go.Proofs.YtogpgfaojmmemaaDoor.hands
open Go.RowKit Go.Proofs.YtogpgfaojmmemaaDoor.lib Go.Proofs.YtogpgfaojmmemaaDoor.errs Go.Proofs.YtogpgfaojmmemaaDoor.mtypes Go.Proofs.YtogpgfaojmmemaaDoor.grow Go.Proofs.YtogpgfaojmmemaaDoor.nums

def anyR : Value → World → Prop := fun _ _ => True
theorem anyR_stays : ∀ v w w', Below w.heap.size w w' → anyR v w → anyR v w' := fun _ _ _ _ _ => trivial
theorem sl0 (u : World) : Sl u (.slice none 0 0) ([] : List Int).length 1 (([] : List Int).map iv) := ⟨rfl, none, 0, rfl, Nat.le_refl _, .inl rfl⟩

set_option maxRecDepth 100000 in
set_option maxHeartbeats 4000000 in
theorem made_bind_none (t : ByteArray) (i : Nat) (av sa aa : Option Addr) (n1 cv n2 cs ca : Nat) (az : List Int) (w : World) (haz : Sl w (.slice aa az.length ca) az.length 1 (az.map iv)) (hn : az.length ≤ 100) (hi : i ≤ az.length) (l : List Nd) (hl : l.length = n2) (hsl : Sl w (.slice sa n2 cs) n2 5 (l.flatMap Nd.cells)) (y1 : Nd) (hi1 : l[1]? = some y1) (hy1 : NAt w y1) (hm1 : ∀ (u : World) (v : Value), Below w.heap.size w u → Sl u v (([] : List Int)).length 1 ((([] : List Int)).map iv) → Calls Tryd.prog 31 #[.agg #[.int .i64 y1.k, .string y1.t, .int .i64 y1.a, y1.va, y1.vs], v] u (MadeBy u (toldN y1 (([] : List Int))))) (hm0 : toldN y1 [] = none) : Calls Tryd.prog 31 #[.agg #[.int .i64 5, .string t, .int .i64 (i : Int), .slice av n1 cv, .slice sa n2 cs], .slice aa az.length ca] w (MadeBy w none) := by
  have HAZ := hid haz
  have HQ1 : Hid (toldN y1 [] = none) := hid hm0
  obtain ⟨a, ha⟩ : ∃ a : Int, (i : Int) = a := ⟨_, rfl⟩
  simp only [ha]
  obtain ⟨X1, hX1⟩ : ∃ X1, w.alloc (.cells #[.int .i64 5, .string t, .int .i64 a, .slice av n1 cv, .slice sa n2 cs] 25) = X1 := ⟨_, rfl⟩
  have HB1 : Hid (Below w.heap.size w X1) := hid (hX1 ▸ ext_alloc _ _)
  have HLT : Hid (w.heap.size < X1.heap.size) := hid (by rw [← hX1]; simp)
  have HXR : Hid (X1.heap[w.heap.size]? = some (.cells #[.int .i64 5, .string t, .int .i64 a, .slice av n1 cv, .slice sa n2 cs] 25 (0, 0))) := hid (by rw [← hX1]; exact heap_alloc_new _ _)
  have HK1 : Hid (∀ u, Below X1.heap.size X1 u → u.cell? ⟨w.heap.size, 1, none⟩ = some (.string t)) := hid (fun u hu => by rw [cell_of_row _ _ _ _ _ _ ((hu.block _ HLT.out).trans HXR.out)]; rfl)
  have HK2 : Hid (∀ u, Below X1.heap.size X1 u → u.cell? ⟨w.heap.size, 2, none⟩ = some (.int .i64 a)) := hid (fun u hu => by rw [cell_of_row _ _ _ _ _ _ ((hu.block _ HLT.out).trans HXR.out)]; rfl)
  have HK3 : Hid (∀ u, Below X1.heap.size X1 u → u.cell? ⟨w.heap.size, 3, none⟩ = some (.slice av n1 cv)) := hid (fun u hu => by rw [cell_of_row _ _ _ _ _ _ ((hu.block _ HLT.out).trans HXR.out)]; rfl)
  have HK4 : Hid (∀ u, Below X1.heap.size X1 u → u.cell? ⟨w.heap.size, 4, none⟩ = some (.slice sa n2 cs)) := hid (fun u hu => by rw [cell_of_row _ _ _ _ _ _ ((hu.block _ HLT.out).trans HXR.out)]; rfl)
  have hq0 : X1.cell? ⟨w.heap.size, 0, none⟩ = some (.int .i64 5) := by rw [cell_of_row _ _ _ _ _ _ HXR.out]; rfl
  have hq2 := HK2.out X1 (Below.refl _ _)
  have hq3 := HK3.out X1 (Below.refl _ _)
  have hmf : ∀ (fn : Fn) (first cap : Array Value) (w : World), (Instr.makeFunc fn first cap).run Tryd.prog w = .ok (.func fn first cap) w := fun _ _ _ _ => rfl
  have HS1 : Hid (∀ (u : World) (v : Value), Below X1.heap.size X1 u → Sl u v (([] : List Int)).length 1 ((([] : List Int)).map iv) → Calls Tryd.prog 52 #[.int .i64 1, v, .pointer (some ⟨w.heap.size, 0, none⟩)] u (MadeBy u none)) := hid (fun u v hu hv => by
    have hb := HB1.out.trans (hu.mono HB1.out.size)
    exact sub_any w.heap.size 1 u sa n2 cs l v _ y1 hl (HK4.out u hu) (hsl.below hb) hi1 (hy1.below hb) (HQ1.out ▸ hm1 u v hb hv))
  have HI := hid hi
  have HA := hid ha
  have ha1 : a ≤ 100 := by omega
  have ha0 : 0 ≤ a := by omega
  clear haz hsl hm1 hm0 hi1 hy1 hl hi ha
  go_enter Tryd.func31, Tryd.ntmps31
  go_wp2_with fail
  refine wp_region_pan1 8 6 unm [(2, anyR), (7, anyR)] ⟨anyR_stays, anyR_stays, trivial⟩ (by kernel_rfl) (by kernel_rfl) (by simp) (by decide) (by decide) (by kernel_rfl) (by kernel_rfl) (by kernel_rfl) (by kernel_rfl) (by kernel_rfl) _ rfl (fun u => by go_simp; rfl) (fun c a' w' h => ⟨(put_defers _ _ _).symm.trans h.1, h.2⟩) (fun a' w5 hd hb5 => ⟨hd, HB1.out.trans (hb5.mono HB1.out.size), rfl⟩) ?_
  simp only [Act.put, List.setIfInBounds_toArray, List.set_cons_zero, List.set_cons_succ]
  refine wpGP_calc 2 rfl (by decide) rfl rfl (fun u => by go_simp; rfl) ?_
  simp only [Act.put, List.setIfInBounds_toArray, List.set_cons_zero, List.set_cons_succ]
  refine wpGP_rel 3 rfl (by decide) rfl rfl ?_ ?_
  · intro u hu hh
    go_simp
    refine (cloneN_any _ az u (HAZ.out.below (HB1.out.trans (hu.mono HB1.out.size))) (by omega)).mono ?_
    rintro e w6 ⟨v6, rfl, ho6⟩
    exact ⟨_, rfl, trivial, ho6.below⟩
  intro vC ⟨uC, _, hrC⟩
  clear hrC
  simp only [Act.put, List.setIfInBounds_toArray, List.set_cons_zero, List.set_cons_succ]
  refine wpGP_calc 4 rfl (by decide) rfl rfl (fun u => by go_simp; rfl) ?_
  simp only [Act.put, List.setIfInBounds_toArray, List.set_cons_zero, List.set_cons_succ]
  refine wpGP_read 5 rfl (by decide) rfl (.int .i64 a) rfl ?_ ?_
  · intro u hu hh
    have hk := HK2.out u hu
    go_simp
  simp only [Act.put, List.setIfInBounds_toArray, List.set_cons_zero, List.set_cons_succ]
  refine wpGP_calc 6 rfl (by decide) rfl rfl (fun u => by go_simp; rfl) ?_
  simp only [Act.put, List.setIfInBounds_toArray, List.set_cons_zero, List.set_cons_succ]
  refine wpGP_pan 7 rfl rfl rfl ?_ ?_
  · intro u hu hh
    go_simp
    refine (HS1.out u _ hu (sl0 u)).mono ?_
    rintro e w6 ⟨hb6, rfl⟩
    exact ⟨rfl, hb6⟩
  simp only [Act.put, List.setIfInBounds_toArray, List.set_cons_zero, List.set_cons_succ]
  refine wpGP_rel 8 rfl (by decide) rfl rfl ?_ ?_
  · intro u hu hh
    go_simp
    exact ⟨trivial, ext_alloc _ _⟩
  intro vS ⟨uS, _, hrS⟩
  clear hrS
  simp only [Act.put, List.setIfInBounds_toArray, List.set_cons_zero, List.set_cons_succ]
  exact trivial

set_option maxRecDepth 100000 in
set_option maxHeartbeats 4000000 in
theorem made_bind (t : ByteArray) (m : Int) (i : Nat) (av sa aa : Option Addr) (n1 cv n2 cs ca : Nat) (az : List Int) (w : World) (haz : Sl w (.slice aa az.length ca) az.length 1 (az.map iv)) (hn : az.length ≤ 100) (hi : i ≤ az.length) (l : List Nd) (hl : l.length = n2) (hsl : Sl w (.slice sa n2 cs) n2 5 (l.flatMap Nd.cells)) (y0 : Nd) (hi0 : l[0]? = some y0) (hy0 : NAt w y0) (hm0 : ∀ (u : World) (v : Value), Below w.heap.size w u → Sl u v (insAt az i m).length 1 ((insAt az i m).map iv) → Calls Tryd.prog 31 #[.agg #[.int .i64 y0.k, .string y0.t, .int .i64 y0.a, y0.va, y0.vs], v] u (MadeBy u (toldN y0 (insAt az i m)))) (y1 : Nd) (hi1 : l[1]? = some y1) (hy1 : NAt w y1) (hm1 : ∀ (u : World) (v : Value), Below w.heap.size w u → Sl u v (([] : List Int)).length 1 ((([] : List Int)).map iv) → Calls Tryd.prog 31 #[.agg #[.int .i64 y1.k, .string y1.t, .int .i64 y1.a, y1.va, y1.vs], v] u (MadeBy u (toldN y1 (([] : List Int))))) (hm2 : toldN y1 [] = some m) : Calls Tryd.prog 31 #[.agg #[.int .i64 5, .string t, .int .i64 (i : Int), .slice av n1 cv, .slice sa n2 cs], .slice aa az.length ca] w (MadeBy w (toldN y0 (insAt az i m))) := by
  have HAZ := hid haz
  have HQ1 : Hid (toldN y1 [] = some m) := hid hm2
  obtain ⟨r0, hr0⟩ : ∃ R, toldN y0 (insAt az i m) = R := ⟨_, rfl⟩
  have HQ0 := hid hr0
  obtain ⟨a, ha⟩ : ∃ a : Int, (i : Int) = a := ⟨_, rfl⟩
  rw [hr0]
  simp only [ha]
  obtain ⟨X1, hX1⟩ : ∃ X1, w.alloc (.cells #[.int .i64 5, .string t, .int .i64 a, .slice av n1 cv, .slice sa n2 cs] 25) = X1 := ⟨_, rfl⟩
  have HB1 : Hid (Below w.heap.size w X1) := hid (hX1 ▸ ext_alloc _ _)
  have HLT : Hid (w.heap.size < X1.heap.size) := hid (by rw [← hX1]; simp)
  have HXR : Hid (X1.heap[w.heap.size]? = some (.cells #[.int .i64 5, .string t, .int .i64 a, .slice av n1 cv, .slice sa n2 cs] 25 (0, 0))) := hid (by rw [← hX1]; exact heap_alloc_new _ _)
  have HK1 : Hid (∀ u, Below X1.heap.size X1 u → u.cell? ⟨w.heap.size, 1, none⟩ = some (.string t)) := hid (fun u hu => by rw [cell_of_row _ _ _ _ _ _ ((hu.block _ HLT.out).trans HXR.out)]; rfl)
  have HK2 : Hid (∀ u, Below X1.heap.size X1 u → u.cell? ⟨w.heap.size, 2, none⟩ = some (.int .i64 a)) := hid (fun u hu => by rw [cell_of_row _ _ _ _ _ _ ((hu.block _ HLT.out).trans HXR.out)]; rfl)
  have HK3 : Hid (∀ u, Below X1.heap.size X1 u → u.cell? ⟨w.heap.size, 3, none⟩ = some (.slice av n1 cv)) := hid (fun u hu => by rw [cell_of_row _ _ _ _ _ _ ((hu.block _ HLT.out).trans HXR.out)]; rfl)
  have HK4 : Hid (∀ u, Below X1.heap.size X1 u → u.cell? ⟨w.heap.size, 4, none⟩ = some (.slice sa n2 cs)) := hid (fun u hu => by rw [cell_of_row _ _ _ _ _ _ ((hu.block _ HLT.out).trans HXR.out)]; rfl)
  have hq0 : X1.cell? ⟨w.heap.size, 0, none⟩ = some (.int .i64 5) := by rw [cell_of_row _ _ _ _ _ _ HXR.out]; rfl
  have hq2 := HK2.out X1 (Below.refl _ _)
  have hq3 := HK3.out X1 (Below.refl _ _)
  have hmf : ∀ (fn : Fn) (first cap : Array Value) (w : World), (Instr.makeFunc fn first cap).run Tryd.prog w = .ok (.func fn first cap) w := fun _ _ _ _ => rfl
  have HS0 : Hid (∀ (u : World) (v : Value), Below X1.heap.size X1 u → Sl u v (insAt az i m).length 1 ((insAt az i m).map iv) → Calls Tryd.prog 52 #[.int .i64 0, v, .pointer (some ⟨w.heap.size, 0, none⟩)] u (MadeBy u r0)) := hid (fun u v hu hv => by
    have hb := HB1.out.trans (hu.mono HB1.out.size)
    exact sub_any w.heap.size 0 u sa n2 cs l v _ y0 hl (HK4.out u hu) (hsl.below hb) hi0 (hy0.below hb) (HQ0.out ▸ hm0 u v hb hv))
  have HS1 : Hid (∀ (u : World) (v : Value), Below X1.heap.size X1 u → Sl u v (([] : List Int)).length 1 ((([] : List Int)).map iv) → Calls Tryd.prog 52 #[.int .i64 1, v, .pointer (some ⟨w.heap.size, 0, none⟩)] u (MadeBy u (some m))) := hid (fun u v hu hv => by
    have hb := HB1.out.trans (hu.mono HB1.out.size)
    exact sub_any w.heap.size 1 u sa n2 cs l v _ y1 hl (HK4.out u hu) (hsl.below hb) hi1 (hy1.below hb) (HQ1.out ▸ hm1 u v hb hv))
  have HLE : Hid ((insAt az i m).length = az.length + 1) := hid (insAt_len m hi)
  have HI := hid hi
  have HA := hid ha
  have ha1 : a ≤ 100 := by omega
  have ha0 : 0 ≤ a := by omega
  clear haz hsl hm0 hm1 hm2 hi0 hi1 hy0 hy1 hl hi ha hr0
  go_enter Tryd.func31, Tryd.ntmps31
  go_wp2_with fail
  refine wp_region_ext_tail1 8 [(2, ownR X1 az), (6, is (.int .i64 m)), (7, oneR m)] ⟨ownR_stays _ _, is_stays _, oneR_stays _, trivial⟩ (by kernel_rfl) (by kernel_rfl) (by simp) (by decide) (by kernel_rfl) (by kernel_rfl) (by kernel_rfl) (by kernel_rfl) (by kernel_rfl) _ rfl (fun u => by go_simp; rfl) (fun c a' w' h => ⟨(put_defers _ _ _).symm.trans h.1, h.2⟩) ?_
  simp only [Act.put, List.setIfInBounds_toArray, List.set_cons_zero, List.set_cons_succ]
  refine wpG_calc 2 rfl rfl rfl (fun u => by go_simp; rfl) ?_
  simp only [Act.put, List.setIfInBounds_toArray, List.set_cons_zero, List.set_cons_succ]
  refine wpG_rel 3 rfl rfl rfl ?_ ?_
  · intro u hu hh
    go_simp
    refine (cloneN_any _ az u (HAZ.out.below (HB1.out.trans (hu.mono HB1.out.size))) (by omega)).mono ?_
    rintro e w6 ⟨v6, rfl, ho6⟩
    exact ⟨_, rfl, Out.since hu ho6, ho6.below⟩
  intro vC ⟨uC, _, hrC⟩
  clear hrC
  simp only [Act.put, List.setIfInBounds_toArray, List.set_cons_zero, List.set_cons_succ]
  refine wpG_calc 4 rfl rfl rfl (fun u => by go_simp; rfl) ?_
  simp only [Act.put, List.setIfInBounds_toArray, List.set_cons_zero, List.set_cons_succ]
  refine wpG_read 5 rfl rfl (.int .i64 a) rfl ?_ ?_
  · intro u hu hh
    have hk := HK2.out u hu
    go_simp
  simp only [Act.put, List.setIfInBounds_toArray, List.set_cons_zero, List.set_cons_succ]
  refine wpG_calc 6 rfl rfl rfl (fun u => by go_simp; rfl) ?_
  simp only [Act.put, List.setIfInBounds_toArray, List.set_cons_zero, List.set_cons_succ]
  refine wpG_rel 7 rfl rfl rfl ?_ ?_
  · intro u hu hh
    go_simp
    refine (HS1.out u _ hu (sl0 u)).mono ?_
    rintro e w6 ⟨hb6, rfl⟩
    exact ⟨_, rfl, rfl, hb6⟩
  intro vZ ⟨uZ, _, hrZ⟩
  obtain rfl : vZ = .int .i64 m := hrZ
  simp only [Act.put, List.setIfInBounds_toArray, List.set_cons_zero, List.set_cons_succ]
  refine wpG_rel 8 rfl rfl rfl ?_ ?_
  · intro u hu hh
    go_simp
    exact ⟨⟨_, rfl, heap_alloc_new _ _⟩, ext_alloc _ _⟩
  intro vS ⟨uS, _, hrS⟩
  clear hrS
  simp only [Act.put, List.setIfInBounds_toArray, List.set_cons_zero, List.set_cons_succ]
  refine wpG_nil fun w4 hb4 hF => ?_
  have ho4 : ownR X1 az vC w4 := hF 2
  obtain ⟨gS, rfl, hgS⟩ : oneR m vS w4 := hF 7
  clear hF
  have HO4 := hid ho4
  have HG4 := hid hgS
  clear hb4 ho4 hgS
  obtain rfl := HA.out
  go_wp2_with fail
  refine (insertI_any vC az i m gS X1 w4 HO4.out HG4.out HI.out (by omega)).mono ?_
  rintro e w5 ⟨v5, rfl, hs5, hx5⟩
  have HX5 := hid hx5
  have HS5 : Hid (Sl w5 v5 (insAt az i m).length 1 ((insAt az i m).map iv)) := hid (by rw [HLE.out]; exact hs5)
  clear hs5 hx5
  have HB5 := hid (HB1.out.trans (HX5.out.mono HB1.out.size))
  go_wp2_with fail

  refine (HS0.out w5 v5 HX5.out HS5.out).mono ?_
  rintro e w6 ⟨hb6, he6⟩
  have HB6 := hid (HB5.out.trans (hb6.mono HB5.out.size))
  clear hb6
  cases r0 with
  | none =>
    obtain rfl : e = .panicked unm := he6
    exact ⟨rfl, HB6.out, rfl⟩
  | some n6 =>
    obtain rfl : e = .returned (.int .i64 n6) := he6
    go_wp2_with fail
    go_ret
    exact ⟨HB6.out, rfl⟩
end Go.Proofs.YtogpgfaojmmemaaDoor.hands
