/- Handles called: call.made, an arg dropped, its subs' answers given. Condition: the lists are not long. -/
import Derived.Test.YtogpgfaojmmemaaDoorCall3
set_option linter.unusedSimpArgs false
set_option linter.unusedVariables false
namespace Go.Proofs.YtogpgfaojmmemaaDoor.hands
open Go.RowKit Go.Proofs.YtogpgfaojmmemaaDoor.lib Go.Proofs.YtogpgfaojmmemaaDoor.errs Go.Proofs.YtogpgfaojmmemaaDoor.mtypes Go.Proofs.YtogpgfaojmmemaaDoor.grow Go.Proofs.YtogpgfaojmmemaaDoor.nums

set_option maxRecDepth 100000 in
set_option maxHeartbeats 4000000 in
theorem made_drop (t : ByteArray) (i : Nat) (av sa aa : Option Addr) (n1 cv n2 cs ca : Nat) (az : List Int) (w : World) (haz : Sl w (.slice aa az.length ca) az.length 1 (az.map iv)) (hn : az.length ≤ 100) (hi : i < az.length) (l : List Nd) (hl : l.length = n2) (hsl : Sl w (.slice sa n2 cs) n2 5 (l.flatMap Nd.cells)) (y0 : Nd) (hi0 : l[0]? = some y0) (hy0 : NAt w y0) (hm0 : ∀ (u : World) (v : Value), Below w.heap.size w u → Sl u v (az.eraseIdx i).length 1 ((az.eraseIdx i).map iv) → Calls Tryd.prog 31 #[.agg #[.int .i64 y0.k, .string y0.t, .int .i64 y0.a, y0.va, y0.vs], v] u (MadeBy u (toldN y0 (az.eraseIdx i)))) : Calls Tryd.prog 31 #[.agg #[.int .i64 4, .string t, .int .i64 (i : Int), .slice av n1 cv, .slice sa n2 cs], .slice aa az.length ca] w (MadeBy w (toldN y0 (az.eraseIdx i))) := by
  have HAZ := hid haz
  obtain ⟨r0, hr0⟩ : ∃ R, toldN y0 (az.eraseIdx i) = R := ⟨_, rfl⟩
  have HQ0 := hid hr0
  obtain ⟨a, ha⟩ : ∃ a : Int, (i : Int) = a := ⟨_, rfl⟩
  rw [hr0]
  simp only [ha]
  obtain ⟨X1, hX1⟩ : ∃ X1, w.alloc (.cells #[.int .i64 4, .string t, .int .i64 a, .slice av n1 cv, .slice sa n2 cs] 25) = X1 := ⟨_, rfl⟩
  have HB1 : Hid (Below w.heap.size w X1) := hid (hX1 ▸ ext_alloc _ _)
  have HLT : Hid (w.heap.size < X1.heap.size) := hid (by rw [← hX1]; simp)
  have HXR : Hid (X1.heap[w.heap.size]? = some (.cells #[.int .i64 4, .string t, .int .i64 a, .slice av n1 cv, .slice sa n2 cs] 25 (0, 0))) := hid (by rw [← hX1]; exact heap_alloc_new _ _)
  have HK1 : Hid (∀ u, Below X1.heap.size X1 u → u.cell? ⟨w.heap.size, 1, none⟩ = some (.string t)) := hid (fun u hu => by rw [cell_of_row _ _ _ _ _ _ ((hu.block _ HLT.out).trans HXR.out)]; rfl)
  have HK2 : Hid (∀ u, Below X1.heap.size X1 u → u.cell? ⟨w.heap.size, 2, none⟩ = some (.int .i64 a)) := hid (fun u hu => by rw [cell_of_row _ _ _ _ _ _ ((hu.block _ HLT.out).trans HXR.out)]; rfl)
  have HK3 : Hid (∀ u, Below X1.heap.size X1 u → u.cell? ⟨w.heap.size, 3, none⟩ = some (.slice av n1 cv)) := hid (fun u hu => by rw [cell_of_row _ _ _ _ _ _ ((hu.block _ HLT.out).trans HXR.out)]; rfl)
  have HK4 : Hid (∀ u, Below X1.heap.size X1 u → u.cell? ⟨w.heap.size, 4, none⟩ = some (.slice sa n2 cs)) := hid (fun u hu => by rw [cell_of_row _ _ _ _ _ _ ((hu.block _ HLT.out).trans HXR.out)]; rfl)
  have hq0 : X1.cell? ⟨w.heap.size, 0, none⟩ = some (.int .i64 4) := by rw [cell_of_row _ _ _ _ _ _ HXR.out]; rfl
  have hq2 := HK2.out X1 (Below.refl _ _)
  have hq3 := HK3.out X1 (Below.refl _ _)
  have hmf : ∀ (fn : Fn) (first cap : Array Value) (w : World), (Instr.makeFunc fn first cap).run Tryd.prog w = .ok (.func fn first cap) w := fun _ _ _ _ => rfl
  have HS0 : Hid (∀ (u : World) (v : Value), Below X1.heap.size X1 u → Sl u v (az.eraseIdx i).length 1 ((az.eraseIdx i).map iv) → Calls Tryd.prog 52 #[.int .i64 0, v, .pointer (some ⟨w.heap.size, 0, none⟩)] u (MadeBy u r0)) := hid (fun u v hu hv => by
    have hb := HB1.out.trans (hu.mono HB1.out.size)
    exact sub_any w.heap.size 0 u sa n2 cs l v _ y0 hl (HK4.out u hu) (hsl.below hb) hi0 (hy0.below hb) (HQ0.out ▸ hm0 u v hb hv))
  have HI := hid hi
  have HA := hid ha
  have HLE : Hid ((az.eraseIdx i).length = az.length - 1) := hid (by rw [List.length_eraseIdx, if_pos hi])
  have HWR : Hid (IntKind.i64.wrap (a + 1) = a + 1) := hid (by rw [IntKind.wrap_i64]; omega)
  have ha1 : a ≤ 100 := by omega
  have ha0 : 0 ≤ a := by omega
  clear haz hsl hm0 hr0 hi0 hy0 hl hi ha
  go_enter Tryd.func31, Tryd.ntmps31
  go_wp2_with fail
  refine wp_region_ext_tail1 8 [(2, ownR X1 az)] ⟨ownR_stays _ _, trivial⟩ (by kernel_rfl) (by kernel_rfl) (by simp) (by decide) (by kernel_rfl) (by kernel_rfl) (by kernel_rfl) (by kernel_rfl) (by kernel_rfl) _ rfl (fun u => by go_simp; rfl) (fun c a' w' h => ⟨(put_defers _ _ _).symm.trans h.1, h.2⟩) ?_
  simp only [Act.put, List.setIfInBounds_toArray, List.set_cons_zero, List.set_cons_succ]
  refine wpG_calc 2 rfl rfl rfl (fun u => by go_simp; rfl) ?_
  simp only [Act.put, List.setIfInBounds_toArray, List.set_cons_zero, List.set_cons_succ]
  refine wpG_rel 3 rfl rfl rfl ?_ ?_
  · intro u hu hh
    go_simp
    refine (cloneN_any _ az u (HAZ.out.below (HB1.out.trans (hu.mono HB1.out.size))) (by omega)).mono ?_
    rintro e w6 ⟨v6, rfl, ho6⟩
    exact ⟨_, rfl, Out.since hu ho6, ho6.below⟩
  intro vC ⟨uC, _, hrC⟩
  clear hrC
  simp only [Act.put, List.setIfInBounds_toArray, List.set_cons_zero, List.set_cons_succ]
  refine wpG_calc 4 rfl rfl rfl (fun u => by go_simp; rfl) ?_
  simp only [Act.put, List.setIfInBounds_toArray, List.set_cons_zero, List.set_cons_succ]
  refine wpG_read 5 rfl rfl (.int .i64 a) rfl ?_ ?_
  · intro u hu hh
    have hk := HK2.out u hu
    go_simp
  simp only [Act.put, List.setIfInBounds_toArray, List.set_cons_zero, List.set_cons_succ]
  refine wpG_calc 6 rfl rfl rfl (fun u => by go_simp; rfl) ?_
  simp only [Act.put, List.setIfInBounds_toArray, List.set_cons_zero, List.set_cons_succ]
  refine wpG_read 7 rfl rfl (.int .i64 a) rfl ?_ ?_
  · intro u hu hh
    have hk := HK2.out u hu
    go_simp
  simp only [Act.put, List.setIfInBounds_toArray, List.set_cons_zero, List.set_cons_succ]
  refine wpG_calc (v := .int .i64 (a + 1)) 8 rfl rfl rfl (fun u => by have hw := HWR.out; go_simp; first | done | rw [hw] | simp [hw]) ?_
  simp only [Act.put, List.setIfInBounds_toArray, List.set_cons_zero, List.set_cons_succ]
  refine wpG_nil fun w4 hb4 hF => ?_
  have ho4 : ownR X1 az vC w4 := hF 2
  clear hF
  have HO4 := hid ho4
  clear hb4 ho4
  obtain rfl := HA.out
  go_wp2_with fail
  refine (deleteN_any vC az i X1 w4 HO4.out HI.out).mono ?_
  rintro e w5 ⟨v5, rfl, ho5⟩
  have HX5 := hid ho5.below
  have HS5 : Hid (Sl w5 v5 (az.eraseIdx i).length 1 ((az.eraseIdx i).map iv)) := hid (by rw [HLE.out]; exact ho5.sl)
  clear ho5
  have HB5 := hid (HB1.out.trans (HX5.out.mono HB1.out.size))
  go_wp2_with fail

  refine (HS0.out w5 v5 HX5.out HS5.out).mono ?_
  rintro e w6 ⟨hb6, he6⟩
  have HB6 := hid (HB5.out.trans (hb6.mono HB5.out.size))
  clear hb6
  cases r0 with
  | none =>
    obtain rfl : e = .panicked unm := he6
    exact ⟨rfl, HB6.out, rfl⟩
  | some n6 =>
    obtain rfl : e = .returned (.int .i64 n6) := he6
    go_wp2_with fail
    go_ret
    exact ⟨HB6.out, rfl⟩
end Go.Proofs.YtogpgfaojmmemaaDoor.hands
