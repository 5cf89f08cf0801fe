/- Handles called: call.made, its args permuted, its subs' answers given. Condition: the lists are not long. -/
import Derived.Test.YtogpgfaojmmemaaDoorCall5
set_option linter.unusedSimpArgs false
set_option linter.unusedVariables false
namespace Go.Proofs.YtogpgfaojmmemaaDoor.hands
open Go.RowKit Go.Proofs.YtogpgfaojmmemaaDoor.lib Go.Proofs.YtogpgfaojmmemaaDoor.errs Go.Proofs.YtogpgfaojmmemaaDoor.mtypes Go.Proofs.YtogpgfaojmmemaaDoor.grow Go.Proofs.YtogpgfaojmmemaaDoor.nums

theorem permA_snoc {ats az : List Int} {k : Nat} (h : k < ats.length) : permA (ats.take (k + 1)) az = permA (ats.take k) az ++ [az.getD (ats[k]).toNat 0] := by
  unfold permA
  rw [List.take_succ_eq_append_getElem h, List.map_append]; rfl
theorem infoI : (Tryd.prog.info? 3).map (fun i => (i.zero, i.size, i.bytes)) = some (some (.int .i64 0), 1, 8) := by kernel_rfl
theorem permA_len (ats az : List Int) : (permA ats az).length = ats.length := List.length_map ..

set_option maxRecDepth 100000 in
set_option maxHeartbeats 4000000 in
theorem made_perm (t : ByteArray) (a : Int) (ats : List Int) (av sa aa : Option Addr) (n1 cv n2 cs ca : Nat) (az : List Int) (w : World) (haz : Sl w (.slice aa az.length ca) az.length 1 (az.map iv)) (hn : az.length ≤ 100) (hn1 : ats.length = n1) (h1n : n1 ≤ 100) (hat : Sl w (.slice av n1 cv) n1 1 (ats.map iv)) (hz : ∀ z ∈ ats, 0 ≤ z ∧ z < (az.length : Int)) (l : List Nd) (hl : l.length = n2) (hsl : Sl w (.slice sa n2 cs) n2 5 (l.flatMap Nd.cells)) (y0 : Nd) (hi0 : l[0]? = some y0) (hy0 : NAt w y0) (hm0 : ∀ (u : World) (v : Value), Below w.heap.size w u → Sl u v (permA ats az).length 1 ((permA ats az).map iv) → Calls Tryd.prog 31 #[.agg #[.int .i64 y0.k, .string y0.t, .int .i64 y0.a, y0.va, y0.vs], v] u (MadeBy u (toldN y0 (permA ats az)))) : Calls Tryd.prog 31 #[.agg #[.int .i64 6, .string t, .int .i64 a, .slice av n1 cv, .slice sa n2 cs], .slice aa az.length ca] w (MadeBy w (toldN y0 (permA ats az))) := by
  have HAZ := hid haz
  obtain ⟨r0, hr0⟩ : ∃ R, toldN y0 (permA ats az) = R := ⟨_, rfl⟩
  have HQ0 := hid hr0
  rw [hr0]
  obtain ⟨X1, hX1⟩ : ∃ X1, w.alloc (.cells #[.int .i64 6, .string t, .int .i64 a, .slice av n1 cv, .slice sa n2 cs] 25) = X1 := ⟨_, rfl⟩
  have HB1 : Hid (Below w.heap.size w X1) := hid (hX1 ▸ ext_alloc _ _)
  have HLT : Hid (w.heap.size < X1.heap.size) := hid (by rw [← hX1]; simp)
  have HXR : Hid (X1.heap[w.heap.size]? = some (.cells #[.int .i64 6, .string t, .int .i64 a, .slice av n1 cv, .slice sa n2 cs] 25 (0, 0))) := hid (by rw [← hX1]; exact heap_alloc_new _ _)
  have HK1 : Hid (∀ u, Below X1.heap.size X1 u → u.cell? ⟨w.heap.size, 1, none⟩ = some (.string t)) := hid (fun u hu => by rw [cell_of_row _ _ _ _ _ _ ((hu.block _ HLT.out).trans HXR.out)]; rfl)
  have HK2 : Hid (∀ u, Below X1.heap.size X1 u → u.cell? ⟨w.heap.size, 2, none⟩ = some (.int .i64 a)) := hid (fun u hu => by rw [cell_of_row _ _ _ _ _ _ ((hu.block _ HLT.out).trans HXR.out)]; rfl)
  have HK3 : Hid (∀ u, Below X1.heap.size X1 u → u.cell? ⟨w.heap.size, 3, none⟩ = some (.slice av n1 cv)) := hid (fun u hu => by rw [cell_of_row _ _ _ _ _ _ ((hu.block _ HLT.out).trans HXR.out)]; rfl)
  have HK4 : Hid (∀ u, Below X1.heap.size X1 u → u.cell? ⟨w.heap.size, 4, none⟩ = some (.slice sa n2 cs)) := hid (fun u hu => by rw [cell_of_row _ _ _ _ _ _ ((hu.block _ HLT.out).trans HXR.out)]; rfl)
  have hq0 : X1.cell? ⟨w.heap.size, 0, none⟩ = some (.int .i64 6) := by rw [cell_of_row _ _ _ _ _ _ HXR.out]; rfl
  have hq2 := HK2.out X1 (Below.refl _ _)
  have hq3 := HK3.out X1 (Below.refl _ _)
  have hmf : ∀ (fn : Fn) (first cap : Array Value) (w : World), (Instr.makeFunc fn first cap).run Tryd.prog w = .ok (.func fn first cap) w := fun _ _ _ _ => rfl
  have HS0 : Hid (∀ (u : World) (v : Value), Below X1.heap.size X1 u → Sl u v (permA ats az).length 1 ((permA ats az).map iv) → Calls Tryd.prog 52 #[.int .i64 0, v, .pointer (some ⟨w.heap.size, 0, none⟩)] u (MadeBy u r0)) := hid (fun u v hu hv => by
    have hb := HB1.out.trans (hu.mono HB1.out.size)
    exact sub_any w.heap.size 0 u sa n2 cs l v _ y0 hl (HK4.out u hu) (hsl.below hb) hi0 (hy0.below hb) (HQ0.out ▸ hm0 u v hb hv))
  have HAT := hid (hat.below HB1.out)
  have HZ := hid hz
  have HN1 := hid hn1
  have hz1 := HB1.out
  have HAX := hid (HAZ.out.below HB1.out)
  clear haz hsl hm0 hr0 hi0 hy0 hl hat hz hn1 hz1
  go_enter Tryd.func31, Tryd.ntmps31
  go_wp2_with fail
  go_loopw [8, 72] (fun vt i wr => ∃ k : Nat, k ≤ n1 ∧ i = .int .i64 k ∧ Hid (Out X1 wr 3 1 vt k ((permA (ats.take k) az).map iv))) (fun _ i _ => n1 - (intOf i).toNat)
  case atStart => exact ⟨0, Nat.zero_le _, rfl, hid (Out.nil _ _ _)⟩
  case round =>
    obtain ⟨k, hk, rfl, HO⟩ := hrel
    by_cases hlt : k < n1
    · have hka : k < ats.length := by rw [HN1.out]; exact hlt
      obtain ⟨bx, ox, hax, hcx⟩ := Sl.ints (K := .i64) (HAT.out.below HO.out.below) hka
      obtain ⟨z, hzz⟩ : ∃ z, ats[k] = z := ⟨_, rfl⟩
      have HQ : Hid (permA (ats.take (k + 1)) az = permA (ats.take k) az ++ [az.getD z.toNat 0]) := hid (by rw [permA_snoc hka, hzz])
      obtain ⟨z0, z1⟩ := HZ.out z (hzz ▸ List.getElem_mem hka)
      obtain ⟨j, rfl⟩ : ∃ j : Nat, z = (j : Int) := ⟨z.toNat, by omega⟩
      have hja : j < az.length := by omega
      obtain ⟨by_, oy, hay, hcy⟩ := Sl.ints (K := .i64) (HAX.out.below HO.out.below) hja
      have HQ2 : Hid (az.getD (j : Int).toNat 0 = az[j]) := hid (by simp [List.getD, List.getElem?_eq_getElem hja])
      obtain ⟨y, hy⟩ : ∃ y, az[j] = y := ⟨_, rfl⟩
      have HY := hid hy
      rw [hzz] at hcx
      rw [hy] at hcy
      subst hax
      subst hay
      have hi : (0 : Int) ≤ (k : Int) := by omega
      have hkl : (k : Int) < (n1 : Int) := by omega
      clear hzz hy hka
      go_wp2_with (at_builtin; refine wpList_append_lit X1 wr _ rfl _ _ 22 rfl 3 (.int .i64 0) 1 8 1 Tryd.underlying22 infoI rfl (by decide) _ _ _ HO.out rfl rfl rfl ?_ ?_ ?_ ?_)
      all_goals first | (intro v' w' ho hg) | omega | (simp [Value.oneCell']; done) | skip
      have HO2 := hid ho
      clear ho hg
      go_wp2
      go_roundw
      case rel => exact ⟨k + 1, by omega, by go_num, hid (by rw [HQ.out, HQ2.out, HY.out, List.map_append]; exact HO2.out)⟩
      case measure => simp [intOf]; omega
    · obtain rfl : k = n1 := by omega
      have HX5 := hid HO.out.below
      have HLE : Hid ((permA ats az).length = k) := hid (by rw [permA_len, HN1.out])
      have HS5 : Hid (Sl wr u8 (permA ats az).length 1 ((permA ats az).map iv)) := hid (by
        have h := HO.out.sl
        rw [List.take_of_length_le (by rw [HN1.out]; exact Nat.le_refl _)] at h
        rw [HLE.out]; exact h)
      have HB5 := hid (HB1.out.trans (HX5.out.mono HB1.out.size))
      go_wp2_with fail
      refine (HS0.out _ _ HX5.out HS5.out).mono ?_
      rintro e w6 ⟨hb6, he6⟩
      have HB6 := hid (HB5.out.trans (hb6.mono HB5.out.size))
      clear hb6
      cases r0 with
      | none =>
        obtain rfl : e = .panicked unm := he6
        exact ⟨rfl, HB6.out, rfl⟩
      | some n6 =>
        obtain rfl : e = .returned (.int .i64 n6) := he6
        go_wp2_with fail
        go_ret
        exact ⟨HB6.out, rfl⟩
end Go.Proofs.YtogpgfaojmmemaaDoor.hands
