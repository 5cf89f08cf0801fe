/- Handles: the document's HandleType. Condition: it is not too great, its texts are not long. -/
import Derived.Test.YtogpgfaojmmemaaGreatDoorHand4
import Derived.Test.YtogpgfaojmmemaaGreatDoorHand8
import Derived.Test.YtogpgfaojmmemaaGreatDoorMtype9
import Derived.Test.YtogpgfaojmmemaaGreatDoorGrow
set_option linter.unusedSimpArgs false
set_option linter.unusedVariables false
namespace Go.Proofs.YtogpgfaojmmemaaGreatDoor.hands
open Go.RowKit Go.Proofs.YtogpgfaojmmemaaGreatDoor.lib Go.Proofs.YtogpgfaojmmemaaGreatDoor.errs Go.Proofs.YtogpgfaojmmemaaGreatDoor.names Go.Proofs.YtogpgfaojmmemaaGreatDoor.descs Go.Proofs.YtogpgfaojmmemaaGreatDoor.mtypes Go.Proofs.YtogpgfaojmmemaaGreatDoor.grow

set_option maxRecDepth 100000 in
set_option maxHeartbeats 8000000 in
theorem rtype_any : ∀ (N : Nat) (x : Nd) (w : World), cnt x ≤ N → NAt w x → ShortN x →
    Calls Tryz.prog 24 #[.agg #[.int .i64 x.k, .string x.t, .int .i64 x.a, x.va, x.vs]] w (Go.Proofs.YtogpgfaojmmemaaGreatDoor.mtypes.Said w (typeN x)) := by
  intro N
  induction N with
  | zero => intro x w h; unfold cnt at h; omega
  | succ N ih =>
    intro x w hN hx hS
    have IH := hid ih
    clear ih
    obtain ⟨k, t, a, va, vs, ats, subs⟩ := x
    obtain ⟨av, cv, hva⟩ := hx.1.1.val
    obtain ⟨sa, cs, hvs⟩ := hx.1.2.val
    simp only at hva hvs
    subst hva hvs
    have HT : Hid (t.size ≤ 10000000) := hid hS.1
    have HN : Hid (cntF subs ≤ N) := hid (by unfold cnt at hN; simp only at hN; omega)
    obtain ⟨R, hR⟩ : ∃ R, typeN ⟨k, t, a, .slice av ats.length cv, .slice sa (nodes subs).length cs, ats, subs⟩ = R := ⟨_, rfl⟩
    have HR0 : Hid (nodeType k t.data.toList a ats ((nodes subs).map typeN) = R) := hid (by rw [← hR, ← types_nodes]; rfl)
    have HAT : Hid (Sl w (.slice av ats.length cv) ats.length 1 (ats.map (.int .i64))) := hid hx.1.1
    obtain ⟨l, hl⟩ : ∃ l, nodes subs = l := ⟨_, rfl⟩
    have HSL : Hid (Sl w (.slice sa l.length cs) l.length 5 (l.flatMap Nd.cells)) := hid (by have := hx.1.2; simp only at this; rwa [hl] at this)
    have HND : Hid (∀ y ∈ l, NAt w y ∧ cnt y ≤ cntF subs ∧ ShortN y) := hid (fun y hy => by
      rw [← hl] at hy
      obtain ⟨h1, h2⟩ := node_at hx.2 hy
      exact ⟨h1, h2, short_at hS.2 hy⟩)
    rw [hl] at HR0
    rw [hR]
    simp only [hl]
    clear hR hl hx hN hS
    obtain ⟨n, hn0⟩ : ∃ n, subsN k = n := ⟨_, rfl⟩
    have HSB : Hid (∀ u, Calls Tryz.prog 58 #[.int .i64 k] u fun e w' => e = .returned (.int .i64 n) ∧ u = w') := hid (fun u => by rw [← hn0]; exact rsubs_any k u)
    have HN0 := hid hn0
    clear hn0
    obtain ⟨X1, hX1⟩ : ∃ X1, w.alloc (.cells #[.int .i64 k, .string t, .int .i64 a, .slice av ats.length cv, .slice sa l.length cs] 25) = X1 := ⟨_, rfl⟩
    have HB1 : Hid (Below w.heap.size w X1) := hid (hX1 ▸ ext_alloc _ _)
    have HLT : Hid (w.heap.size < X1.heap.size) := hid (by rw [← hX1]; simp)
    have HXR : Hid (X1.heap[w.heap.size]? = some (.cells #[.int .i64 k, .string t, .int .i64 a, .slice av ats.length cv, .slice sa l.length cs] 25 (0, 0))) := hid (by rw [← hX1]; exact heap_alloc_new _ _)
    have HK0 : Hid (∀ u, Below X1.heap.size X1 u → u.cell? ⟨w.heap.size, 0, none⟩ = some (.int .i64 k)) := hid (fun u hu => by rw [cell_of_row _ _ _ _ _ _ ((hu.block _ HLT.out).trans HXR.out)]; rfl)
    have HK1 : Hid (∀ u, Below X1.heap.size X1 u → u.cell? ⟨w.heap.size, 1, none⟩ = some (.string t)) := hid (fun u hu => by rw [cell_of_row _ _ _ _ _ _ ((hu.block _ HLT.out).trans HXR.out)]; rfl)
    have HK2 : Hid (∀ u, Below X1.heap.size X1 u → u.cell? ⟨w.heap.size, 2, none⟩ = some (.int .i64 a)) := hid (fun u hu => by rw [cell_of_row _ _ _ _ _ _ ((hu.block _ HLT.out).trans HXR.out)]; rfl)
    have HK3 : Hid (∀ u, Below X1.heap.size X1 u → u.cell? ⟨w.heap.size, 3, none⟩ = some (.slice av ats.length cv)) := hid (fun u hu => by rw [cell_of_row _ _ _ _ _ _ ((hu.block _ HLT.out).trans HXR.out)]; rfl)
    have HK4 : Hid (∀ u, Below X1.heap.size X1 u → u.cell? ⟨w.heap.size, 4, none⟩ = some (.slice sa l.length cs)) := hid (fun u hu => by rw [cell_of_row _ _ _ _ _ _ ((hu.block _ HLT.out).trans HXR.out)]; rfl)
    have hq0 := HK0.out X1 (Below.refl _ _)
    by_cases hlo : k < 1
    · have HE : Hid (R = (1, [])) := hid (by rw [← HR0.out]; exact node_kind _ _ _ _ (by unfold isKind; simp; omega))
      go_enter Tryz.func24, Tryz.ntmps24
      go_wp2_with fail
      go_ret2
      exact said_of HE.out HB1.out
    by_cases hhi : 7 < k
    · have HE : Hid (R = (1, [])) := hid (by rw [← HR0.out]; exact node_kind _ _ _ _ (by unfold isKind; simp; omega))
      go_enter Tryz.func24, Tryz.ntmps24
      go_wp2_with fail
      go_ret2
      exact said_of HE.out HB1.out
    have HIS : Hid (isKind k = true) := hid (by unfold isKind; simp; omega)
    go_enter Tryz.func24, Tryz.ntmps24
    go_wp2_with fail
    refine wp_region_ext [(5, is (.int .i64 n))] ⟨is_stays _, trivial⟩ (by kernel_rfl) (by kernel_rfl) ?_
    refine wpG_calc 1 rfl rfl rfl (fun u => by go_simp; rfl) ?_
    simp only [Act.put, List.setIfInBounds_toArray, List.set_cons_zero, List.set_cons_succ]
    refine wpG_read 2 rfl rfl (.slice sa l.length cs) rfl ?_ ?_
    · intro u hu hh
      have hk := HK4.out u hu
      go_simp
    simp only [Act.put, List.setIfInBounds_toArray, List.set_cons_zero, List.set_cons_succ]
    refine wpG_calc 3 rfl rfl rfl (fun u => by go_simp; rfl) ?_
    simp only [Act.put, List.setIfInBounds_toArray, List.set_cons_zero, List.set_cons_succ]
    refine wpG_calc 4 rfl rfl rfl (fun u => by go_simp; rfl) ?_
    simp only [Act.put, List.setIfInBounds_toArray, List.set_cons_zero, List.set_cons_succ]
    refine wpG_read 5 rfl rfl (.int .i64 k) rfl ?_ ?_
    · intro u hu hh
      have hk := HK0.out u hu
      go_simp
    simp only [Act.put, List.setIfInBounds_toArray, List.set_cons_zero, List.set_cons_succ]
    refine wpG_rel 6 rfl rfl rfl ?_ ?_
    · intro u hu hh
      go_simp
      refine (HSB.out u).mono ?_
      rintro e w6 ⟨rfl, rfl⟩
      exact ⟨_, rfl, rfl, Below.refl _ _⟩
    intro vN ⟨uN, _, hrN⟩
    obtain rfl : vN = .int .i64 n := hrN
    simp only [Act.put, List.setIfInBounds_toArray, List.set_cons_zero, List.set_cons_succ]
    refine wpG_calc 7 rfl rfl rfl (fun u => by go_simp; rfl) ?_
    simp only [Act.put, List.setIfInBounds_toArray, List.set_cons_zero, List.set_cons_succ]
    refine wpG_nil fun w3 hb3 hF => ?_
    clear hF hq0
    have H13 := hid hb3
    have HB3 := hid (HB1.out.trans (hb3.mono HB1.out.size))
    have hk0 := HK0.out w3 hb3
    have hk1 := HK1.out w3 hb3
    have hk2 := HK2.out w3 hb3
    have hk3 := HK3.out w3 hb3
    have hk4 := HK4.out w3 hb3
    clear hb3 HSB
    by_cases hn : (l.length : Int) = n
    case neg =>
      have HE : Hid (R = (8, [])) := hid (by rw [← HR0.out]; exact node_shape _ _ _ HIS.out (by rw [List.length_map, HN0.out]; exact hn))
      have hn1 : ((l.length : Int) != n) = true := by simpa using hn
      clear hn
      go_wp2_with fail
      go_ret2
      exact said_of HE.out HB3.out
    case pos =>
      subst hn
      have hn1 : ((l.length : Int) != (l.length : Int)) = false := by simp
      by_cases hz : l.length = 0
      case pos =>
        have HKL : Hid (k = 1 ∨ k = 2 ∨ k = 3) := hid (by
          have h1 := HN0.out
          rw [hz] at h1
          unfold subsN at h1
          split at h1
          · cases h1
          split at h1
          · cases h1
          omega)
        have HE : Hid (R = (leafF k t.data.toList a, leafS k t.data.toList a)) := hid (by
          rw [← HR0.out, node_one _ _ _ HIS.out (by rw [List.length_map, HN0.out]), List.eq_nil_of_length_eq_zero hz]; rfl)
        have hz1 : ((l.length : Int) == 0) = true := by simp [hz]
        clear hz
        go_wp2_with fail
        refine (rleaf_any k t a _ _ _ HKL.out).mono ?_
        rintro e w4 ⟨rfl, hb4⟩
        have HB4 := hid (HB3.out.trans (hb4.mono HB3.out.size))
        clear hb4
        go_wp2_with fail
        go_ret2
        exact said_of HE.out HB4.out
      case neg =>
        have HKL : Hid (k = 4 ∧ l.length = 1 ∨ k = 6 ∧ l.length = 1 ∨ (k = 5 ∨ k = 7) ∧ l.length = 2) := hid (by
          have h1 := HN0.out
          unfold subsN at h1
          split at h1
          · omega
          split at h1
          · omega
          · omega)
        have hz1 : ((l.length : Int) == 0) = false := by simpa using hz
        have hlt : 0 < l.length := by omega
        obtain ⟨b, off, hab, d0, d1, d2, d3, d4⟩ := nd_at (HSL.out.below HB3.out) hlt
        subst hab
        have hjl : (0 : Int) < (l.length : Int) := by omega
        have HERR := hid (fun z hz h0 => node_err t.data.toList a ats HIS.out (by rw [HN0.out]) hlt (fun q h hq => absurd hq (Nat.not_lt_zero _)) (z := z) hz h0)
        have HNZ : Hid (∀ y ∈ l, ∀ u, Below w.heap.size w u → Calls Tryz.prog 24 #[.agg #[.int .i64 y.k, .string y.t, .int .i64 y.a, y.va, y.vs]] u (Go.Proofs.YtogpgfaojmmemaaGreatDoor.mtypes.Said u (typeN y))) := hid (fun y hy u hu => by
          obtain ⟨h1, h2, h3⟩ := HND.out y hy
          exact IH.out y u (Nat.le_trans h2 HN.out) (h1.below hu) h3)
        have HC : Hid (∀ u, Below w.heap.size w u → Calls Tryz.prog 24 #[.agg #[.int .i64 l[0].k, .string l[0].t, .int .i64 l[0].a, l[0].va, l[0].vs]] u (Go.Proofs.YtogpgfaojmmemaaGreatDoor.mtypes.Said u (typeN l[0]))) := hid (HNZ.out _ (List.getElem_mem hlt))
        have HY0 := hid (show l[0]? = some l[0] from List.getElem?_eq_getElem hlt)
        have HNA := hid (HND.out _ (List.getElem_mem hlt)).1
        generalize l[0] = y at d0 d1 d2 d3 d4 HC HERR HY0 HNA
        obtain ⟨T, hT⟩ : ∃ T, typeN y = T := ⟨_, rfl⟩
        have HT0 := hid hT
        simp only [hT] at HC HERR
        clear hT hz
        have HYY := hid (show Nd.mk y.k y.t y.a y.va y.vs y.ats y.subs = y from rfl)
        obtain ⟨a1, c1, e1⟩ := HNA.out.1.1.val
        obtain ⟨a2, c2, e2⟩ := HNA.out.1.2.val
        obtain ⟨yk, hyk⟩ : ∃ q, y.k = q := ⟨_, rfl⟩
        obtain ⟨yt, hyt⟩ : ∃ q, y.t = q := ⟨_, rfl⟩
        obtain ⟨ya, hya⟩ : ∃ q, y.a = q := ⟨_, rfl⟩
        obtain ⟨n1, hn1'⟩ : ∃ q, y.ats.length = q := ⟨_, rfl⟩
        obtain ⟨n2, hn2'⟩ : ∃ q, (nodes y.subs).length = q := ⟨_, rfl⟩
        rw [hn1'] at e1
        rw [hn2'] at e2
        simp only [hyk, hyt, hya, e1, e2, Nat.zero_mul, Nat.add_zero] at d0 d1 d2 d3 d4 HC
        clear hyk hyt hya e1 e2 hn1' hn2' HNA
        go_wp2_with fail
        refine (HC.out _ HB3.out).mono ?_
        rintro e w4 ⟨rfl, hb4⟩
        have HB4 := hid (HB3.out.trans (hb4.mono HB3.out.size))
        have H14 := hid (H13.out.trans (hb4.mono H13.out.size))
        clear hb4 hk0 hk1 hk2 hk3 hk4 d0 d1 d2 d3 d4
        by_cases h0 : T.1 = 0
        case neg =>
          have HE : Hid (R = (T.1, [])) := hid (by rw [← HR0.out]; exact HERR.out _ rfl h0)
          have g0 : (T.1 != 0) = true := by simpa using h0
          clear h0
          go_wp2_with fail
          go_ret2
          exact said_of HE.out HB4.out
        case pos =>
          have g0 : (T.1 != 0) = false := by simp [h0]
          have H0 := hid h0
          have HRT : Hid (RightT T) := hid (HT0.out ▸ right_typeN y)
          have HST : Hid ((bs T.2).size ≤ 10000000) := hid (by rw [bs_size]; have := HRT.out.short h0; omega)
          clear h0
          have hk0 := HK0.out w4 H14.out
          have hk1 := HK1.out w4 H14.out
          have hk2 := HK2.out w4 H14.out
          have hk3 := HK3.out w4 H14.out
          have hk4 := HK4.out w4 H14.out
          obtain ⟨S, hS⟩ : ∃ S, bs T.2 = S := ⟨_, rfl⟩
          have HSD : Hid (S.data.toList = T.2) := hid (by rw [← hS, bs_data])
          rw [hS] at HST
          simp only [hS]
          rcases HKL.out with ⟨rfl, hl1⟩ | ⟨rfl, hl1⟩ | ⟨hk57, hl2⟩
          · have HE : Hid (putOf T.2 a t.data.toList = R) := hid (by
              obtain ⟨y', rfl⟩ := List.length_eq_one_iff.1 hl1
              obtain rfl : y' = y := by simpa using HY0.out
              rw [← HR0.out, ← HT0.out]; exact (node_put (by rw [HT0.out]; exact H0.out)).symm)
            have HP : Hid (∀ u, Calls Tryz.prog 60 #[.string S, .int .i64 a, .string t] u (Go.Proofs.YtogpgfaojmmemaaGreatDoor.mtypes.Said u R)) := hid (fun u => by
              have h := putType_any S a t u HST.out (by have := HT.out; omega)
              rwa [HSD.out, HE.out] at h)
            go_wp2_with fail
            refine (HP.out _).mono ?_
            rintro e w5 ⟨rfl, hb5⟩
            have HB5 := hid (HB4.out.trans (hb5.mono HB4.out.size))
            clear hb5
            go_wp2_with fail
            go_ret2
            exact ⟨rfl, HB5.out⟩
          · have HE : Hid (permuteOf T.2 t.data.toList ats = R) := hid (by
              obtain ⟨y', rfl⟩ := List.length_eq_one_iff.1 hl1
              obtain rfl : y' = y := by simpa using HY0.out
              rw [← HR0.out, ← HT0.out]; exact (node_perm (by rw [HT0.out]; exact H0.out)).symm)
            have HP : Hid (∀ u, Below w.heap.size w u → Calls Tryz.prog 61 #[.string S, .slice av ats.length cv, .string t] u (Go.Proofs.YtogpgfaojmmemaaGreatDoor.mtypes.Said u R)) := hid (fun u hu => by
              have h := permuteType_any S t _ ats u HST.out HT.out (HAT.out.below hu)
              rwa [HSD.out, HE.out] at h)
            go_wp2_with fail
            refine (HP.out _ HB4.out).mono ?_
            rintro e w5 ⟨rfl, hb5⟩
            have HB5 := hid (HB4.out.trans (hb5.mono HB4.out.size))
            clear hb5
            go_wp2_with fail
            go_ret2
            exact ⟨rfl, HB5.out⟩
          · obtain ⟨z, hlz⟩ : ∃ z, l = [y, z] := by
              match l, hl2, HY0.out with
              | [y', z], _, h => exact ⟨z, by simp at h; rw [h]⟩
            have hlt1 : 1 < l.length := by omega
            have hjl1 : (1 : Int) < (l.length : Int) := by omega
            have HLZ := hid hlz
            obtain ⟨b9, off9, hab, d0, d1, d2, d3, d4⟩ := nd_at (HSL.out.below HB4.out) hlt1
            cases hab
            have hz1 : l[1] = z := by simp [hlz]
            rw [hz1] at d0 d1 d2 d3 d4
            have HCZ : Hid (∀ u, Below w.heap.size w u → Calls Tryz.prog 24 #[.agg #[.int .i64 z.k, .string z.t, .int .i64 z.a, z.va, z.vs]] u (Go.Proofs.YtogpgfaojmmemaaGreatDoor.mtypes.Said u (typeN z))) := hid (HNZ.out z (by rw [hlz]; simp))
            have HNA := hid (HND.out z (by rw [hlz]; simp)).1
            obtain ⟨V, hV⟩ : ∃ V, typeN z = V := ⟨_, rfl⟩
            have HV0 := hid hV
            simp only [hV] at HCZ
            clear hlz hz1 hV HNZ HC
            obtain ⟨a3, c3, e1⟩ := HNA.out.1.1.val
            obtain ⟨a4, c4, e2⟩ := HNA.out.1.2.val
            obtain ⟨yk, hyk⟩ : ∃ q, z.k = q := ⟨_, rfl⟩
            obtain ⟨yt, hyt⟩ : ∃ q, z.t = q := ⟨_, rfl⟩
            obtain ⟨ya, hya⟩ : ∃ q, z.a = q := ⟨_, rfl⟩
            obtain ⟨n3, hn1'⟩ : ∃ q, z.ats.length = q := ⟨_, rfl⟩
            obtain ⟨n4, hn2'⟩ : ∃ q, (nodes z.subs).length = q := ⟨_, rfl⟩
            rw [hn1'] at e1
            rw [hn2'] at e2
            simp only [hyk, hyt, hya, e1, e2, Nat.one_mul] at d0 d1 d2 d3 d4 HCZ
            clear hyk hyt hya e1 e2 hn1' hn2' HNA
            have n4' : (k == 4) = false := by rcases hk57 with rfl | rfl <;> rfl
            have n6' : (k == 6) = false := by rcases hk57 with rfl | rfl <;> rfl
            have HK57 := hid hk57
            clear hk57 hl2
            go_wp2_with fail
            refine (HCZ.out _ HB4.out).mono ?_
            rintro e w5 ⟨rfl, hb5⟩
            have HB5 := hid (HB4.out.trans (hb5.mono HB4.out.size))
            have H15 := hid (H14.out.trans (hb5.mono H14.out.size))
            clear hb5 hk0 hk1 hk2 hk3 hk4 d0 d1 d2 d3 d4
            by_cases h0 : V.1 = 0
            case neg =>
              have HE : Hid (R = (V.1, [])) := hid (by
                rw [← HR0.out]
                have hlz := HLZ.out
                subst hlz
                exact node_err t.data.toList a ats HIS.out (by rw [HN0.out]) (j := 1) (by simp) (fun q h hq => by
                  obtain rfl : q = 0 := by omega
                  show (typeN y).1 = 0
                  rw [HT0.out]; exact H0.out) (by show (typeN z).1 = _; rw [HV0.out]) h0)
              have g1 : (V.1 != 0) = true := by simpa using h0
              clear h0
              go_wp2_with fail
              go_ret2
              exact said_of HE.out HB5.out
            case pos =>
              have g1 : (V.1 != 0) = false := by simp [h0]
              have HRV : Hid (RightT V) := hid (HV0.out ▸ right_typeN z)
              have HSV : Hid ((bs V.2).size ≤ 10000000) := hid (by rw [bs_size]; have := HRV.out.short h0; omega)
              have HE0 : Hid (bindType k a T.2 V.2 = R) := hid (by
                rw [← HR0.out]
                have hlz := HLZ.out
                subst hlz
                have := node_bind (t := t.data.toList) (a := a) (ats := ats) HK57.out (y := y) (z := z) (by rw [HT0.out]; exact H0.out) (by rw [HV0.out]; exact h0)
                rw [HT0.out, HV0.out] at this
                exact this.symm)
              obtain ⟨ts, gy, hmy⟩ := HRT.out H0.out
              obtain ⟨us, gz, hmz⟩ := HRV.out h0
              have HMY := hid hmy; have HMZ := hid hmz
              obtain ⟨S2, hS2⟩ : ∃ S2, bs V.2 = S2 := ⟨_, rfl⟩
              have HSD2 : Hid (S2.data.toList = V.2) := hid (by rw [← hS2, bs_data])
              rw [hS2] at HSV
              simp only [hS2]
              clear h0 hmy hmz hS2
              go_wp2_with fail
              refine (methodOf_any S _ HST.out).mono ?_
              intro e w6 h6
              rw [HSD.out] at h6
              obtain ⟨v6, rfl, ho6⟩ := methodSaid_some HMY.out h6
              have HB6 := hid (HB5.out.trans (ho6.below.mono HB5.out.size))
              have H16 := hid (H15.out.trans (ho6.below.mono H15.out.size))
              have HSL6 := hid ho6.sl
              obtain ⟨a6, c6, hv6⟩ := ho6.sl.val
              subst hv6
              clear h6 ho6
              go_wp2_with fail
              refine (methodOf_any S2 _ HSV.out).mono ?_
              intro e w7 h7
              rw [HSD2.out] at h7
              obtain ⟨v7, rfl, ho7⟩ := methodSaid_some HMZ.out h7
              have HB7 := hid (HB6.out.trans (ho7.below.mono HB6.out.size))
              have H17 := hid (H16.out.trans (ho7.below.mono H16.out.size))
              have HSL7 := hid (HSL6.out.below ho7.below)
              have HUL7 := hid ho7.sl
              obtain ⟨a7, c7, hv7⟩ := ho7.sl.val
              subst hv7
              clear h7 ho7
              have hk0 := HK0.out w7 H17.out
              have hk2 := HK2.out w7 H17.out
              rcases HK57.out with rfl | rfl
              · have HEF : Hid (filledF ts us gz a 0 ≠ 0 → R = (filledF ts us gz a 0, [])) := hid (fun hf => by rw [← HE0.out]; exact bind_err HMY.out HMZ.out rfl hf)
                by_cases hr0 : a < 0
                case pos =>
                  have HE : Hid (R = (2, [])) := hid (by
                    have h2 : filledF ts us gz a 0 = 2 := if_pos (.inl hr0)
                    have := HEF.out (by rw [h2]; decide)
                    rwa [h2] at this)
                  go_wp2_with fail
                  go_ret2
                  exact said_of HE.out HB7.out
                case neg =>
                by_cases hr1 : (ts.length : Int) ≤ a
                case pos =>
                  have HE : Hid (R = (2, [])) := hid (by
                    have h2 : filledF ts us gz a 0 = 2 := if_pos (.inr hr1)
                    have := HEF.out (by rw [h2]; decide)
                    rwa [h2] at this)
                  go_wp2_with fail
                  go_ret2
                  exact said_of HE.out HB7.out
                case neg =>
                obtain ⟨i, rfl⟩ : ∃ i : Nat, a = (i : Int) := ⟨a.toNat, by omega⟩
                have hi : i < ts.length := by omega
                have hil : (i : Int) < (ts.length : Int) := by omega
                have hi0 : (0 : Int) ≤ (i : Int) := by omega
                have HFR : Hid (¬ ((i : Int) < 0 ∨ (ts.length : Int) ≤ (i : Int))) := hid (by omega)
                by_cases hn : (us.length : Int) = 0
                case neg =>
                  have HE : Hid (R = (8, [])) := hid (by
                    have h2 : filledF ts us gz (i : Int) 0 = 8 := by unfold filledF; rw [if_neg HFR.out, if_pos hn]
                    have := HEF.out (by rw [h2]; decide)
                    rwa [h2] at this)
                  have hn2 : ((us.length : Int) != 0) = true := by simpa using hn
                  clear hn
                  go_wp2_with fail
                  go_ret2
                  exact said_of HE.out HB7.out
                case pos =>
                  have hn2 : ((us.length : Int) != 0) = false := by simpa using hn
                  have HUN : Hid (us.length = 0) := hid (by omega)
                  obtain ⟨b8, o8, hab, u0, hu0, hcell⟩ := Sl.at1 HSL7.out hi
                  subst hab
                  obtain rfl : u0 = .string (bs ts[i]) := by
                    rw [List.getElem?_map, List.getElem?_eq_getElem hi] at hu0
                    exact (Option.some.inj hu0).symm
                  have HFE : Hid (filledF ts us gz (i : Int) 0 = if ts[i] = gz then 0 else 7) := hid (by
                    unfold filledF
                    rw [if_neg HFR.out, if_neg (by simpa using hn), Int.toNat_natCast, List.getElem?_eq_getElem hi]
                    by_cases h : ts[i] = gz
                    · rw [if_pos h, if_neg (by simpa using h)]
                    · rw [if_neg h, if_pos (by simpa using h)])
                  clear hn hu0
                  by_cases hq : ts[i] = gz
                  case neg =>
                    have HE : Hid (R = (7, [])) := hid (by
                      have h2 : filledF ts us gz (i : Int) 0 = 7 := by rw [HFE.out, if_neg hq]
                      have := HEF.out (by rw [h2]; decide)
                      rwa [h2] at this)
                    have gq : ((bs gz).toList == (bs ts[i]).toList) = false := by
                      rw [ByteArray.toList_eq, ByteArray.toList_eq, bs_data, bs_data]
                      simpa using fun h => hq h.symm
                    obtain ⟨Q1, hQ1⟩ : ∃ Q, bs gz = Q := ⟨_, rfl⟩
                    obtain ⟨Q2, hQ2⟩ : ∃ Q, bs ts[i] = Q := ⟨_, rfl⟩
                    rw [hQ1, hQ2] at gq
                    rw [hQ2] at hcell
                    simp only [hQ1]
                    clear hq
                    go_wp2_with fail
                    go_ret2
                    exact said_of HE.out HB7.out
                  case pos =>
                    have HF : Hid (filledF ts us gz (i : Int) 0 = 0) := hid (by rw [HFE.out, if_pos hq])
                    have gq : ((bs gz).toList == (bs ts[i]).toList) = true := by rw [hq]; simp
                    obtain ⟨Q1, hQ1⟩ : ∃ Q, bs gz = Q := ⟨_, rfl⟩
                    obtain ⟨Q2, hQ2⟩ : ∃ Q, bs ts[i] = Q := ⟨_, rfl⟩
                    rw [hQ1, hQ2] at gq
                    rw [hQ2] at hcell
                    simp only [hQ1]
                    clear hq
                    have HE : Hid (dropOf T.2 (i : Int) = R) := hid (by rw [← HE0.out]; exact (bind_drop HMY.out HMZ.out HF.out).symm)
                    have HP : Hid (∀ u, Calls Tryz.prog 62 #[.string S, .int .i64 (i : Int)] u (Go.Proofs.YtogpgfaojmmemaaGreatDoor.mtypes.Said u R)) := hid (fun u => by
                      have h := dropType_any S (i : Int) u HST.out
                      rwa [HSD.out, HE.out] at h)
                    go_wp2_with fail
                    refine (HP.out _).mono ?_
                    rintro e w8 ⟨rfl, hb8⟩
                    have HB8 := hid (HB7.out.trans (hb8.mono HB7.out.size))
                    clear hb8
                    go_wp2_with fail
                    go_ret2
                    exact ⟨rfl, HB8.out⟩
              · have HEF : Hid (filledF ts us gz a 1 ≠ 0 → R = (filledF ts us gz a 1, [])) := hid (fun hf => by rw [← HE0.out]; exact bind_err HMY.out HMZ.out rfl hf)
                by_cases hr0 : a < 0
                case pos =>
                  have HE : Hid (R = (2, [])) := hid (by
                    have h2 : filledF ts us gz a 1 = 2 := if_pos (.inl hr0)
                    have := HEF.out (by rw [h2]; decide)
                    rwa [h2] at this)
                  go_wp2_with fail
                  go_ret2
                  exact said_of HE.out HB7.out
                case neg =>
                by_cases hr1 : (ts.length : Int) ≤ a
                case pos =>
                  have HE : Hid (R = (2, [])) := hid (by
                    have h2 : filledF ts us gz a 1 = 2 := if_pos (.inr hr1)
                    have := HEF.out (by rw [h2]; decide)
                    rwa [h2] at this)
                  go_wp2_with fail
                  go_ret2
                  exact said_of HE.out HB7.out
                case neg =>
                obtain ⟨i, rfl⟩ : ∃ i : Nat, a = (i : Int) := ⟨a.toNat, by omega⟩
                have hi : i < ts.length := by omega
                have hil : (i : Int) < (ts.length : Int) := by omega
                have hi0 : (0 : Int) ≤ (i : Int) := by omega
                have HFR : Hid (¬ ((i : Int) < 0 ∨ (ts.length : Int) ≤ (i : Int))) := hid (by omega)
                by_cases hn : (us.length : Int) = 1
                case neg =>
                  have HE : Hid (R = (8, [])) := hid (by
                    have h2 : filledF ts us gz (i : Int) 1 = 8 := by unfold filledF; rw [if_neg HFR.out, if_pos hn]
                    have := HEF.out (by rw [h2]; decide)
                    rwa [h2] at this)
                  have hn2 : ((us.length : Int) != 1) = true := by simpa using hn
                  clear hn
                  go_wp2_with fail
                  go_ret2
                  exact said_of HE.out HB7.out
                case pos =>
                  have hn2 : ((us.length : Int) != 1) = false := by simpa using hn
                  have HUN : Hid (us.length = 1) := hid (by omega)
                  obtain ⟨b8, o8, hab, u0, hu0, hcell⟩ := Sl.at1 HSL7.out hi
                  subst hab
                  obtain rfl : u0 = .string (bs ts[i]) := by
                    rw [List.getElem?_map, List.getElem?_eq_getElem hi] at hu0
                    exact (Option.some.inj hu0).symm
                  have HFE : Hid (filledF ts us gz (i : Int) 1 = if ts[i] = gz then 0 else 7) := hid (by
                    unfold filledF
                    rw [if_neg HFR.out, if_neg (by simpa using hn), Int.toNat_natCast, List.getElem?_eq_getElem hi]
                    by_cases h : ts[i] = gz
                    · rw [if_pos h, if_neg (by simpa using h)]
                    · rw [if_neg h, if_pos (by simpa using h)])
                  clear hn hu0
                  by_cases hq : ts[i] = gz
                  case neg =>
                    have HE : Hid (R = (7, [])) := hid (by
                      have h2 : filledF ts us gz (i : Int) 1 = 7 := by rw [HFE.out, if_neg hq]
                      have := HEF.out (by rw [h2]; decide)
                      rwa [h2] at this)
                    have gq : ((bs gz).toList == (bs ts[i]).toList) = false := by
                      rw [ByteArray.toList_eq, ByteArray.toList_eq, bs_data, bs_data]
                      simpa using fun h => hq h.symm
                    obtain ⟨Q1, hQ1⟩ : ∃ Q, bs gz = Q := ⟨_, rfl⟩
                    obtain ⟨Q2, hQ2⟩ : ∃ Q, bs ts[i] = Q := ⟨_, rfl⟩
                    rw [hQ1, hQ2] at gq
                    rw [hQ2] at hcell
                    simp only [hQ1]
                    clear hq
                    go_wp2_with fail
                    go_ret2
                    exact said_of HE.out HB7.out
                  case pos =>
                    have HF : Hid (filledF ts us gz (i : Int) 1 = 0) := hid (by rw [HFE.out, if_pos hq])
                    have gq : ((bs gz).toList == (bs ts[i]).toList) = true := by rw [hq]; simp
                    obtain ⟨Q1, hQ1⟩ : ∃ Q, bs gz = Q := ⟨_, rfl⟩
                    obtain ⟨Q2, hQ2⟩ : ∃ Q, bs ts[i] = Q := ⟨_, rfl⟩
                    rw [hQ1, hQ2] at gq
                    rw [hQ2] at hcell
                    simp only [hQ1]
                    clear hq
                    obtain ⟨u1, rfl⟩ := List.length_eq_one_iff.1 HUN.out
                    have HE : Hid (changeOf T.2 (i : Int) u1 = R) := hid (by rw [← HE0.out]; exact (bind_change HMY.out HMZ.out HF.out).symm)
                    have HU1 : Hid ((bs u1).size ≤ 9223372036854775807) := hid ((types_small HMZ.out).2.2 _ (by simp))
                    have HP : Hid (∀ u, Calls Tryz.prog 63 #[.string S, .int .i64 (i : Int), .string (bs u1)] u (Go.Proofs.YtogpgfaojmmemaaGreatDoor.mtypes.Said u R)) := hid (fun u => by
                      have h := changeType_any S (i : Int) (bs u1) u HST.out HU1.out
                      rwa [HSD.out, bs_data, HE.out] at h)
                    obtain ⟨b9', o9, hab9, z9, hz9, hc9⟩ := Sl.at1 HUL7.out (k := 0) (by simp)
                    subst hab9
                    obtain rfl : z9 = .string (bs u1) := by simpa [sv] using hz9.symm
                    have HC9 : Hid (∀ u, Below w7.heap.size w7 u → u.cell? ⟨b9', o9, none⟩ = some (.string (bs u1))) := hid (fun u hu => (hu.cell (World.block_lt_of_cell? _ _ hc9)).trans hc9)
                    have HK2' : Hid (∀ u, Below w7.heap.size w7 u → u.cell? ⟨w.heap.size, 2, none⟩ = some (.int .i64 (i : Int))) := hid (fun u hu => HK2.out u (H17.out.trans (hu.mono H17.out.size)))
                    clear hz9 hc9
                    go_wp2_with fail
                    refine wp_region_ext [(6, is (.tuple #[.string (bs R.2), .int .i64 R.1]))] ⟨is_stays _, trivial⟩ (by kernel_rfl) (by kernel_rfl) ?_
                    refine wpG_calc 1 rfl rfl rfl (fun u => by go_simp; rfl) ?_
                    simp only [Act.put, List.setIfInBounds_toArray, List.set_cons_zero, List.set_cons_succ]
                    refine wpG_calc 2 rfl rfl rfl (fun u => by go_simp; rfl) ?_
                    simp only [Act.put, List.setIfInBounds_toArray, List.set_cons_zero, List.set_cons_succ]
                    refine wpG_read 3 rfl rfl (.int .i64 (i : Int)) rfl ?_ ?_
                    · intro u hu hh
                      have hk := HK2'.out u hu
                      go_simp
                    simp only [Act.put, List.setIfInBounds_toArray, List.set_cons_zero, List.set_cons_succ]
                    refine wpG_calc 4 rfl rfl rfl (fun u => by go_simp; rfl) ?_
                    simp only [Act.put, List.setIfInBounds_toArray, List.set_cons_zero, List.set_cons_succ]
                    refine wpG_calc 5 rfl rfl rfl (fun u => by go_simp; rfl) ?_
                    simp only [Act.put, List.setIfInBounds_toArray, List.set_cons_zero, List.set_cons_succ]
                    refine wpG_read 6 rfl rfl (.string (bs u1)) rfl ?_ ?_
                    · intro u hu hh
                      have hk := HC9.out u hu
                      go_simp
                    simp only [Act.put, List.setIfInBounds_toArray, List.set_cons_zero, List.set_cons_succ]
                    refine wpG_rel 7 rfl rfl rfl ?_ ?_
                    · intro u hu hh
                      go_simp
                      refine (HP.out u).mono ?_
                      rintro e w6 ⟨rfl, hb6⟩
                      exact ⟨_, rfl, rfl, hb6⟩
                    intro vP ⟨uP, _, hrP⟩
                    obtain rfl : vP = .tuple #[.string (bs R.2), .int .i64 R.1] := hrP
                    simp only [Act.put, List.setIfInBounds_toArray, List.set_cons_zero, List.set_cons_succ]
                    refine wpG_calc 8 rfl rfl rfl (fun u => by go_simp; rfl) ?_
                    simp only [Act.put, List.setIfInBounds_toArray, List.set_cons_zero, List.set_cons_succ]
                    refine wpG_calc 9 rfl rfl rfl (fun u => by go_simp; rfl) ?_
                    simp only [Act.put, List.setIfInBounds_toArray, List.set_cons_zero, List.set_cons_succ]
                    refine wpG_calc 10 rfl rfl rfl (fun u => by go_simp; rfl) ?_
                    simp only [Act.put, List.setIfInBounds_toArray, List.set_cons_zero, List.set_cons_succ]
                    refine wpG_calc 11 rfl rfl rfl (fun u => by go_simp; rfl) ?_
                    simp only [Act.put, List.setIfInBounds_toArray, List.set_cons_zero, List.set_cons_succ]
                    refine wpG_nil fun w8 hb8 hF => ?_
                    clear hF
                    have HB8 := hid (HB7.out.trans (hb8.mono HB7.out.size))
                    clear hb8
                    go_wp2_with fail
                    go_ret2
                    exact ⟨rfl, HB8.out⟩
end Go.Proofs.YtogpgfaojmmemaaGreatDoor.hands
