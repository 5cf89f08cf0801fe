/- Handles: hand.typed, the method's type of a handle. Condition: it is not too great, its texts are not long. -/
import Derived.Test.YtikkhjcocmihlaaDoorHand8
import Derived.Test.YtikkhjcocmihlaaDoorHand7
import Derived.Test.YtikkhjcocmihlaaDoorMtype6
import Derived.Test.YtikkhjcocmihlaaDoorMtype5
import Derived.Test.YtikkhjcocmihlaaDoorMtype3
import Derived.Test.YtikkhjcocmihlaaDoorMtype2
set_option linter.unusedSimpArgs false
set_option linter.unusedVariables false
namespace Go.Proofs.YtikkhjcocmihlaaDoor.hands
open Go.RowKit Go.Proofs.YtikkhjcocmihlaaDoor.lib Go.Proofs.YtikkhjcocmihlaaDoor.errs Go.Proofs.YtikkhjcocmihlaaDoor.names Go.Proofs.YtikkhjcocmihlaaDoor.descs Go.Proofs.YtikkhjcocmihlaaDoor.mtypes Go.Proofs.YtikkhjcocmihlaaDoor.grow Go.Proofs.YtikkhjcocmihlaaDoor.maps

def mapOf : Value → World → Prop := fun v u => ∃ g, v = .map (some g) ∧ MapIs intKey u g subsL
theorem mapOf_stays : ∀ v w w', Below w.heap.size w w' → mapOf v w → mapOf v w' := by
  rintro v w w' hb ⟨g, rfl, hm⟩
  have hlt : g < w.heap.size := by
    obtain ⟨es, c, h1, _⟩ := hm
    exact (Array.getElem?_eq_some_iff.1 h1).1
  exact ⟨g, rfl, map_keep intKey hm (hb.block g hlt)⟩
def rowOf (ts : List (List UInt8)) : Value → World → Prop := fun v u => ∃ s, v = .tuple #[s, .nilIface] ∧ Sl u s ts.length 1 (ts.map sv)
theorem rowOf_stays (ts : List (List UInt8)) : ∀ v w w', Below w.heap.size w w' → rowOf ts v w → rowOf ts v w' := by
  rintro v w w' hb ⟨s, rfl, hs⟩
  exact ⟨s, rfl, hs.below hb⟩
def tyv (y : Nd) : Value := .string (bs (typeN y).2)

set_option maxRecDepth 100000 in
set_option maxHeartbeats 8000000 in
theorem typed_any : ∀ (N : Nat) (x : Nd) (w : World), cnt x ≤ N → NAt w x → ShortN x → cnt x ≤ 1000000000000 →
    Calls Tryd.prog 16 #[.agg #[.int .i64 x.k, .string x.t, .int .i64 x.a, x.va, x.vs]] w (Go.Proofs.YtikkhjcocmihlaaDoor.mtypes.Told w (typeN x)) := by
  intro N
  induction N with
  | zero => intro x w h; unfold cnt at h; omega
  | succ N ih =>
    intro x w hN hx hS hB
    have IH := hid ih
    clear ih
    obtain ⟨k, t, a, va, vs, ats, subs⟩ := x
    obtain ⟨av, cv, hva⟩ := hx.1.1.val
    obtain ⟨sa, cs, hvs⟩ := hx.1.2.val
    simp only at hva hvs
    subst hva hvs
    have HT : Hid (t.size ≤ 10000000) := hid hS.1
    have HN : Hid (cntF subs ≤ N) := hid (by unfold cnt at hN; simp only at hN; omega)
    have HB : Hid (cntF subs ≤ 1000000000000) := hid (by unfold cnt at hB; simp only at hB; omega)
    have HSA := hid (sum_all subs)
    obtain ⟨R, hR⟩ : ∃ R, typeN ⟨k, t, a, .slice av ats.length cv, .slice sa (nodes subs).length cs, ats, subs⟩ = R := ⟨_, rfl⟩
    have HR0 : Hid (nodeType k t.data.toList a ats ((nodes subs).map typeN) = R) := hid (by rw [← hR, ← types_nodes]; rfl)
    have HAT : Hid (Sl w (.slice av ats.length cv) ats.length 1 (ats.map (.int .i64))) := hid hx.1.1
    obtain ⟨l, hl⟩ : ∃ l, nodes subs = l := ⟨_, rfl⟩
    have HSL : Hid (Sl w (.slice sa l.length cs) l.length 5 (l.flatMap Nd.cells)) := hid (by have := hx.1.2; simp only at this; rwa [hl] at this)
    have HND : Hid (∀ y ∈ l, NAt w y ∧ cnt y ≤ cntF subs ∧ ShortN y) := hid (fun y hy => by
      rw [← hl] at hy
      obtain ⟨h1, h2⟩ := node_at hx.2 hy
      exact ⟨h1, h2, short_at hS.2 hy⟩)
    rw [hl] at HSA HR0
    have hlen : l.length ≤ 1000000000000 := by
      have h1 : ∀ q : List Nd, q.length ≤ (q.map cnt).sum := by
        intro q
        induction q with
        | nil => simp
        | cons y q ih =>
          simp only [List.length_cons, List.map_cons, List.sum_cons]
          have : 1 ≤ cnt y := by unfold cnt; omega
          omega
      have := h1 l
      rw [HSA.out] at this
      exact Nat.le_trans this HB.out
    rw [hR]
    simp only [hl]
    clear hR hl hx hN hB hS
    obtain ⟨n, hn0⟩ : ∃ n, subsN k = n := ⟨_, rfl⟩
    obtain ⟨B, hB0⟩ : ∃ B, isKind k = B := ⟨_, rfl⟩
    have HL : Hid (∀ (u : World) (g : Nat), MapIs intKey u g subsL → (Instr.lookup 65 (.map (some g)) (.int .i64 k) true).run Tryd.prog u = .ok (.tuple #[.int .i64 n, .bool B]) u) := hid (fun u g hm => by rw [← hn0, ← hB0]; exact subs_look hm k)
    have HN0 := hid hn0
    have HB0 := hid hB0
    clear hn0 hB0
    obtain ⟨X1, hX1⟩ : ∃ X1, w.alloc (.cells #[.int .i64 k, .string t, .int .i64 a, .slice av ats.length cv, .slice sa l.length cs] 25) = X1 := ⟨_, rfl⟩
    have HB1 : Hid (Below w.heap.size w X1) := hid (hX1 ▸ ext_alloc _ _)
    have HLT : Hid (w.heap.size < X1.heap.size) := hid (by rw [← hX1]; simp)
    have HXR : Hid (X1.heap[w.heap.size]? = some (.cells #[.int .i64 k, .string t, .int .i64 a, .slice av ats.length cv, .slice sa l.length cs] 25 (0, 0))) := hid (by rw [← hX1]; exact heap_alloc_new _ _)
    have HK0 : Hid (∀ u, Below X1.heap.size X1 u → u.cell? ⟨w.heap.size, 0, none⟩ = some (.int .i64 k)) := hid (fun u hu => by rw [cell_of_row _ _ _ _ _ _ ((hu.block _ HLT.out).trans HXR.out)]; rfl)
    have HK1 : Hid (∀ u, Below X1.heap.size X1 u → u.cell? ⟨w.heap.size, 1, none⟩ = some (.string t)) := hid (fun u hu => by rw [cell_of_row _ _ _ _ _ _ ((hu.block _ HLT.out).trans HXR.out)]; rfl)
    have HK2 : Hid (∀ u, Below X1.heap.size X1 u → u.cell? ⟨w.heap.size, 2, none⟩ = some (.int .i64 a)) := hid (fun u hu => by rw [cell_of_row _ _ _ _ _ _ ((hu.block _ HLT.out).trans HXR.out)]; rfl)
    have HK3 : Hid (∀ u, Below X1.heap.size X1 u → u.cell? ⟨w.heap.size, 3, none⟩ = some (.slice av ats.length cv)) := hid (fun u hu => by rw [cell_of_row _ _ _ _ _ _ ((hu.block _ HLT.out).trans HXR.out)]; rfl)
    have HK4 : Hid (∀ u, Below X1.heap.size X1 u → u.cell? ⟨w.heap.size, 4, none⟩ = some (.slice sa l.length cs)) := hid (fun u hu => by rw [cell_of_row _ _ _ _ _ _ ((hu.block _ HLT.out).trans HXR.out)]; rfl)
    go_enter Tryd.func16, Tryd.ntmps16
    go_wp2_with fail
    refine wp_region_ext [(0, mapOf)] ⟨mapOf_stays, trivial⟩ (by kernel_rfl) (by kernel_rfl) ?_
    refine wpG_rel 1 rfl rfl rfl ?_ ?_
    · intro u hu hh
      go_simp
      refine (subs_any u).mono ?_
      rintro e w6 ⟨rfl, hm6, hb6⟩
      exact ⟨_, rfl, ⟨_, rfl, hm6⟩, hb6⟩
    intro vM ⟨uM, _, hrM⟩
    obtain ⟨g0, rfl, _⟩ := hrM
    simp only [Act.put, List.setIfInBounds_toArray, List.set_cons_zero, List.set_cons_succ]
    refine wpG_calc 2 rfl rfl rfl (fun u => by go_simp; rfl) ?_
    simp only [Act.put, List.setIfInBounds_toArray, List.set_cons_zero, List.set_cons_succ]
    refine wpG_read 3 rfl rfl (.int .i64 k) rfl ?_ ?_
    · intro u hu hh
      have hk := HK0.out u hu
      go_simp
    simp only [Act.put, List.setIfInBounds_toArray, List.set_cons_zero, List.set_cons_succ]
    refine wpG_read 4 rfl rfl (.tuple #[.int .i64 n, .bool B]) rfl ?_ ?_
    · intro u hu hh
      obtain ⟨g1, he1, hm1⟩ : mapOf (.map (some g0)) u := hh 0 rfl
      cases he1
      have hl := HL.out u _ hm1
      go_simp
    simp only [Act.put, List.setIfInBounds_toArray, List.set_cons_zero, List.set_cons_succ]
    refine wpG_calc 5 rfl rfl rfl (fun u => by go_simp; rfl) ?_
    simp only [Act.put, List.setIfInBounds_toArray, List.set_cons_zero, List.set_cons_succ]
    refine wpG_calc 6 rfl rfl rfl (fun u => by go_simp; rfl) ?_
    simp only [Act.put, List.setIfInBounds_toArray, List.set_cons_zero, List.set_cons_succ]
    refine wpG_calc 7 rfl rfl rfl (fun u => by go_simp; rfl) ?_
    simp only [Act.put, List.setIfInBounds_toArray, List.set_cons_zero, List.set_cons_succ]
    refine wpG_calc 8 rfl rfl rfl (fun u => by go_simp; rfl) ?_
    simp only [Act.put, List.setIfInBounds_toArray, List.set_cons_zero, List.set_cons_succ]
    refine wpG_calc 9 rfl rfl rfl (fun u => by go_simp; rfl) ?_
    simp only [Act.put, List.setIfInBounds_toArray, List.set_cons_zero, List.set_cons_succ]
    refine wpG_nil fun w3 hb3 hF => ?_
    clear hF
    have H13 := hid hb3
    have HB3 := hid (HB1.out.trans (hb3.mono HB1.out.size))
    have hk0 := HK0.out w3 hb3
    have hk1 := HK1.out w3 hb3
    have hk2 := HK2.out w3 hb3
    have hk3 := HK3.out w3 hb3
    have hk4 := HK4.out w3 hb3
    clear hb3 HL
    cases B with
    | false =>
      have HE : Hid (R = (1, [])) := hid (by rw [← HR0.out]; exact node_kind _ _ _ _ HB0.out)
      go_wp2_with fail
      go_ret2
      exact told_err HE.out (by decide) HB3.out
    | true =>
      by_cases hn : (l.length : Int) = n
      case neg =>
        have HE : Hid (R = (8, [])) := hid (by rw [← HR0.out]; exact node_shape _ _ _ HB0.out (by rw [List.length_map, HN0.out]; exact hn))
        have hn1 : ((l.length : Int) != n) = true := by simpa using hn
        clear hn
        go_wp2_with fail
        go_ret2
        exact told_err HE.out (by decide) HB3.out
      case pos =>
        subst hn
        have hn1 : ((l.length : Int) != (l.length : Int)) = false := by simp
        by_cases hz : l.length = 0
        case pos =>
          have HKL : Hid (k = 1 ∨ k = 2 ∨ k = 3) := hid (by
            have h1 := HN0.out
            have h2 := HB0.out
            rw [hz] at h1
            unfold isKind at h2
            simp only [decide_eq_true_eq] at h2
            unfold subsN at h1
            split at h1
            · cases h1
            split at h1
            · cases h1
            omega)
          have HE : Hid (R = (leafF k t.data.toList a, leafS k t.data.toList a)) := hid (by
            rw [← HR0.out, node_one _ _ _ HB0.out (by rw [List.length_map, HN0.out]), List.eq_nil_of_length_eq_zero hz]; rfl)
          have hz1 : ((l.length : Int) == 0) = true := by simp [hz]
          clear hz
          go_wp2_with fail
          refine (leaf_any k t a _ _ _ HKL.out).mono ?_
          rintro e w4 ⟨rfl, hb4⟩
          rw [← HE.out]
          have HB4 := hid (HB3.out.trans (hb4.mono HB3.out.size))
          clear hb4
          go_wp2_with fail
          go_ret2
          exact ⟨rfl, HB4.out⟩
        case neg =>
          have HKL : Hid (k = 4 ∧ l.length = 1 ∨ k = 6 ∧ l.length = 1 ∨ (k = 5 ∨ k = 7) ∧ l.length = 2) := hid (by
            have h1 := HN0.out
            unfold subsN at h1
            split at h1
            · omega
            split at h1
            · omega
            · omega)
          have hz1 : ((l.length : Int) == 0) = false := by simpa using hz
          clear hz
          go_wp2_with fail
          go_loopw [6, 40] (fun v i wr => ∃ j : Nat, j ≤ l.length ∧ i = .int .i64 j ∧ Hid (Out w3 wr 9 1 v j ((l.take j).map tyv)) ∧ Hid (∀ q (h : q < l.length), q < j → (typeN l[q]).1 = 0)) (fun _ i _ => l.length - (intOf i).toNat)
          case atStart => exact ⟨0, Nat.zero_le _, rfl, hid (Out.nil _ _ _), hid (fun q h h0 => absurd h0 (Nat.not_lt_zero _))⟩
          case round =>
            obtain ⟨j, hj, rfl, HO, HQ⟩ := hrel
            have HR := hid (HB3.out.trans (HO.out.below.mono HB3.out.size))
            have HXW := hid (H13.out.trans (HO.out.below.mono H13.out.size))
            clear hk0 hk1 hk2 hk3 hk4
            by_cases hlt : j < l.length
            · obtain ⟨b, off, hab, d0, d1, d2, d3, d4⟩ := nd_at (HSL.out.below HR.out) hlt
              subst hab
              have hi : (0 : Int) ≤ (j : Int) := by omega
              have hjl : (j : Int) < (l.length : Int) := by omega
              have HERR := hid (fun z hz h0 => node_err t.data.toList a ats HB0.out (by rw [HN0.out]) hlt HQ.out (z := z) hz h0)
              have HTK := hid (show (l.take (j + 1)).map tyv = (l.take j).map tyv ++ [tyv l[j]] from by rw [List.take_succ_eq_append_getElem hlt, List.map_append]; rfl)
              have HQ2 : Hid ((typeN l[j]).1 = 0 → ∀ q (h : q < l.length), q < j + 1 → (typeN l[q]).1 = 0) := hid (fun h0 q h hq => by
                by_cases hqj : q < j
                · exact HQ.out q h hqj
                · obtain rfl : q = j := by omega
                  exact h0)
              obtain ⟨hna, hnc, hns⟩ := HND.out _ (List.getElem_mem hlt)
              have HNA := hid hna; have HNC := hid hnc; have HNS := hid hns
              clear hna hnc hns
              generalize l[j] = y at d0 d1 d2 d3 d4 HNA HNC HNS HERR HTK HQ2
              have HC : Hid (∀ u, Below w.heap.size w u → Calls Tryd.prog 16 #[.agg #[.int .i64 y.k, .string y.t, .int .i64 y.a, y.va, y.vs]] u (Go.Proofs.YtikkhjcocmihlaaDoor.mtypes.Told u (typeN y))) := hid (fun u hu =>
                IH.out y u (Nat.le_trans HNC.out HN.out) (HNA.out.below hu) HNS.out (Nat.le_trans HNC.out HB.out))
              obtain ⟨T, hT⟩ : ∃ T, typeN y = T := ⟨_, rfl⟩
              have htv : tyv y = .string (bs T.2) := by unfold tyv; rw [hT]
              rw [htv] at HTK
              simp only [hT] at HC HERR HQ2
              clear htv hT
              obtain ⟨yk, yt, ya, yva, yvs, yats, ysubs⟩ := y
              obtain ⟨a1, c1, e1⟩ := HNA.out.1.1.val
              obtain ⟨a2, c2, e2⟩ := HNA.out.1.2.val
              simp only at e1 e2 d0 d1 d2 d3 d4 HC
              subst e1 e2
              go_wp2_with fail
              refine (HC.out _ (HR.out.alloc HR.out.size _)).mono ?_
              rintro e w5 ⟨rfl, hb5⟩
              have hb6 := (ext_alloc wr _).trans (hb5.mono (ext_alloc wr _).size)
              have HB5 := hid (HR.out.trans (hb6.mono HR.out.size))
              have HO5 := hid (HO.out.later hb6)
              clear hb5 hb6
              by_cases h0 : T.1 = 0
              · have HQ3 := hid (HQ2.out h0)
                rw [show errVal T.1 = .nilIface from by rw [h0]; rfl]
                obtain ⟨S, hS⟩ : ∃ S, bs T.2 = S := ⟨_, rfl⟩
                rw [hS] at HTK
                simp only [hS]
                go_wp2_with (at_builtin; go_loud (refine wpList_append_lit w3 w5 _ rfl _ _ 35 rfl 9 (.string { data := #[] }) 1 16 1 Tryd.underlying35 infoStr rfl (by decide) _ _ _ HO5.out rfl rfl rfl ?_ ?_ ?_ ?_))
                all_goals first | (intro v' w' hout' _hg) | omega | (simp [Value.oneCell']; done) | skip
                have HO6 := hid (show Out w3 w' 9 1 v' (j + 1) ((l.take (j + 1)).map tyv) from by rw [HTK.out, List.map_take]; exact hout')
                clear hout' _hg
                go_wp2_with fail
                go_roundw
                case rel => exact ⟨j + 1, by omega, by go_num, HO6, HQ3⟩
                case measure => simp [intOf]; omega
              · have HE : Hid (R = (T.1, [])) := hid (by rw [← HR0.out]; exact HERR.out _ rfl h0)
                have H0 := hid h0
                rw [show errVal T.1 = .iface 39 (.int .i64 T.1) from by unfold errVal; rw [if_neg h0]]
                clear h0
                go_wp2_with fail
                go_ret2
                exact told_err HE.out H0.out HB5.out
            · obtain rfl : j = l.length := by omega
              have hge : ¬ (l.length : Int) < (l.length : Int) := by omega
              rw [List.take_length] at HO
              have HBR := HR
              have hk0 := HK0.out wr HXW.out
              have HK0' : Hid (∀ u, Below wr.heap.size wr u → u.cell? ⟨w.heap.size, 0, none⟩ = some (.int .i64 k)) := hid (fun u hu => HK0.out u (HXW.out.trans (hu.mono HXW.out.size)))
              have HK1' : Hid (∀ u, Below wr.heap.size wr u → u.cell? ⟨w.heap.size, 1, none⟩ = some (.string t)) := hid (fun u hu => HK1.out u (HXW.out.trans (hu.mono HXW.out.size)))
              have HK2' : Hid (∀ u, Below wr.heap.size wr u → u.cell? ⟨w.heap.size, 2, none⟩ = some (.int .i64 a)) := hid (fun u hu => HK2.out u (HXW.out.trans (hu.mono HXW.out.size)))
              have HK3' : Hid (∀ u, Below wr.heap.size wr u → u.cell? ⟨w.heap.size, 3, none⟩ = some (.slice av ats.length cv)) := hid (fun u hu => HK3.out u (HXW.out.trans (hu.mono HXW.out.size)))
              have HAT' : Hid (∀ u, Below wr.heap.size wr u → Sl u (.slice av ats.length cv) ats.length 1 (ats.map (.int .i64))) := hid (fun u hu => HAT.out.below (HR.out.trans (hu.mono HR.out.size)))
              clear HSL HND HK0 HK1 HK2 HK3 HK4 HAT
              rcases HKL.out with ⟨rfl, hl1⟩ | ⟨rfl, hl1⟩ | ⟨hk57, hl2⟩
              · obtain ⟨y, rfl⟩ := List.length_eq_one_iff.1 hl1
                have hy : (typeN y).1 = 0 := HQ.out 0 (by simp) (by simp)
                have HE : Hid (putOf (typeN y).2 a t.data.toList = R) := hid (by rw [← HR0.out]; exact (node_put hy).symm)
                have HSH : Hid ((bs (typeN y).2).size ≤ 10000000) := hid (by rw [bs_size]; have := (right_typeN y).short hy; omega)
                have HP : Hid (∀ u, Below wr.heap.size wr u → Calls Tryd.prog 32 #[.string (bs (typeN y).2), .int .i64 a, .string t] u (Go.Proofs.YtikkhjcocmihlaaDoor.mtypes.Told u R)) := hid (fun u hu => by
                  have h := put_any (bs (typeN y).2) a t u HSH.out (by have := HT.out; omega)
                  rwa [bs_data, HE.out] at h)
                obtain ⟨g, cap, rfl, hcap, hcell⟩ := HO.out.shape (by simp)
                have HC0 : Hid (∀ u, Below wr.heap.size wr u → u.cell? ⟨g, 0, none⟩ = some (.string (bs (typeN y).2))) := hid (fun u hu => by
                  have h := hcell 0 _ rfl
                  exact (hu.cell (World.block_lt_of_cell? _ _ h)).trans h)
                clear hcell hy
                go_wp2_with fail
                refine wp_region_ext [(7, is (.tuple #[.string (bs R.2), errVal R.1]))] ⟨is_stays _, trivial⟩ (by kernel_rfl) (by kernel_rfl) ?_
                refine wpG_calc 1 rfl rfl rfl (fun u => by go_simp; rfl) ?_
                simp only [Act.put, List.setIfInBounds_toArray, List.set_cons_zero, List.set_cons_succ]
                refine wpG_calc 2 rfl rfl rfl (fun u => by go_simp; rfl) ?_
                simp only [Act.put, List.setIfInBounds_toArray, List.set_cons_zero, List.set_cons_succ]
                refine wpG_read 3 rfl rfl (.string (bs (typeN y).2)) rfl ?_ ?_
                · intro u hu hh
                  have hk := HC0.out u hu
                  go_simp
                simp only [Act.put, List.setIfInBounds_toArray, List.set_cons_zero, List.set_cons_succ]
                refine wpG_calc 4 rfl rfl rfl (fun u => by go_simp; rfl) ?_
                simp only [Act.put, List.setIfInBounds_toArray, List.set_cons_zero, List.set_cons_succ]
                refine wpG_read 5 rfl rfl (.int .i64 a) rfl ?_ ?_
                · intro u hu hh
                  have hk := HK2'.out u hu
                  go_simp
                simp only [Act.put, List.setIfInBounds_toArray, List.set_cons_zero, List.set_cons_succ]
                refine wpG_calc 6 rfl rfl rfl (fun u => by go_simp; rfl) ?_
                simp only [Act.put, List.setIfInBounds_toArray, List.set_cons_zero, List.set_cons_succ]
                refine wpG_read 7 rfl rfl (.string t) rfl ?_ ?_
                · intro u hu hh
                  have hk := HK1'.out u hu
                  go_simp
                simp only [Act.put, List.setIfInBounds_toArray, List.set_cons_zero, List.set_cons_succ]
                refine wpG_rel 8 rfl rfl rfl ?_ ?_
                · intro u hu hh
                  go_simp
                  refine (HP.out u hu).mono ?_
                  rintro e w6 ⟨rfl, hb6⟩
                  exact ⟨_, rfl, rfl, hb6⟩
                intro vP ⟨uP, _, hrP⟩
                obtain rfl : vP = .tuple #[.string (bs R.2), errVal R.1] := hrP
                simp only [Act.put, List.setIfInBounds_toArray, List.set_cons_zero, List.set_cons_succ]
                refine wpG_calc 9 rfl rfl rfl (fun u => by go_simp; rfl) ?_
                simp only [Act.put, List.setIfInBounds_toArray, List.set_cons_zero, List.set_cons_succ]
                refine wpG_calc 10 rfl rfl rfl (fun u => by go_simp; rfl) ?_
                simp only [Act.put, List.setIfInBounds_toArray, List.set_cons_zero, List.set_cons_succ]
                refine wpG_calc 11 rfl rfl rfl (fun u => by go_simp; rfl) ?_
                simp only [Act.put, List.setIfInBounds_toArray, List.set_cons_zero, List.set_cons_succ]
                refine wpG_calc 12 rfl rfl rfl (fun u => by go_simp; rfl) ?_
                simp only [Act.put, List.setIfInBounds_toArray, List.set_cons_zero, List.set_cons_succ]
                refine wpG_nil fun w7 hb7 hF => ?_
                clear hF
                have HB7 := hid (HBR.out.trans (hb7.mono HBR.out.size))
                clear hb7
                go_wp2_with fail
                go_ret2
                exact ⟨rfl, HB7.out⟩
              · obtain ⟨y, rfl⟩ := List.length_eq_one_iff.1 hl1
                have hy : (typeN y).1 = 0 := HQ.out 0 (by simp) (by simp)
                have HE : Hid (permuteOf (typeN y).2 t.data.toList ats = R) := hid (by rw [← HR0.out]; exact (node_perm hy).symm)
                have HSH : Hid ((bs (typeN y).2).size ≤ 10000000) := hid (by rw [bs_size]; have := (right_typeN y).short hy; omega)
                have HP : Hid (∀ u, Below wr.heap.size wr u → Calls Tryd.prog 33 #[.string (bs (typeN y).2), .slice av ats.length cv, .string t] u (Go.Proofs.YtikkhjcocmihlaaDoor.mtypes.Told u R)) := hid (fun u hu => by
                  have h := permute_any (bs (typeN y).2) t _ ats u HSH.out HT.out (HAT'.out u hu)
                  rwa [bs_data, HE.out] at h)
                obtain ⟨g, cap, rfl, hcap, hcell⟩ := HO.out.shape (by simp)
                have HC0 : Hid (∀ u, Below wr.heap.size wr u → u.cell? ⟨g, 0, none⟩ = some (.string (bs (typeN y).2))) := hid (fun u hu => by
                  have h := hcell 0 _ rfl
                  exact (hu.cell (World.block_lt_of_cell? _ _ h)).trans h)
                clear hcell hy
                go_wp2_with fail
                refine wp_region_ext [(7, is (.tuple #[.string (bs R.2), errVal R.1]))] ⟨is_stays _, trivial⟩ (by kernel_rfl) (by kernel_rfl) ?_
                refine wpG_calc 1 rfl rfl rfl (fun u => by go_simp; rfl) ?_
                simp only [Act.put, List.setIfInBounds_toArray, List.set_cons_zero, List.set_cons_succ]
                refine wpG_calc 2 rfl rfl rfl (fun u => by go_simp; rfl) ?_
                simp only [Act.put, List.setIfInBounds_toArray, List.set_cons_zero, List.set_cons_succ]
                refine wpG_read 3 rfl rfl (.string (bs (typeN y).2)) rfl ?_ ?_
                · intro u hu hh
                  have hk := HC0.out u hu
                  go_simp
                simp only [Act.put, List.setIfInBounds_toArray, List.set_cons_zero, List.set_cons_succ]
                refine wpG_calc 4 rfl rfl rfl (fun u => by go_simp; rfl) ?_
                simp only [Act.put, List.setIfInBounds_toArray, List.set_cons_zero, List.set_cons_succ]
                refine wpG_read 5 rfl rfl (.slice av ats.length cv) rfl ?_ ?_
                · intro u hu hh
                  have hk := HK3'.out u hu
                  go_simp
                simp only [Act.put, List.setIfInBounds_toArray, List.set_cons_zero, List.set_cons_succ]
                refine wpG_calc 6 rfl rfl rfl (fun u => by go_simp; rfl) ?_
                simp only [Act.put, List.setIfInBounds_toArray, List.set_cons_zero, List.set_cons_succ]
                refine wpG_read 7 rfl rfl (.string t) rfl ?_ ?_
                · intro u hu hh
                  have hk := HK1'.out u hu
                  go_simp
                simp only [Act.put, List.setIfInBounds_toArray, List.set_cons_zero, List.set_cons_succ]
                refine wpG_rel 8 rfl rfl rfl ?_ ?_
                · intro u hu hh
                  go_simp
                  refine (HP.out u hu).mono ?_
                  rintro e w6 ⟨rfl, hb6⟩
                  exact ⟨_, rfl, rfl, hb6⟩
                intro vP ⟨uP, _, hrP⟩
                obtain rfl : vP = .tuple #[.string (bs R.2), errVal R.1] := hrP
                simp only [Act.put, List.setIfInBounds_toArray, List.set_cons_zero, List.set_cons_succ]
                refine wpG_calc 9 rfl rfl rfl (fun u => by go_simp; rfl) ?_
                simp only [Act.put, List.setIfInBounds_toArray, List.set_cons_zero, List.set_cons_succ]
                refine wpG_calc 10 rfl rfl rfl (fun u => by go_simp; rfl) ?_
                simp only [Act.put, List.setIfInBounds_toArray, List.set_cons_zero, List.set_cons_succ]
                refine wpG_calc 11 rfl rfl rfl (fun u => by go_simp; rfl) ?_
                simp only [Act.put, List.setIfInBounds_toArray, List.set_cons_zero, List.set_cons_succ]
                refine wpG_calc 12 rfl rfl rfl (fun u => by go_simp; rfl) ?_
                simp only [Act.put, List.setIfInBounds_toArray, List.set_cons_zero, List.set_cons_succ]
                refine wpG_nil fun w7 hb7 hF => ?_
                clear hF
                have HB7 := hid (HBR.out.trans (hb7.mono HBR.out.size))
                clear hb7
                go_wp2_with fail
                go_ret2
                exact ⟨rfl, HB7.out⟩
              · obtain ⟨y, z, rfl⟩ : ∃ y z, l = [y, z] := by
                  match l, hl2 with
                  | [y, z], _ => exact ⟨y, z, rfl⟩
                have hy : (typeN y).1 = 0 := HQ.out 0 (by simp) (by simp)
                have hz : (typeN z).1 = 0 := HQ.out 1 (by simp) (by simp)
                have HE0 : Hid (bindType k a (typeN y).2 (typeN z).2 = R) := hid (by rw [← HR0.out]; exact (node_bind hk57 hy hz).symm)
                have HSY : Hid ((bs (typeN y).2).size ≤ 10000000) := hid (by rw [bs_size]; have := (right_typeN y).short hy; omega)
                have HSZ : Hid ((bs (typeN z).2).size ≤ 10000000) := hid (by rw [bs_size]; have := (right_typeN z).short hz; omega)
                obtain ⟨ts, gy, hmy⟩ := right_typeN y hy
                obtain ⟨us, gz, hmz⟩ := right_typeN z hz
                have HMY := hid hmy; have HMZ := hid hmz
                have HFL : Hid (∀ many u, Calls Tryd.prog 34 #[.string (bs (typeN y).2), .string (bs (typeN z).2), .int .i64 a, .int .i64 many] u (FillBy u ts us gz a many)) := hid (fun many u =>
                  filled_any (bs (typeN y).2) (bs (typeN z).2) a many ts us gy gz u (by rw [bs_data]; exact HMY.out) (by rw [bs_data]; exact HMZ.out) HSY.out HSZ.out)
                obtain ⟨g, cap, rfl, hcap, hcell⟩ := HO.out.shape (by simp)
                have HC0 : Hid (∀ u, Below wr.heap.size wr u → u.cell? ⟨g, 0, none⟩ = some (.string (bs (typeN y).2))) := hid (fun u hu => by
                  have h := hcell 0 _ rfl
                  exact (hu.cell (World.block_lt_of_cell? _ _ h)).trans h)
                have HC1 : Hid (∀ u, Below wr.heap.size wr u → u.cell? ⟨g, 1, none⟩ = some (.string (bs (typeN z).2))) := hid (fun u hu => by
                  have h := hcell 1 _ rfl
                  exact (hu.cell (World.block_lt_of_cell? _ _ h)).trans h)
                clear hcell hy hz hmy hmz
                rcases hk57 with rfl | rfl
                · by_cases hf : filledF ts us gz a 0 = 0
                  case neg =>
                    have HF := hid hf
                    have HE : Hid (R = (filledF ts us gz a 0, [])) := hid (by rw [← HE0.out]; exact bind_err HMY.out HMZ.out rfl HF.out)
                    clear hf
                    go_wp2_with fail
                    refine wp_region_ext [(8, is (.tuple #[.slice none 0 0, .iface 39 (.int .i64 (filledF ts us gz a 0))]))] ⟨is_stays _, trivial⟩ (by kernel_rfl) (by kernel_rfl) ?_
                    refine wpG_calc 1 rfl rfl rfl (fun u => by go_simp; rfl) ?_
                    simp only [Act.put, List.setIfInBounds_toArray, List.set_cons_zero, List.set_cons_succ]
                    refine wpG_calc 2 rfl rfl rfl (fun u => by go_simp; rfl) ?_
                    simp only [Act.put, List.setIfInBounds_toArray, List.set_cons_zero, List.set_cons_succ]
                    refine wpG_read 3 rfl rfl (.string (bs (typeN y).2)) rfl ?_ ?_
                    · intro u hu hh
                      have hk := HC0.out u hu
                      go_simp
                    simp only [Act.put, List.setIfInBounds_toArray, List.set_cons_zero, List.set_cons_succ]
                    refine wpG_calc 4 rfl rfl rfl (fun u => by go_simp; rfl) ?_
                    simp only [Act.put, List.setIfInBounds_toArray, List.set_cons_zero, List.set_cons_succ]
                    refine wpG_calc 5 rfl rfl rfl (fun u => by go_simp; rfl) ?_
                    simp only [Act.put, List.setIfInBounds_toArray, List.set_cons_zero, List.set_cons_succ]
                    refine wpG_read 6 rfl rfl (.string (bs (typeN z).2)) rfl ?_ ?_
                    · intro u hu hh
                      have hk := HC1.out u hu
                      go_simp
                    simp only [Act.put, List.setIfInBounds_toArray, List.set_cons_zero, List.set_cons_succ]
                    refine wpG_calc 7 rfl rfl rfl (fun u => by go_simp; rfl) ?_
                    simp only [Act.put, List.setIfInBounds_toArray, List.set_cons_zero, List.set_cons_succ]
                    refine wpG_read 8 rfl rfl (.int .i64 a) rfl ?_ ?_
                    · intro u hu hh
                      have hk := HK2'.out u hu
                      go_simp
                    simp only [Act.put, List.setIfInBounds_toArray, List.set_cons_zero, List.set_cons_succ]
                    refine wpG_rel 9 rfl rfl rfl ?_ ?_
                    · intro u hu hh
                      go_simp
                      refine (HFL.out 0 u).mono ?_
                      intro e w6 h6
                      unfold FillBy at h6
                      rw [if_neg HF.out] at h6
                      obtain ⟨rfl, hb6⟩ := h6
                      exact ⟨_, rfl, rfl, hb6⟩
                    intro vF ⟨uF, _, hrF⟩
                    obtain rfl : vF = .tuple #[.slice none 0 0, .iface 39 (.int .i64 (filledF ts us gz a 0))] := hrF
                    simp only [Act.put, List.setIfInBounds_toArray, List.set_cons_zero, List.set_cons_succ]
                    refine wpG_calc 10 rfl rfl rfl (fun u => by go_simp; rfl) ?_
                    simp only [Act.put, List.setIfInBounds_toArray, List.set_cons_zero, List.set_cons_succ]
                    refine wpG_calc 11 rfl rfl rfl (fun u => by go_simp; rfl) ?_
                    simp only [Act.put, List.setIfInBounds_toArray, List.set_cons_zero, List.set_cons_succ]
                    refine wpG_calc 12 rfl rfl rfl (fun u => by go_simp; rfl) ?_
                    simp only [Act.put, List.setIfInBounds_toArray, List.set_cons_zero, List.set_cons_succ]
                    refine wpG_calc 13 rfl rfl rfl (fun u => by go_simp; rfl) ?_
                    simp only [Act.put, List.setIfInBounds_toArray, List.set_cons_zero, List.set_cons_succ]
                    refine wpG_calc 14 rfl rfl rfl (fun u => by go_simp; rfl) ?_
                    simp only [Act.put, List.setIfInBounds_toArray, List.set_cons_zero, List.set_cons_succ]
                    refine wpG_nil fun w7 hb7 hF => ?_
                    clear hF
                    have HB7 := hid (HBR.out.trans (hb7.mono HBR.out.size))
                    clear hb7
                    go_wp2_with fail
                    go_ret2
                    exact told_err HE.out HF.out HB7.out
                  case pos =>
                    have HF := hid hf
                    have HE : Hid (dropOf (typeN y).2 a = R) := hid (by rw [← HE0.out]; exact (bind_drop HMY.out HMZ.out HF.out).symm)
                    have HP : Hid (∀ u, Calls Tryd.prog 35 #[.string (bs (typeN y).2), .int .i64 a] u (Go.Proofs.YtikkhjcocmihlaaDoor.mtypes.Told u R)) := hid (fun u => by
                      have h := drop_any (bs (typeN y).2) a u HSY.out
                      rwa [bs_data, HE.out] at h)
                    clear hf
                    go_wp2_with fail
                    refine wp_region_ext [(8, rowOf us)] ⟨rowOf_stays us, trivial⟩ (by kernel_rfl) (by kernel_rfl) ?_
                    refine wpG_calc 1 rfl rfl rfl (fun u => by go_simp; rfl) ?_
                    simp only [Act.put, List.setIfInBounds_toArray, List.set_cons_zero, List.set_cons_succ]
                    refine wpG_calc 2 rfl rfl rfl (fun u => by go_simp; rfl) ?_
                    simp only [Act.put, List.setIfInBounds_toArray, List.set_cons_zero, List.set_cons_succ]
                    refine wpG_read 3 rfl rfl (.string (bs (typeN y).2)) rfl ?_ ?_
                    · intro u hu hh
                      have hk := HC0.out u hu
                      go_simp
                    simp only [Act.put, List.setIfInBounds_toArray, List.set_cons_zero, List.set_cons_succ]
                    refine wpG_calc 4 rfl rfl rfl (fun u => by go_simp; rfl) ?_
                    simp only [Act.put, List.setIfInBounds_toArray, List.set_cons_zero, List.set_cons_succ]
                    refine wpG_calc 5 rfl rfl rfl (fun u => by go_simp; rfl) ?_
                    simp only [Act.put, List.setIfInBounds_toArray, List.set_cons_zero, List.set_cons_succ]
                    refine wpG_read 6 rfl rfl (.string (bs (typeN z).2)) rfl ?_ ?_
                    · intro u hu hh
                      have hk := HC1.out u hu
                      go_simp
                    simp only [Act.put, List.setIfInBounds_toArray, List.set_cons_zero, List.set_cons_succ]
                    refine wpG_calc 7 rfl rfl rfl (fun u => by go_simp; rfl) ?_
                    simp only [Act.put, List.setIfInBounds_toArray, List.set_cons_zero, List.set_cons_succ]
                    refine wpG_read 8 rfl rfl (.int .i64 a) rfl ?_ ?_
                    · intro u hu hh
                      have hk := HK2'.out u hu
                      go_simp
                    simp only [Act.put, List.setIfInBounds_toArray, List.set_cons_zero, List.set_cons_succ]
                    refine wpG_rel 9 rfl rfl rfl ?_ ?_
                    · intro u hu hh
                      go_simp
                      refine (HFL.out 0 u).mono ?_
                      intro e w6 h6
                      unfold FillBy at h6
                      rw [if_pos HF.out] at h6
                      obtain ⟨s6, rfl, ho6⟩ := h6
                      exact ⟨_, rfl, ⟨s6, rfl, ho6.sl⟩, ho6.below⟩
                    intro vF ⟨uF, _, hrF⟩
                    obtain ⟨s8, rfl, _⟩ := hrF
                    simp only [Act.put, List.setIfInBounds_toArray, List.set_cons_zero, List.set_cons_succ]
                    refine wpG_calc 10 rfl rfl rfl (fun u => by go_simp; rfl) ?_
                    simp only [Act.put, List.setIfInBounds_toArray, List.set_cons_zero, List.set_cons_succ]
                    refine wpG_calc 11 rfl rfl rfl (fun u => by go_simp; rfl) ?_
                    simp only [Act.put, List.setIfInBounds_toArray, List.set_cons_zero, List.set_cons_succ]
                    refine wpG_calc 12 rfl rfl rfl (fun u => by go_simp; rfl) ?_
                    simp only [Act.put, List.setIfInBounds_toArray, List.set_cons_zero, List.set_cons_succ]
                    refine wpG_calc 13 rfl rfl rfl (fun u => by go_simp; rfl) ?_
                    simp only [Act.put, List.setIfInBounds_toArray, List.set_cons_zero, List.set_cons_succ]
                    refine wpG_calc 14 rfl rfl rfl (fun u => by go_simp; rfl) ?_
                    simp only [Act.put, List.setIfInBounds_toArray, List.set_cons_zero, List.set_cons_succ]
                    refine wpG_nil fun w7 hb7 hF => ?_
                    clear hF
                    have HBR7 := hid (HBR.out.trans (hb7.mono HBR.out.size))
                    have HW7 := hid hb7
                    clear hb7
                    have HBR := HBR7
                    go_wp2_with fail
                    refine wp_region_ext [(5, is (.tuple #[.string (bs R.2), errVal R.1]))] ⟨is_stays _, trivial⟩ (by kernel_rfl) (by kernel_rfl) ?_
                    refine wpG_calc 1 rfl rfl rfl (fun u => by go_simp; rfl) ?_
                    simp only [Act.put, List.setIfInBounds_toArray, List.set_cons_zero, List.set_cons_succ]
                    refine wpG_calc 2 rfl rfl rfl (fun u => by go_simp; rfl) ?_
                    simp only [Act.put, List.setIfInBounds_toArray, List.set_cons_zero, List.set_cons_succ]
                    refine wpG_read 3 rfl rfl (.string (bs (typeN y).2)) rfl ?_ ?_
                    · intro u hu hh
                      have hk := HC0.out u (HW7.out.trans (hu.mono HW7.out.size))
                      go_simp
                    simp only [Act.put, List.setIfInBounds_toArray, List.set_cons_zero, List.set_cons_succ]
                    refine wpG_calc 4 rfl rfl rfl (fun u => by go_simp; rfl) ?_
                    simp only [Act.put, List.setIfInBounds_toArray, List.set_cons_zero, List.set_cons_succ]
                    refine wpG_read 5 rfl rfl (.int .i64 a) rfl ?_ ?_
                    · intro u hu hh
                      have hk := HK2'.out u (HW7.out.trans (hu.mono HW7.out.size))
                      go_simp
                    simp only [Act.put, List.setIfInBounds_toArray, List.set_cons_zero, List.set_cons_succ]
                    refine wpG_rel 6 rfl rfl rfl ?_ ?_
                    · intro u hu hh
                      go_simp
                      refine (HP.out u).mono ?_
                      rintro e w6 ⟨rfl, hb6⟩
                      exact ⟨_, rfl, rfl, hb6⟩
                    intro vP ⟨uP, _, hrP⟩
                    obtain rfl : vP = .tuple #[.string (bs R.2), errVal R.1] := hrP
                    simp only [Act.put, List.setIfInBounds_toArray, List.set_cons_zero, List.set_cons_succ]
                    refine wpG_calc 7 rfl rfl rfl (fun u => by go_simp; rfl) ?_
                    simp only [Act.put, List.setIfInBounds_toArray, List.set_cons_zero, List.set_cons_succ]
                    refine wpG_calc 8 rfl rfl rfl (fun u => by go_simp; rfl) ?_
                    simp only [Act.put, List.setIfInBounds_toArray, List.set_cons_zero, List.set_cons_succ]
                    refine wpG_calc 9 rfl rfl rfl (fun u => by go_simp; rfl) ?_
                    simp only [Act.put, List.setIfInBounds_toArray, List.set_cons_zero, List.set_cons_succ]
                    refine wpG_calc 10 rfl rfl rfl (fun u => by go_simp; rfl) ?_
                    simp only [Act.put, List.setIfInBounds_toArray, List.set_cons_zero, List.set_cons_succ]
                    refine wpG_nil fun w8 hb8 hF => ?_
                    clear hF
                    have HB8 := hid (HBR7.out.trans (hb8.mono HBR7.out.size))
                    clear hb8
                    go_wp2_with fail
                    go_ret2
                    exact ⟨rfl, HB8.out⟩
                · by_cases hf : filledF ts us gz a 1 = 0
                  case neg =>
                    have HF := hid hf
                    have HE : Hid (R = (filledF ts us gz a 1, [])) := hid (by rw [← HE0.out]; exact bind_err HMY.out HMZ.out rfl HF.out)
                    clear hf
                    go_wp2_with fail
                    refine wp_region_ext [(8, is (.tuple #[.slice none 0 0, .iface 39 (.int .i64 (filledF ts us gz a 1))]))] ⟨is_stays _, trivial⟩ (by kernel_rfl) (by kernel_rfl) ?_
                    refine wpG_calc 1 rfl rfl rfl (fun u => by go_simp; rfl) ?_
                    simp only [Act.put, List.setIfInBounds_toArray, List.set_cons_zero, List.set_cons_succ]
                    refine wpG_calc 2 rfl rfl rfl (fun u => by go_simp; rfl) ?_
                    simp only [Act.put, List.setIfInBounds_toArray, List.set_cons_zero, List.set_cons_succ]
                    refine wpG_read 3 rfl rfl (.string (bs (typeN y).2)) rfl ?_ ?_
                    · intro u hu hh
                      have hk := HC0.out u hu
                      go_simp
                    simp only [Act.put, List.setIfInBounds_toArray, List.set_cons_zero, List.set_cons_succ]
                    refine wpG_calc 4 rfl rfl rfl (fun u => by go_simp; rfl) ?_
                    simp only [Act.put, List.setIfInBounds_toArray, List.set_cons_zero, List.set_cons_succ]
                    refine wpG_calc 5 rfl rfl rfl (fun u => by go_simp; rfl) ?_
                    simp only [Act.put, List.setIfInBounds_toArray, List.set_cons_zero, List.set_cons_succ]
                    refine wpG_read 6 rfl rfl (.string (bs (typeN z).2)) rfl ?_ ?_
                    · intro u hu hh
                      have hk := HC1.out u hu
                      go_simp
                    simp only [Act.put, List.setIfInBounds_toArray, List.set_cons_zero, List.set_cons_succ]
                    refine wpG_calc 7 rfl rfl rfl (fun u => by go_simp; rfl) ?_
                    simp only [Act.put, List.setIfInBounds_toArray, List.set_cons_zero, List.set_cons_succ]
                    refine wpG_read 8 rfl rfl (.int .i64 a) rfl ?_ ?_
                    · intro u hu hh
                      have hk := HK2'.out u hu
                      go_simp
                    simp only [Act.put, List.setIfInBounds_toArray, List.set_cons_zero, List.set_cons_succ]
                    refine wpG_rel 9 rfl rfl rfl ?_ ?_
                    · intro u hu hh
                      go_simp
                      refine (HFL.out 1 u).mono ?_
                      intro e w6 h6
                      unfold FillBy at h6
                      rw [if_neg HF.out] at h6
                      obtain ⟨rfl, hb6⟩ := h6
                      exact ⟨_, rfl, rfl, hb6⟩
                    intro vF ⟨uF, _, hrF⟩
                    obtain rfl : vF = .tuple #[.slice none 0 0, .iface 39 (.int .i64 (filledF ts us gz a 1))] := hrF
                    simp only [Act.put, List.setIfInBounds_toArray, List.set_cons_zero, List.set_cons_succ]
                    refine wpG_calc 10 rfl rfl rfl (fun u => by go_simp; rfl) ?_
                    simp only [Act.put, List.setIfInBounds_toArray, List.set_cons_zero, List.set_cons_succ]
                    refine wpG_calc 11 rfl rfl rfl (fun u => by go_simp; rfl) ?_
                    simp only [Act.put, List.setIfInBounds_toArray, List.set_cons_zero, List.set_cons_succ]
                    refine wpG_calc 12 rfl rfl rfl (fun u => by go_simp; rfl) ?_
                    simp only [Act.put, List.setIfInBounds_toArray, List.set_cons_zero, List.set_cons_succ]
                    refine wpG_calc 13 rfl rfl rfl (fun u => by go_simp; rfl) ?_
                    simp only [Act.put, List.setIfInBounds_toArray, List.set_cons_zero, List.set_cons_succ]
                    refine wpG_calc 14 rfl rfl rfl (fun u => by go_simp; rfl) ?_
                    simp only [Act.put, List.setIfInBounds_toArray, List.set_cons_zero, List.set_cons_succ]
                    refine wpG_nil fun w7 hb7 hF => ?_
                    clear hF
                    have HB7 := hid (HBR.out.trans (hb7.mono HBR.out.size))
                    clear hb7
                    go_wp2_with fail
                    go_ret2
                    exact told_err HE.out HF.out HB7.out
                  case pos =>
                    have HF := hid hf
                    obtain ⟨u1, rfl⟩ := filled_one hf
                    have HE : Hid (changeOf (typeN y).2 a u1 = R) := hid (by rw [← HE0.out]; exact (bind_change HMY.out HMZ.out HF.out).symm)
                    have HU1 : Hid ((bs u1).size ≤ 9223372036854775807) := hid ((types_small HMZ.out).2.2 _ (by simp))
                    have HP : Hid (∀ u, Calls Tryd.prog 36 #[.string (bs (typeN y).2), .int .i64 a, .string (bs u1)] u (Go.Proofs.YtikkhjcocmihlaaDoor.mtypes.Told u R)) := hid (fun u => by
                      have h := change_any (bs (typeN y).2) a (bs u1) u HSY.out HU1.out
                      rwa [bs_data, bs_data, HE.out] at h)
                    clear hf
                    go_wp2_with fail
                    refine wp_region_ext [(8, rowOf [u1])] ⟨rowOf_stays [u1], trivial⟩ (by kernel_rfl) (by kernel_rfl) ?_
                    refine wpG_calc 1 rfl rfl rfl (fun u => by go_simp; rfl) ?_
                    simp only [Act.put, List.setIfInBounds_toArray, List.set_cons_zero, List.set_cons_succ]
                    refine wpG_calc 2 rfl rfl rfl (fun u => by go_simp; rfl) ?_
                    simp only [Act.put, List.setIfInBounds_toArray, List.set_cons_zero, List.set_cons_succ]
                    refine wpG_read 3 rfl rfl (.string (bs (typeN y).2)) rfl ?_ ?_
                    · intro u hu hh
                      have hk := HC0.out u hu
                      go_simp
                    simp only [Act.put, List.setIfInBounds_toArray, List.set_cons_zero, List.set_cons_succ]
                    refine wpG_calc 4 rfl rfl rfl (fun u => by go_simp; rfl) ?_
                    simp only [Act.put, List.setIfInBounds_toArray, List.set_cons_zero, List.set_cons_succ]
                    refine wpG_calc 5 rfl rfl rfl (fun u => by go_simp; rfl) ?_
                    simp only [Act.put, List.setIfInBounds_toArray, List.set_cons_zero, List.set_cons_succ]
                    refine wpG_read 6 rfl rfl (.string (bs (typeN z).2)) rfl ?_ ?_
                    · intro u hu hh
                      have hk := HC1.out u hu
                      go_simp
                    simp only [Act.put, List.setIfInBounds_toArray, List.set_cons_zero, List.set_cons_succ]
                    refine wpG_calc 7 rfl rfl rfl (fun u => by go_simp; rfl) ?_
                    simp only [Act.put, List.setIfInBounds_toArray, List.set_cons_zero, List.set_cons_succ]
                    refine wpG_read 8 rfl rfl (.int .i64 a) rfl ?_ ?_
                    · intro u hu hh
                      have hk := HK2'.out u hu
                      go_simp
                    simp only [Act.put, List.setIfInBounds_toArray, List.set_cons_zero, List.set_cons_succ]
                    refine wpG_rel 9 rfl rfl rfl ?_ ?_
                    · intro u hu hh
                      go_simp
                      refine (HFL.out 1 u).mono ?_
                      intro e w6 h6
                      unfold FillBy at h6
                      rw [if_pos HF.out] at h6
                      obtain ⟨s6, rfl, ho6⟩ := h6
                      exact ⟨_, rfl, ⟨s6, rfl, ho6.sl⟩, ho6.below⟩
                    intro vF ⟨uF, _, hrF⟩
                    obtain ⟨s8, rfl, _⟩ := hrF
                    simp only [Act.put, List.setIfInBounds_toArray, List.set_cons_zero, List.set_cons_succ]
                    refine wpG_calc 10 rfl rfl rfl (fun u => by go_simp; rfl) ?_
                    simp only [Act.put, List.setIfInBounds_toArray, List.set_cons_zero, List.set_cons_succ]
                    refine wpG_calc 11 rfl rfl rfl (fun u => by go_simp; rfl) ?_
                    simp only [Act.put, List.setIfInBounds_toArray, List.set_cons_zero, List.set_cons_succ]
                    refine wpG_calc 12 rfl rfl rfl (fun u => by go_simp; rfl) ?_
                    simp only [Act.put, List.setIfInBounds_toArray, List.set_cons_zero, List.set_cons_succ]
                    refine wpG_calc 13 rfl rfl rfl (fun u => by go_simp; rfl) ?_
                    simp only [Act.put, List.setIfInBounds_toArray, List.set_cons_zero, List.set_cons_succ]
                    refine wpG_calc 14 rfl rfl rfl (fun u => by go_simp; rfl) ?_
                    simp only [Act.put, List.setIfInBounds_toArray, List.set_cons_zero, List.set_cons_succ]
                    refine wpG_nil fun w7 hb7 hF => ?_
                    have h8 : rowOf [u1] (.tuple #[s8, .nilIface]) w7 := hF 8
                    obtain ⟨s9, hs9, hsl9⟩ := h8
                    cases hs9
                    clear hF
                    have HBR7 := hid (HBR.out.trans (hb7.mono HBR.out.size))
                    have HW7 := hid hb7
                    clear hb7
                    have HS8 := hid hsl9
                    obtain ⟨a8, c8, he8⟩ := hsl9.val
                    subst he8
                    obtain ⟨b8, o8, hab8, z8, hz8, hc8⟩ := Sl.at1 HS8.out (k := 0) (by simp)
                    subst hab8
                    obtain rfl : z8 = .string (bs u1) := by simpa [sv] using hz8.symm
                    have HC8 : Hid (∀ u, Below w7.heap.size w7 u → u.cell? ⟨b8, o8, none⟩ = some (.string (bs u1))) := hid (fun u hu => (hu.cell (World.block_lt_of_cell? _ _ hc8)).trans hc8)
                    clear hsl9 hz8 hc8
                    go_wp2_with fail
                    refine wp_region_ext [(8, is (.tuple #[.string (bs R.2), errVal R.1]))] ⟨is_stays _, trivial⟩ (by kernel_rfl) (by kernel_rfl) ?_
                    refine wpG_calc 1 rfl rfl rfl (fun u => by go_simp; rfl) ?_
                    simp only [Act.put, List.setIfInBounds_toArray, List.set_cons_zero, List.set_cons_succ]
                    refine wpG_calc 2 rfl rfl rfl (fun u => by go_simp; rfl) ?_
                    simp only [Act.put, List.setIfInBounds_toArray, List.set_cons_zero, List.set_cons_succ]
                    refine wpG_read 3 rfl rfl (.string (bs (typeN y).2)) rfl ?_ ?_
                    · intro u hu hh
                      have hk := HC0.out u (HW7.out.trans (hu.mono HW7.out.size))
                      go_simp
                    simp only [Act.put, List.setIfInBounds_toArray, List.set_cons_zero, List.set_cons_succ]
                    refine wpG_calc 4 rfl rfl rfl (fun u => by go_simp; rfl) ?_
                    simp only [Act.put, List.setIfInBounds_toArray, List.set_cons_zero, List.set_cons_succ]
                    refine wpG_read 5 rfl rfl (.int .i64 a) rfl ?_ ?_
                    · intro u hu hh
                      have hk := HK2'.out u (HW7.out.trans (hu.mono HW7.out.size))
                      go_simp
                    simp only [Act.put, List.setIfInBounds_toArray, List.set_cons_zero, List.set_cons_succ]
                    refine wpG_calc 6 rfl rfl rfl (fun u => by go_simp; rfl) ?_
                    simp only [Act.put, List.setIfInBounds_toArray, List.set_cons_zero, List.set_cons_succ]
                    refine wpG_calc 7 rfl rfl rfl (fun u => by go_simp; rfl) ?_
                    simp only [Act.put, List.setIfInBounds_toArray, List.set_cons_zero, List.set_cons_succ]
                    refine wpG_read 8 rfl rfl (.string (bs u1)) rfl ?_ ?_
                    · intro u hu hh
                      have hk := HC8.out u hu
                      go_simp
                    simp only [Act.put, List.setIfInBounds_toArray, List.set_cons_zero, List.set_cons_succ]
                    refine wpG_rel 9 rfl rfl rfl ?_ ?_
                    · intro u hu hh
                      go_simp
                      refine (HP.out u).mono ?_
                      rintro e w6 ⟨rfl, hb6⟩
                      exact ⟨_, rfl, rfl, hb6⟩
                    intro vP ⟨uP, _, hrP⟩
                    obtain rfl : vP = .tuple #[.string (bs R.2), errVal R.1] := hrP
                    simp only [Act.put, List.setIfInBounds_toArray, List.set_cons_zero, List.set_cons_succ]
                    refine wpG_calc 10 rfl rfl rfl (fun u => by go_simp; rfl) ?_
                    simp only [Act.put, List.setIfInBounds_toArray, List.set_cons_zero, List.set_cons_succ]
                    refine wpG_calc 11 rfl rfl rfl (fun u => by go_simp; rfl) ?_
                    simp only [Act.put, List.setIfInBounds_toArray, List.set_cons_zero, List.set_cons_succ]
                    refine wpG_calc 12 rfl rfl rfl (fun u => by go_simp; rfl) ?_
                    simp only [Act.put, List.setIfInBounds_toArray, List.set_cons_zero, List.set_cons_succ]
                    refine wpG_calc 13 rfl rfl rfl (fun u => by go_simp; rfl) ?_
                    simp only [Act.put, List.setIfInBounds_toArray, List.set_cons_zero, List.set_cons_succ]
                    refine wpG_nil fun w8 hb8 hF => ?_
                    clear hF
                    have HB8 := hid (HBR7.out.trans (hb8.mono HBR7.out.size))
                    clear hb8
                    go_wp2_with fail
                    go_ret2
                    exact ⟨rfl, HB8.out⟩
end Go.Proofs.YtikkhjcocmihlaaDoor.hands
