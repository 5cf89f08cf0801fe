/- Locks: the walk of the law LockTells. Condition: the lists are not long. -/
import Derived.Test.YtmfhmikihnjkcaaLock20
import Derived.Test.YtmfhmikihnjkcaaOne
namespace Go.Proofs.Ytmfhmikihnjkcaa.locks
open Go.RowKit Go.Proofs.Ytmfhmikihnjkcaa.lib Go.Proofs.Ytmfhmikihnjkcaa.maps Go.Proofs.Ytmfhmikihnjkcaa.errs Go.Proofs.Ytmfhmikihnjkcaa.ints Go.Proofs.Ytmfhmikihnjkcaa.grow

def slw (l : List Int) : Value → World → Prop := fun v u => Sl u v l.length 1 (iv l)
theorem slw_stays (l : List Int) : ∀ v w w', Below w.heap.size w w' → slw l v w → slw l v w' := fun _ _ _ hb h => h.below hb
def tru : Value → World → Prop := fun v _ => v = .bool true
theorem tru_stays : ∀ v w w', Below w.heap.size w w' → tru v w → tru v w' := fun _ _ _ _ h => h
theorem TW.drewT {w0 w : World} {p q : Nat} {A B : St} {c : Nat} (h : TW w0 w p q A B c) : TW w0 w.drew p q A B c := h.below ((Below.refl _ _).drew)

set_option maxRecDepth 100000 in
set_option maxHeartbeats 4000000 in
theorem locktells_any (va vb vl : Value) (xs ks : List Int) (ls : List Bool) (w : World) (ha : Sl w va xs.length 1 (iv xs)) (hb : Sl w vb ks.length 1 (iv ks)) (hl : Sl w vl ls.length 1 (ls.map .bool)) :
    Calls Try.prog 5 #[va, vb, vl] w fun e w' => e = .returned (.bool true) ∧ Below w.heap.size w w' := by
  obtain ⟨a1, c1, rfl⟩ := ha.val
  obtain ⟨a2, c2, rfl⟩ := hb.val
  obtain ⟨a3, c3, rfl⟩ := hl.val
  have HA := hid ha
  have HB := hid hb
  have HL := hid hl
  clear ha hb hl
  go_enter Try.func5, Try.ntmps5
  go_wp2_with fail
  refine (locked_any w).mono ?_
  rintro e w1 ⟨rfl, hb1⟩
  have HB1 := hid hb1
  clear hb1
  go_wp2_with fail
  refine (new_us w _ HB1.out).mono ?_
  rintro e w2 ⟨p, rfl, h2⟩
  have H2 := hid h2
  clear h2
  go_wp2_with fail
  refine (rnew_any w2).mono ?_
  rintro e w3 ⟨q, gw, gt, rfl, h3, hb3⟩
  have HT0 := hid (TW.start H2.out hb3 h3)
  clear h3 hb3
  go_wp2_with fail
  go_loopw [10] (fun i wr => ∃ j : Nat, j ≤ 60 ∧ i = .int .i64 j ∧ Hid (∃ A, TW w wr p q A A (2 * j))) (fun i _ => 60 - (intOf i).toNat)
  case atStart => exact ⟨0, by omega, rfl, hid ⟨_, HT0.out⟩⟩
  case round =>
    obtain ⟨j, hj, rfl, HR⟩ := hrel
    clear HT0
    obtain ⟨A, hT⟩ := HR.out
    have HT := hid hT
    clear hT HR
    by_cases h1 : j < xs.length
    · have h1i : (j : Int) < (xs.length : Int) := by omega
      by_cases h2 : j < ks.length
      · have h2i : (j : Int) < (ks.length : Int) := by omega
        by_cases h3 : j < 60
        · have h3i : (j : Int) < 60 := by omega
          have hj0 : (0 : Int) ≤ (j : Int) := by omega
          obtain ⟨b1, o1, he1, hc1⟩ := Sl.ints (HA.out.below HT.out.out) h1
          obtain ⟨b2, o2, he2, hc2⟩ := Sl.ints (HB.out.below HT.out.out) h2
          subst he1
          subst he2
          have HX1 := hid (fun (w' : World) (h : Below w.heap.size w w') => Sl.ints (HA.out.below h) h1)
          have HX2 := hid (fun (w' : World) (h : Below w.heap.size w w') => Sl.ints (HB.out.below h) h2)
          generalize xs[j] = X at hc1 HX1
          generalize ks[j] = K at hc2 HX2
          have hread : Hid (∀ w' : World, Below w.heap.size w w' → w'.cell? ⟨b1, o1 + j, none⟩ = some (.int .i64 X) ∧ w'.cell? ⟨b2, o2 + j, none⟩ = some (.int .i64 K)) := hid (fun w' h => by
            obtain ⟨b, o, he, hc⟩ := HX1.out w' h
            obtain ⟨b', o', he', hc'⟩ := HX2.out w' h
            cases he
            cases he'
            exact ⟨hc, hc'⟩)
          by_cases h4 : j < ls.length ∧ ls[j]? = some true
          · obtain ⟨b3, o3, he3, u3, hu3, hc3⟩ := (HL.out.below HT.out.out).at1 h4.1
            subst he3
            have : u3 = .bool true := by
              rw [List.getElem?_map, h4.2] at hu3
              exact (Option.some.inj hu3).symm
            subst this
            have h4i : (j : Int) < (ls.length : Int) := by omega
            clear h1 h2 h4 hu3 HX1 HX2
            go_wp2_with fail
            refine wp_region_one rfl ?_
            change wpAnyU _ .any _ _ 11 (Array.replicate 11 false) _ (World.drew _)
            refine u_calc 0 _ _ rfl (by kernel_rfl) (by kernel_rfl) (by kernel_rfl) (by rfl) (fun u => by go_simp; rfl) ?_
            simp only [List.getElem_toArray, List.getElem_cons_zero, Act.put, List.setIfInBounds_toArray, List.set_cons_zero, List.set_cons_succ]
            refine u_calc 1 _ _ rfl (by kernel_rfl) (by kernel_rfl) (by kernel_rfl) (by rfl) (fun u => by go_simp; rfl) ?_
            simp only [List.getElem_toArray, List.getElem_cons_zero, List.getElem_cons_succ, Act.put, List.setIfInBounds_toArray, List.set_cons_zero, List.set_cons_succ]
            refine u_calc 2 _ _ rfl (by kernel_rfl) (by kernel_rfl) (by kernel_rfl) (by rfl) (fun u => by go_simp; rfl) ?_
            simp only [List.getElem_toArray, List.getElem_cons_zero, List.getElem_cons_succ, Act.put, List.setIfInBounds_toArray, List.set_cons_zero, List.set_cons_succ]
            refine u_calc 3 _ _ rfl (by kernel_rfl) (by kernel_rfl) (by kernel_rfl) (by rfl) (fun u => by go_simp; rfl) ?_
            simp only [List.getElem_toArray, List.getElem_cons_zero, List.getElem_cons_succ, Act.put, List.setIfInBounds_toArray, List.set_cons_zero, List.set_cons_succ]
            refine u_calc 5 _ _ rfl (by kernel_rfl) (by kernel_rfl) (by kernel_rfl) (by rfl) (fun u => by go_simp; rfl) ?_
            simp only [List.getElem_toArray, List.getElem_cons_zero, List.getElem_cons_succ, Act.put, List.setIfInBounds_toArray, List.set_cons_zero, List.set_cons_succ]
            refine u_calc 6 _ _ rfl (by kernel_rfl) (by kernel_rfl) (by kernel_rfl) (by rfl) (fun u => by go_simp; rfl) ?_
            simp only [List.getElem_toArray, List.getElem_cons_zero, List.getElem_cons_succ, Act.put, List.setIfInBounds_toArray, List.set_cons_zero, List.set_cons_succ]
            refine u_calc 7 _ _ rfl (by kernel_rfl) (by kernel_rfl) (by kernel_rfl) (by rfl) (fun u => by go_simp; rfl) ?_
            simp only [List.getElem_toArray, List.getElem_cons_zero, List.getElem_cons_succ, Act.put, List.setIfInBounds_toArray, List.set_cons_zero, List.set_cons_succ]
            refine u_two 4 8 _ _ _ _ rfl rfl (by decide) (by kernel_rfl) (by kernel_rfl) (by kernel_rfl) (by kernel_rfl) (by kernel_rfl) (by rfl) (by rfl) (by go_simp; rfl) (by go_simp; rfl) ?_
            simp only [List.getElem_toArray, List.getElem_cons_zero, List.getElem_cons_succ, Act.put, List.setIfInBounds_toArray, List.set_cons_zero, List.set_cons_succ]
            refine u_only 9 _ rfl (by kernel_rfl) (by rfl) ?_
            go_simp
            refine (mleave_tw HT.out.drewT (by omega) X K).mono ?_
            rintro e w3 ⟨rfl, h3⟩
            refine ⟨_, rfl, ?_⟩
            have H3 := hid h3
            clear h3
            refine u_calc 10 _ _ rfl (by kernel_rfl) (by kernel_rfl) (by kernel_rfl) (by rfl) (fun u => by go_simp; rfl) ?_
            simp only [List.getElem_toArray, List.getElem_cons_zero, List.getElem_cons_succ, Act.put, List.setIfInBounds_toArray, List.set_cons_zero, List.set_cons_succ]
            refine u_end (by kernel_rfl) ?_
            go_wp2_with fail
            obtain ⟨hc1', hc2'⟩ := hread.out w3 H3.out.out
            refine wp_region_one rfl ?_
            change wpAnyU _ .any _ _ 13 (Array.replicate 13 false) _ (World.drew _)
            refine u_calc 0 _ _ rfl (by kernel_rfl) (by kernel_rfl) (by kernel_rfl) (by rfl) (fun u => by go_simp; rfl) ?_
            simp only [List.getElem_toArray, List.getElem_cons_zero, Act.put, List.setIfInBounds_toArray, List.set_cons_zero, List.set_cons_succ]
            refine u_calc 1 _ _ rfl (by kernel_rfl) (by kernel_rfl) (by kernel_rfl) (by rfl) (fun u => by go_simp; rfl) ?_
            simp only [List.getElem_toArray, List.getElem_cons_zero, List.getElem_cons_succ, Act.put, List.setIfInBounds_toArray, List.set_cons_zero, List.set_cons_succ]
            refine u_calc 2 _ _ rfl (by kernel_rfl) (by kernel_rfl) (by kernel_rfl) (by rfl) (fun u => by go_simp; rfl) ?_
            simp only [List.getElem_toArray, List.getElem_cons_zero, List.getElem_cons_succ, Act.put, List.setIfInBounds_toArray, List.set_cons_zero, List.set_cons_succ]
            refine u_calc 3 _ _ rfl (by kernel_rfl) (by kernel_rfl) (by kernel_rfl) (by rfl) (fun u => by go_simp; rfl) ?_
            simp only [List.getElem_toArray, List.getElem_cons_zero, List.getElem_cons_succ, Act.put, List.setIfInBounds_toArray, List.set_cons_zero, List.set_cons_succ]
            refine u_calc 5 _ _ rfl (by kernel_rfl) (by kernel_rfl) (by kernel_rfl) (by rfl) (fun u => by go_simp; rfl) ?_
            simp only [List.getElem_toArray, List.getElem_cons_zero, List.getElem_cons_succ, Act.put, List.setIfInBounds_toArray, List.set_cons_zero, List.set_cons_succ]
            refine u_calc 6 _ _ rfl (by kernel_rfl) (by kernel_rfl) (by kernel_rfl) (by rfl) (fun u => by go_simp; rfl) ?_
            simp only [List.getElem_toArray, List.getElem_cons_zero, List.getElem_cons_succ, Act.put, List.setIfInBounds_toArray, List.set_cons_zero, List.set_cons_succ]
            refine u_calc 7 _ _ rfl (by kernel_rfl) (by kernel_rfl) (by kernel_rfl) (by rfl) (fun u => by go_simp; rfl) ?_
            simp only [List.getElem_toArray, List.getElem_cons_zero, List.getElem_cons_succ, Act.put, List.setIfInBounds_toArray, List.set_cons_zero, List.set_cons_succ]
            refine u_calc 10 _ _ rfl (by kernel_rfl) (by kernel_rfl) (by kernel_rfl) (by rfl) (fun u => by go_simp; rfl) ?_
            simp only [List.getElem_toArray, List.getElem_cons_zero, List.getElem_cons_succ, Act.put, List.setIfInBounds_toArray, List.set_cons_zero, List.set_cons_succ]
            refine u_two 4 8 _ _ _ _ rfl rfl (by decide) (by kernel_rfl) (by kernel_rfl) (by kernel_rfl) (by kernel_rfl) (by kernel_rfl) (by rfl) (by rfl) (by go_simp; rfl) (by go_simp; rfl) ?_
            simp only [List.getElem_toArray, List.getElem_cons_zero, List.getElem_cons_succ, Act.put, List.setIfInBounds_toArray, List.set_cons_zero, List.set_cons_succ]
            refine u_only 9 _ rfl (by kernel_rfl) (by rfl) ?_
            go_simp
            refine (lleave_tw H3.out.drewT (by omega) X K).mono ?_
            rintro e w4 ⟨rfl, h4⟩
            refine ⟨_, rfl, ?_⟩
            have H4 := hid h4
            clear h4
            refine u_only 11 _ rfl (by kernel_rfl) (by rfl) ?_
            go_simp
            refine (error_same _ _).mono ?_
            rintro e w5 ⟨rfl, rfl⟩
            refine ⟨_, rfl, ?_⟩
            refine u_calc 12 _ _ rfl (by kernel_rfl) (by kernel_rfl) (by kernel_rfl) (by rfl) (fun u => by go_simp; rfl) ?_
            simp only [List.getElem_toArray, List.getElem_cons_zero, List.getElem_cons_succ, Act.put, List.setIfInBounds_toArray, List.set_cons_zero, List.set_cons_succ]
            refine u_end (by kernel_rfl) ?_
            generalize leaveSt A X K = A2 at H4
            clear H3
            clear hc1' hc2'
            go_wp2_with fail
            refine wp_region_ext [(5, slw (waiting A2 K)), (11, slw (waiting A2 K)), (12, tru)] ⟨slw_stays _, slw_stays _, tru_stays, trivial⟩ (by kernel_rfl) (by kernel_rfl) ?_
            refine wpG_calc 1 rfl rfl rfl (fun u => by go_simp; rfl) ?_
            simp only [Act.put, List.setIfInBounds_toArray, List.set_cons_zero, List.set_cons_succ]
            refine wpG_calc 2 rfl rfl rfl (fun u => by go_simp; rfl) ?_
            simp only [Act.put, List.setIfInBounds_toArray, List.set_cons_zero, List.set_cons_succ]
            refine wpG_calc 3 rfl rfl rfl (fun u => by go_simp; rfl) ?_
            simp only [Act.put, List.setIfInBounds_toArray, List.set_cons_zero, List.set_cons_succ]
            refine wpG_calc 4 rfl rfl rfl (fun u => by go_simp; rfl) ?_
            simp only [Act.put, List.setIfInBounds_toArray, List.set_cons_zero, List.set_cons_succ]
            refine wpG_read 5 rfl rfl (.int .i64 K) rfl ?_ ?_
            · intro u hu hh
              obtain ⟨_, hk⟩ := hread.out u (H4.out.out.trans (hu.mono H4.out.out.size))
              go_simp
            simp only [Act.put, List.setIfInBounds_toArray, List.set_cons_zero, List.set_cons_succ]
            refine wpG_rel 6 rfl rfl rfl ?_ ?_
            · intro u hu hh
              go_simp
              refine (lwaiting_tw (H4.out.below hu) (by omega) K).mono ?_
              rintro e w6 ⟨v6, rfl, hs6, hb6⟩
              exact ⟨_, rfl, hs6, hb6⟩
            intro v5 ⟨u5, _, hr5⟩
            obtain ⟨a5, c5, hv5⟩ := hr5.val
            subst hv5
            simp only [Act.put, List.setIfInBounds_toArray, List.set_cons_zero, List.set_cons_succ]
            refine wpG_calc 7 rfl rfl rfl (fun u => by go_simp; rfl) ?_
            simp only [Act.put, List.setIfInBounds_toArray, List.set_cons_zero, List.set_cons_succ]
            refine wpG_calc 8 rfl rfl rfl (fun u => by go_simp; rfl) ?_
            simp only [Act.put, List.setIfInBounds_toArray, List.set_cons_zero, List.set_cons_succ]
            refine wpG_calc 9 rfl rfl rfl (fun u => by go_simp; rfl) ?_
            simp only [Act.put, List.setIfInBounds_toArray, List.set_cons_zero, List.set_cons_succ]
            refine wpG_calc 10 rfl rfl rfl (fun u => by go_simp; rfl) ?_
            simp only [Act.put, List.setIfInBounds_toArray, List.set_cons_zero, List.set_cons_succ]
            refine wpG_read 11 rfl rfl (.int .i64 K) rfl ?_ ?_
            · intro u hu hh
              obtain ⟨_, hk⟩ := hread.out u (H4.out.out.trans (hu.mono H4.out.out.size))
              go_simp
            simp only [Act.put, List.setIfInBounds_toArray, List.set_cons_zero, List.set_cons_succ]
            refine wpG_rel 12 rfl rfl rfl ?_ ?_
            · intro u hu hh
              go_simp
              refine (mwaiting_tw (H4.out.below hu) (by omega) K).mono ?_
              rintro e w6 ⟨v6, rfl, hs6, hb6⟩
              exact ⟨_, rfl, hs6, hb6⟩
            intro v11 ⟨u11, _, hr11⟩
            obtain ⟨a11, c11, hv11⟩ := hr11.val
            subst hv11
            simp only [Act.put, List.setIfInBounds_toArray, List.set_cons_zero, List.set_cons_succ]
            refine wpG_rel 13 rfl rfl rfl ?_ ?_
            · intro u hu hh
              go_simp
              refine (ints_any _ _ (waiting A2 K) (waiting A2 K) u (hh 5 rfl) (hh 11 rfl) (by have := waiting_short H4.out K; omega)).mono ?_
              rintro e w8 ⟨rfl, hb8⟩
              exact ⟨_, rfl, by rw [show decide (waiting A2 K = waiting A2 K) = true from decide_eq_true rfl]; rfl, hb8⟩
            intro v12 ⟨u12, _, hr12⟩
            obtain rfl : v12 = .bool true := hr12
            simp only [Act.put, List.setIfInBounds_toArray, List.set_cons_zero, List.set_cons_succ]
            refine wpG_calc 14 rfl rfl rfl (fun u => by go_simp; rfl) ?_
            simp only [Act.put, List.setIfInBounds_toArray, List.set_cons_zero, List.set_cons_succ]
            refine wpG_nil fun w' hb' hF => ?_
            have HT8 := hid (H4.out.below hb')
            clear hb' hF hr5 hr11
            go_wp2_with fail
            refine (lring_tw HT8.out).mono ?_
            rintro e w9 ⟨v9, rfl, hs9, hb9⟩
            obtain ⟨a9, c9, hv9⟩ := hs9.val
            subst hv9
            have HS9 := hid hs9
            have HT9 := hid (HT8.out.below hb9)
            clear hs9 hb9
            go_wp2_with fail
            refine (mring_tw HT9.out (by omega)).mono ?_
            rintro e wa ⟨va, rfl, hsa, hba⟩
            obtain ⟨aa, ca, hva⟩ := hsa.val
            subst hva
            have HSA := hid hsa
            have HS9 := hid (HS9.out.below hba)
            have HTA := hid (HT9.out.below hba)
            clear hsa hba
            go_wp2_with fail
            refine (ints_any _ _ (ring A2) (ring A2) _ HS9.out HSA.out (by have := ring_short A2; omega)).mono ?_
            rintro e wb ⟨rfl, hbb⟩
            rw [show decide (ring A2 = ring A2) = true from decide_eq_true rfl]
            have HTB := hid (HTA.out.below hbb)
            clear hbb
            go_wp2
            go_roundw
            case rel => exact ⟨j + 1, by omega, by go_num, hid ⟨A2, by rw [show 2 * (j + 1) = 2 * j + 1 + 1 by omega]; exact HTB.out⟩⟩
            case measure => simp [intOf]; omega
          · have h5 : (j < ls.length ∧ ls[j]? = some false) ∨ ¬ j < ls.length := by
              by_cases h6 : j < ls.length
              · refine .inl ⟨h6, ?_⟩
                have h7 : ¬ ls[j]? = some true := fun e => h4 ⟨h6, e⟩
                rw [List.getElem?_eq_getElem h6] at h7 ⊢
                cases h8 : ls[j] with
                | true => exact absurd (by rw [h8]) h7
                | false => rfl
              · exact .inr h6
            clear h4
            rcases h5 with h4 | h4
            · obtain ⟨b3, o3, he3, u3, hu3, hc3⟩ := (HL.out.below HT.out.out).at1 h4.1
              subst he3
              have : u3 = .bool false := by
                rw [List.getElem?_map, h4.2] at hu3
                exact (Option.some.inj hu3).symm
              subst this
              have h4i : (j : Int) < (ls.length : Int) := by omega
              clear h1 h2 h4 hu3 HX1 HX2
              go_wp2_with fail
              refine wp_region_one rfl ?_
              change wpAnyU _ .any _ _ 15 (Array.replicate 15 false) _ (World.drew _)
              refine u_calc 0 _ _ rfl (by kernel_rfl) (by kernel_rfl) (by kernel_rfl) (by rfl) (fun u => by go_simp; rfl) ?_
              simp only [List.getElem_toArray, List.getElem_cons_zero, Act.put, List.setIfInBounds_toArray, List.set_cons_zero, List.set_cons_succ]
              refine u_calc 1 _ _ rfl (by kernel_rfl) (by kernel_rfl) (by kernel_rfl) (by rfl) (fun u => by go_simp; rfl) ?_
              simp only [List.getElem_toArray, List.getElem_cons_zero, List.getElem_cons_succ, Act.put, List.setIfInBounds_toArray, List.set_cons_zero, List.set_cons_succ]
              refine u_calc 2 _ _ rfl (by kernel_rfl) (by kernel_rfl) (by kernel_rfl) (by rfl) (fun u => by go_simp; rfl) ?_
              simp only [List.getElem_toArray, List.getElem_cons_zero, List.getElem_cons_succ, Act.put, List.setIfInBounds_toArray, List.set_cons_zero, List.set_cons_succ]
              refine u_calc 3 _ _ rfl (by kernel_rfl) (by kernel_rfl) (by kernel_rfl) (by rfl) (fun u => by go_simp; rfl) ?_
              simp only [List.getElem_toArray, List.getElem_cons_zero, List.getElem_cons_succ, Act.put, List.setIfInBounds_toArray, List.set_cons_zero, List.set_cons_succ]
              refine u_calc 5 _ _ rfl (by kernel_rfl) (by kernel_rfl) (by kernel_rfl) (by rfl) (fun u => by go_simp; rfl) ?_
              simp only [List.getElem_toArray, List.getElem_cons_zero, List.getElem_cons_succ, Act.put, List.setIfInBounds_toArray, List.set_cons_zero, List.set_cons_succ]
              refine u_calc 6 _ _ rfl (by kernel_rfl) (by kernel_rfl) (by kernel_rfl) (by rfl) (fun u => by go_simp; rfl) ?_
              simp only [List.getElem_toArray, List.getElem_cons_zero, List.getElem_cons_succ, Act.put, List.setIfInBounds_toArray, List.set_cons_zero, List.set_cons_succ]
              refine u_calc 7 _ _ rfl (by kernel_rfl) (by kernel_rfl) (by kernel_rfl) (by rfl) (fun u => by go_simp; rfl) ?_
              simp only [List.getElem_toArray, List.getElem_cons_zero, List.getElem_cons_succ, Act.put, List.setIfInBounds_toArray, List.set_cons_zero, List.set_cons_succ]
              refine u_two 4 8 _ _ _ _ rfl rfl (by decide) (by kernel_rfl) (by kernel_rfl) (by kernel_rfl) (by kernel_rfl) (by kernel_rfl) (by rfl) (by rfl) (by go_simp; rfl) (by go_simp; rfl) ?_
              simp only [List.getElem_toArray, List.getElem_cons_zero, List.getElem_cons_succ, Act.put, List.setIfInBounds_toArray, List.set_cons_zero, List.set_cons_succ]
              refine u_only 9 _ rfl (by kernel_rfl) (by rfl) ?_
              go_simp
              refine (menter_tw HT.out.drewT (by omega) X K).mono ?_
              rintro e w3 ⟨rfl, h3⟩
              refine ⟨_, rfl, ?_⟩
              have H3 := hid h3
              clear h3
              refine u_calc 10 _ _ rfl (by kernel_rfl) (by kernel_rfl) (by kernel_rfl) (by rfl) (fun u => by go_simp; rfl) ?_
              simp only [List.getElem_toArray, List.getElem_cons_zero, List.getElem_cons_succ, Act.put, List.setIfInBounds_toArray, List.set_cons_zero, List.set_cons_succ]
              refine u_calc 11 _ _ rfl (by kernel_rfl) (by kernel_rfl) (by kernel_rfl) (by rfl) (fun u => by go_simp; rfl) ?_
              simp only [List.getElem_toArray, List.getElem_cons_zero, List.getElem_cons_succ, Act.put, List.setIfInBounds_toArray, List.set_cons_zero, List.set_cons_succ]
              refine u_calc 12 _ _ rfl (by kernel_rfl) (by kernel_rfl) (by kernel_rfl) (by rfl) (fun u => by go_simp; rfl) ?_
              simp only [List.getElem_toArray, List.getElem_cons_zero, List.getElem_cons_succ, Act.put, List.setIfInBounds_toArray, List.set_cons_zero, List.set_cons_succ]
              refine u_calc 13 _ _ rfl (by kernel_rfl) (by kernel_rfl) (by kernel_rfl) (by rfl) (fun u => by go_simp; rfl) ?_
              simp only [List.getElem_toArray, List.getElem_cons_zero, List.getElem_cons_succ, Act.put, List.setIfInBounds_toArray, List.set_cons_zero, List.set_cons_succ]
              refine u_calc 14 _ _ rfl (by kernel_rfl) (by kernel_rfl) (by kernel_rfl) (by rfl) (fun u => by go_simp; rfl) ?_
              simp only [List.getElem_toArray, List.getElem_cons_zero, List.getElem_cons_succ, Act.put, List.setIfInBounds_toArray, List.set_cons_zero, List.set_cons_succ]
              refine u_end (by kernel_rfl) ?_
              obtain ⟨hc1', hc2'⟩ := hread.out w3 H3.out.out
              go_wp2_with fail
              refine wp_region_one rfl ?_
              change wpAnyU _ .any _ _ 15 (Array.replicate 15 false) _ (World.drew _)
              refine u_calc 0 _ _ rfl (by kernel_rfl) (by kernel_rfl) (by kernel_rfl) (by rfl) (fun u => by go_simp; rfl) ?_
              simp only [List.getElem_toArray, List.getElem_cons_zero, Act.put, List.setIfInBounds_toArray, List.set_cons_zero, List.set_cons_succ]
              refine u_calc 1 _ _ rfl (by kernel_rfl) (by kernel_rfl) (by kernel_rfl) (by rfl) (fun u => by go_simp; rfl) ?_
              simp only [List.getElem_toArray, List.getElem_cons_zero, List.getElem_cons_succ, Act.put, List.setIfInBounds_toArray, List.set_cons_zero, List.set_cons_succ]
              refine u_calc 2 _ _ rfl (by kernel_rfl) (by kernel_rfl) (by kernel_rfl) (by rfl) (fun u => by go_simp; rfl) ?_
              simp only [List.getElem_toArray, List.getElem_cons_zero, List.getElem_cons_succ, Act.put, List.setIfInBounds_toArray, List.set_cons_zero, List.set_cons_succ]
              refine u_calc 3 _ _ rfl (by kernel_rfl) (by kernel_rfl) (by kernel_rfl) (by rfl) (fun u => by go_simp; rfl) ?_
              simp only [List.getElem_toArray, List.getElem_cons_zero, List.getElem_cons_succ, Act.put, List.setIfInBounds_toArray, List.set_cons_zero, List.set_cons_succ]
              refine u_calc 5 _ _ rfl (by kernel_rfl) (by kernel_rfl) (by kernel_rfl) (by rfl) (fun u => by go_simp; rfl) ?_
              simp only [List.getElem_toArray, List.getElem_cons_zero, List.getElem_cons_succ, Act.put, List.setIfInBounds_toArray, List.set_cons_zero, List.set_cons_succ]
              refine u_calc 6 _ _ rfl (by kernel_rfl) (by kernel_rfl) (by kernel_rfl) (by rfl) (fun u => by go_simp; rfl) ?_
              simp only [List.getElem_toArray, List.getElem_cons_zero, List.getElem_cons_succ, Act.put, List.setIfInBounds_toArray, List.set_cons_zero, List.set_cons_succ]
              refine u_calc 7 _ _ rfl (by kernel_rfl) (by kernel_rfl) (by kernel_rfl) (by rfl) (fun u => by go_simp; rfl) ?_
              simp only [List.getElem_toArray, List.getElem_cons_zero, List.getElem_cons_succ, Act.put, List.setIfInBounds_toArray, List.set_cons_zero, List.set_cons_succ]
              refine u_two 4 8 _ _ _ _ rfl rfl (by decide) (by kernel_rfl) (by kernel_rfl) (by kernel_rfl) (by kernel_rfl) (by kernel_rfl) (by rfl) (by rfl) (by go_simp; rfl) (by go_simp; rfl) ?_
              simp only [List.getElem_toArray, List.getElem_cons_zero, List.getElem_cons_succ, Act.put, List.setIfInBounds_toArray, List.set_cons_zero, List.set_cons_succ]
              refine u_only 9 _ rfl (by kernel_rfl) (by rfl) ?_
              go_simp
              refine (lenter_tw H3.out.drewT (by omega) X K).mono ?_
              rintro e w4 ⟨rfl, h4⟩
              refine ⟨_, rfl, ?_⟩
              have H4 := hid h4
              clear h4
              refine u_calc 10 _ _ rfl (by kernel_rfl) (by kernel_rfl) (by kernel_rfl) (by rfl) (fun u => by go_simp; rfl) ?_
              simp only [List.getElem_toArray, List.getElem_cons_zero, List.getElem_cons_succ, Act.put, List.setIfInBounds_toArray, List.set_cons_zero, List.set_cons_succ]
              refine u_calc 11 _ _ rfl (by kernel_rfl) (by kernel_rfl) (by kernel_rfl) (by rfl) (fun u => by go_simp; rfl) ?_
              simp only [List.getElem_toArray, List.getElem_cons_zero, List.getElem_cons_succ, Act.put, List.setIfInBounds_toArray, List.set_cons_zero, List.set_cons_succ]
              refine u_calc 12 _ _ rfl (by kernel_rfl) (by kernel_rfl) (by kernel_rfl) (by rfl) (fun u => by go_simp; rfl) ?_
              simp only [List.getElem_toArray, List.getElem_cons_zero, List.getElem_cons_succ, Act.put, List.setIfInBounds_toArray, List.set_cons_zero, List.set_cons_succ]
              refine u_calc 13 _ _ rfl (by kernel_rfl) (by kernel_rfl) (by kernel_rfl) (by rfl) (fun u => by go_simp; rfl) ?_
              simp only [List.getElem_toArray, List.getElem_cons_zero, List.getElem_cons_succ, Act.put, List.setIfInBounds_toArray, List.set_cons_zero, List.set_cons_succ]
              refine u_calc 14 _ _ rfl (by kernel_rfl) (by kernel_rfl) (by kernel_rfl) (by rfl) (fun u => by go_simp; rfl) ?_
              simp only [List.getElem_toArray, List.getElem_cons_zero, List.getElem_cons_succ, Act.put, List.setIfInBounds_toArray, List.set_cons_zero, List.set_cons_succ]
              refine u_end (by kernel_rfl) ?_
              go_wp2_with fail
              refine (error_same _ _).mono ?_
              rintro e w5 ⟨rfl, rfl⟩
              generalize enterSt A X K = A2 at H4
              generalize enterOk A X K = ok
              clear H3
              cases ok
              · clear hc1' hc2'
                go_wp2_with fail
                refine wp_region_ext [(5, slw (waiting A2 K)), (11, slw (waiting A2 K)), (12, tru)] ⟨slw_stays _, slw_stays _, tru_stays, trivial⟩ (by kernel_rfl) (by kernel_rfl) ?_
                refine wpG_calc 1 rfl rfl rfl (fun u => by go_simp; rfl) ?_
                simp only [Act.put, List.setIfInBounds_toArray, List.set_cons_zero, List.set_cons_succ]
                refine wpG_calc 2 rfl rfl rfl (fun u => by go_simp; rfl) ?_
                simp only [Act.put, List.setIfInBounds_toArray, List.set_cons_zero, List.set_cons_succ]
                refine wpG_calc 3 rfl rfl rfl (fun u => by go_simp; rfl) ?_
                simp only [Act.put, List.setIfInBounds_toArray, List.set_cons_zero, List.set_cons_succ]
                refine wpG_calc 4 rfl rfl rfl (fun u => by go_simp; rfl) ?_
                simp only [Act.put, List.setIfInBounds_toArray, List.set_cons_zero, List.set_cons_succ]
                refine wpG_read 5 rfl rfl (.int .i64 K) rfl ?_ ?_
                · intro u hu hh
                  obtain ⟨_, hk⟩ := hread.out u (H4.out.out.trans (hu.mono H4.out.out.size))
                  go_simp
                simp only [Act.put, List.setIfInBounds_toArray, List.set_cons_zero, List.set_cons_succ]
                refine wpG_rel 6 rfl rfl rfl ?_ ?_
                · intro u hu hh
                  go_simp
                  refine (lwaiting_tw (H4.out.below hu) (by omega) K).mono ?_
                  rintro e w6 ⟨v6, rfl, hs6, hb6⟩
                  exact ⟨_, rfl, hs6, hb6⟩
                intro v5 ⟨u5, _, hr5⟩
                obtain ⟨a5, c5, hv5⟩ := hr5.val
                subst hv5
                simp only [Act.put, List.setIfInBounds_toArray, List.set_cons_zero, List.set_cons_succ]
                refine wpG_calc 7 rfl rfl rfl (fun u => by go_simp; rfl) ?_
                simp only [Act.put, List.setIfInBounds_toArray, List.set_cons_zero, List.set_cons_succ]
                refine wpG_calc 8 rfl rfl rfl (fun u => by go_simp; rfl) ?_
                simp only [Act.put, List.setIfInBounds_toArray, List.set_cons_zero, List.set_cons_succ]
                refine wpG_calc 9 rfl rfl rfl (fun u => by go_simp; rfl) ?_
                simp only [Act.put, List.setIfInBounds_toArray, List.set_cons_zero, List.set_cons_succ]
                refine wpG_calc 10 rfl rfl rfl (fun u => by go_simp; rfl) ?_
                simp only [Act.put, List.setIfInBounds_toArray, List.set_cons_zero, List.set_cons_succ]
                refine wpG_read 11 rfl rfl (.int .i64 K) rfl ?_ ?_
                · intro u hu hh
                  obtain ⟨_, hk⟩ := hread.out u (H4.out.out.trans (hu.mono H4.out.out.size))
                  go_simp
                simp only [Act.put, List.setIfInBounds_toArray, List.set_cons_zero, List.set_cons_succ]
                refine wpG_rel 12 rfl rfl rfl ?_ ?_
                · intro u hu hh
                  go_simp
                  refine (mwaiting_tw (H4.out.below hu) (by omega) K).mono ?_
                  rintro e w6 ⟨v6, rfl, hs6, hb6⟩
                  exact ⟨_, rfl, hs6, hb6⟩
                intro v11 ⟨u11, _, hr11⟩
                obtain ⟨a11, c11, hv11⟩ := hr11.val
                subst hv11
                simp only [Act.put, List.setIfInBounds_toArray, List.set_cons_zero, List.set_cons_succ]
                refine wpG_rel 13 rfl rfl rfl ?_ ?_
                · intro u hu hh
                  go_simp
                  refine (ints_any _ _ (waiting A2 K) (waiting A2 K) u (hh 5 rfl) (hh 11 rfl) (by have := waiting_short H4.out K; omega)).mono ?_
                  rintro e w8 ⟨rfl, hb8⟩
                  exact ⟨_, rfl, by rw [show decide (waiting A2 K = waiting A2 K) = true from decide_eq_true rfl]; rfl, hb8⟩
                intro v12 ⟨u12, _, hr12⟩
                obtain rfl : v12 = .bool true := hr12
                simp only [Act.put, List.setIfInBounds_toArray, List.set_cons_zero, List.set_cons_succ]
                refine wpG_calc 14 rfl rfl rfl (fun u => by go_simp; rfl) ?_
                simp only [Act.put, List.setIfInBounds_toArray, List.set_cons_zero, List.set_cons_succ]
                refine wpG_nil fun w' hb' hF => ?_
                have HT8 := hid (H4.out.below hb')
                clear hb' hF hr5 hr11
                go_wp2_with fail
                refine (lring_tw HT8.out).mono ?_
                rintro e w9 ⟨v9, rfl, hs9, hb9⟩
                obtain ⟨a9, c9, hv9⟩ := hs9.val
                subst hv9
                have HS9 := hid hs9
                have HT9 := hid (HT8.out.below hb9)
                clear hs9 hb9
                go_wp2_with fail
                refine (mring_tw HT9.out (by omega)).mono ?_
                rintro e wa ⟨va, rfl, hsa, hba⟩
                obtain ⟨aa, ca, hva⟩ := hsa.val
                subst hva
                have HSA := hid hsa
                have HS9 := hid (HS9.out.below hba)
                have HTA := hid (HT9.out.below hba)
                clear hsa hba
                go_wp2_with fail
                refine (ints_any _ _ (ring A2) (ring A2) _ HS9.out HSA.out (by have := ring_short A2; omega)).mono ?_
                rintro e wb ⟨rfl, hbb⟩
                rw [show decide (ring A2 = ring A2) = true from decide_eq_true rfl]
                have HTB := hid (HTA.out.below hbb)
                clear hbb
                go_wp2
                go_roundw
                case rel => exact ⟨j + 1, by omega, by go_num, hid ⟨A2, by rw [show 2 * (j + 1) = 2 * j + 1 + 1 by omega]; exact HTB.out⟩⟩
                case measure => simp [intOf]; omega
              · clear hc1' hc2'
                go_wp2_with fail
                refine wp_region_ext [(5, slw (waiting A2 K)), (11, slw (waiting A2 K)), (12, tru)] ⟨slw_stays _, slw_stays _, tru_stays, trivial⟩ (by kernel_rfl) (by kernel_rfl) ?_
                refine wpG_calc 1 rfl rfl rfl (fun u => by go_simp; rfl) ?_
                simp only [Act.put, List.setIfInBounds_toArray, List.set_cons_zero, List.set_cons_succ]
                refine wpG_calc 2 rfl rfl rfl (fun u => by go_simp; rfl) ?_
                simp only [Act.put, List.setIfInBounds_toArray, List.set_cons_zero, List.set_cons_succ]
                refine wpG_calc 3 rfl rfl rfl (fun u => by go_simp; rfl) ?_
                simp only [Act.put, List.setIfInBounds_toArray, List.set_cons_zero, List.set_cons_succ]
                refine wpG_calc 4 rfl rfl rfl (fun u => by go_simp; rfl) ?_
                simp only [Act.put, List.setIfInBounds_toArray, List.set_cons_zero, List.set_cons_succ]
                refine wpG_read 5 rfl rfl (.int .i64 K) rfl ?_ ?_
                · intro u hu hh
                  obtain ⟨_, hk⟩ := hread.out u (H4.out.out.trans (hu.mono H4.out.out.size))
                  go_simp
                simp only [Act.put, List.setIfInBounds_toArray, List.set_cons_zero, List.set_cons_succ]
                refine wpG_rel 6 rfl rfl rfl ?_ ?_
                · intro u hu hh
                  go_simp
                  refine (lwaiting_tw (H4.out.below hu) (by omega) K).mono ?_
                  rintro e w6 ⟨v6, rfl, hs6, hb6⟩
                  exact ⟨_, rfl, hs6, hb6⟩
                intro v5 ⟨u5, _, hr5⟩
                obtain ⟨a5, c5, hv5⟩ := hr5.val
                subst hv5
                simp only [Act.put, List.setIfInBounds_toArray, List.set_cons_zero, List.set_cons_succ]
                refine wpG_calc 7 rfl rfl rfl (fun u => by go_simp; rfl) ?_
                simp only [Act.put, List.setIfInBounds_toArray, List.set_cons_zero, List.set_cons_succ]
                refine wpG_calc 8 rfl rfl rfl (fun u => by go_simp; rfl) ?_
                simp only [Act.put, List.setIfInBounds_toArray, List.set_cons_zero, List.set_cons_succ]
                refine wpG_calc 9 rfl rfl rfl (fun u => by go_simp; rfl) ?_
                simp only [Act.put, List.setIfInBounds_toArray, List.set_cons_zero, List.set_cons_succ]
                refine wpG_calc 10 rfl rfl rfl (fun u => by go_simp; rfl) ?_
                simp only [Act.put, List.setIfInBounds_toArray, List.set_cons_zero, List.set_cons_succ]
                refine wpG_read 11 rfl rfl (.int .i64 K) rfl ?_ ?_
                · intro u hu hh
                  obtain ⟨_, hk⟩ := hread.out u (H4.out.out.trans (hu.mono H4.out.out.size))
                  go_simp
                simp only [Act.put, List.setIfInBounds_toArray, List.set_cons_zero, List.set_cons_succ]
                refine wpG_rel 12 rfl rfl rfl ?_ ?_
                · intro u hu hh
                  go_simp
                  refine (mwaiting_tw (H4.out.below hu) (by omega) K).mono ?_
                  rintro e w6 ⟨v6, rfl, hs6, hb6⟩
                  exact ⟨_, rfl, hs6, hb6⟩
                intro v11 ⟨u11, _, hr11⟩
                obtain ⟨a11, c11, hv11⟩ := hr11.val
                subst hv11
                simp only [Act.put, List.setIfInBounds_toArray, List.set_cons_zero, List.set_cons_succ]
                refine wpG_rel 13 rfl rfl rfl ?_ ?_
                · intro u hu hh
                  go_simp
                  refine (ints_any _ _ (waiting A2 K) (waiting A2 K) u (hh 5 rfl) (hh 11 rfl) (by have := waiting_short H4.out K; omega)).mono ?_
                  rintro e w8 ⟨rfl, hb8⟩
                  exact ⟨_, rfl, by rw [show decide (waiting A2 K = waiting A2 K) = true from decide_eq_true rfl]; rfl, hb8⟩
                intro v12 ⟨u12, _, hr12⟩
                obtain rfl : v12 = .bool true := hr12
                simp only [Act.put, List.setIfInBounds_toArray, List.set_cons_zero, List.set_cons_succ]
                refine wpG_calc 14 rfl rfl rfl (fun u => by go_simp; rfl) ?_
                simp only [Act.put, List.setIfInBounds_toArray, List.set_cons_zero, List.set_cons_succ]
                refine wpG_nil fun w' hb' hF => ?_
                have HT8 := hid (H4.out.below hb')
                clear hb' hF hr5 hr11
                go_wp2_with fail
                refine (lring_tw HT8.out).mono ?_
                rintro e w9 ⟨v9, rfl, hs9, hb9⟩
                obtain ⟨a9, c9, hv9⟩ := hs9.val
                subst hv9
                have HS9 := hid hs9
                have HT9 := hid (HT8.out.below hb9)
                clear hs9 hb9
                go_wp2_with fail
                refine (mring_tw HT9.out (by omega)).mono ?_
                rintro e wa ⟨va, rfl, hsa, hba⟩
                obtain ⟨aa, ca, hva⟩ := hsa.val
                subst hva
                have HSA := hid hsa
                have HS9 := hid (HS9.out.below hba)
                have HTA := hid (HT9.out.below hba)
                clear hsa hba
                go_wp2_with fail
                refine (ints_any _ _ (ring A2) (ring A2) _ HS9.out HSA.out (by have := ring_short A2; omega)).mono ?_
                rintro e wb ⟨rfl, hbb⟩
                rw [show decide (ring A2 = ring A2) = true from decide_eq_true rfl]
                have HTB := hid (HTA.out.below hbb)
                clear hbb
                go_wp2
                go_roundw
                case rel => exact ⟨j + 1, by omega, by go_num, hid ⟨A2, by rw [show 2 * (j + 1) = 2 * j + 1 + 1 by omega]; exact HTB.out⟩⟩
                case measure => simp [intOf]; omega
            · have h4i : ¬ (j : Int) < (ls.length : Int) := by omega
              clear h1 h2 h4 HX1 HX2
              go_wp2_with fail
              refine wp_region_one rfl ?_
              change wpAnyU _ .any _ _ 15 (Array.replicate 15 false) _ (World.drew _)
              refine u_calc 0 _ _ rfl (by kernel_rfl) (by kernel_rfl) (by kernel_rfl) (by rfl) (fun u => by go_simp; rfl) ?_
              simp only [List.getElem_toArray, List.getElem_cons_zero, Act.put, List.setIfInBounds_toArray, List.set_cons_zero, List.set_cons_succ]
              refine u_calc 1 _ _ rfl (by kernel_rfl) (by kernel_rfl) (by kernel_rfl) (by rfl) (fun u => by go_simp; rfl) ?_
              simp only [List.getElem_toArray, List.getElem_cons_zero, List.getElem_cons_succ, Act.put, List.setIfInBounds_toArray, List.set_cons_zero, List.set_cons_succ]
              refine u_calc 2 _ _ rfl (by kernel_rfl) (by kernel_rfl) (by kernel_rfl) (by rfl) (fun u => by go_simp; rfl) ?_
              simp only [List.getElem_toArray, List.getElem_cons_zero, List.getElem_cons_succ, Act.put, List.setIfInBounds_toArray, List.set_cons_zero, List.set_cons_succ]
              refine u_calc 3 _ _ rfl (by kernel_rfl) (by kernel_rfl) (by kernel_rfl) (by rfl) (fun u => by go_simp; rfl) ?_
              simp only [List.getElem_toArray, List.getElem_cons_zero, List.getElem_cons_succ, Act.put, List.setIfInBounds_toArray, List.set_cons_zero, List.set_cons_succ]
              refine u_calc 5 _ _ rfl (by kernel_rfl) (by kernel_rfl) (by kernel_rfl) (by rfl) (fun u => by go_simp; rfl) ?_
              simp only [List.getElem_toArray, List.getElem_cons_zero, List.getElem_cons_succ, Act.put, List.setIfInBounds_toArray, List.set_cons_zero, List.set_cons_succ]
              refine u_calc 6 _ _ rfl (by kernel_rfl) (by kernel_rfl) (by kernel_rfl) (by rfl) (fun u => by go_simp; rfl) ?_
              simp only [List.getElem_toArray, List.getElem_cons_zero, List.getElem_cons_succ, Act.put, List.setIfInBounds_toArray, List.set_cons_zero, List.set_cons_succ]
              refine u_calc 7 _ _ rfl (by kernel_rfl) (by kernel_rfl) (by kernel_rfl) (by rfl) (fun u => by go_simp; rfl) ?_
              simp only [List.getElem_toArray, List.getElem_cons_zero, List.getElem_cons_succ, Act.put, List.setIfInBounds_toArray, List.set_cons_zero, List.set_cons_succ]
              refine u_two 4 8 _ _ _ _ rfl rfl (by decide) (by kernel_rfl) (by kernel_rfl) (by kernel_rfl) (by kernel_rfl) (by kernel_rfl) (by rfl) (by rfl) (by go_simp; rfl) (by go_simp; rfl) ?_
              simp only [List.getElem_toArray, List.getElem_cons_zero, List.getElem_cons_succ, Act.put, List.setIfInBounds_toArray, List.set_cons_zero, List.set_cons_succ]
              refine u_only 9 _ rfl (by kernel_rfl) (by rfl) ?_
              go_simp
              refine (menter_tw HT.out.drewT (by omega) X K).mono ?_
              rintro e w3 ⟨rfl, h3⟩
              refine ⟨_, rfl, ?_⟩
              have H3 := hid h3
              clear h3
              refine u_calc 10 _ _ rfl (by kernel_rfl) (by kernel_rfl) (by kernel_rfl) (by rfl) (fun u => by go_simp; rfl) ?_
              simp only [List.getElem_toArray, List.getElem_cons_zero, List.getElem_cons_succ, Act.put, List.setIfInBounds_toArray, List.set_cons_zero, List.set_cons_succ]
              refine u_calc 11 _ _ rfl (by kernel_rfl) (by kernel_rfl) (by kernel_rfl) (by rfl) (fun u => by go_simp; rfl) ?_
              simp only [List.getElem_toArray, List.getElem_cons_zero, List.getElem_cons_succ, Act.put, List.setIfInBounds_toArray, List.set_cons_zero, List.set_cons_succ]
              refine u_calc 12 _ _ rfl (by kernel_rfl) (by kernel_rfl) (by kernel_rfl) (by rfl) (fun u => by go_simp; rfl) ?_
              simp only [List.getElem_toArray, List.getElem_cons_zero, List.getElem_cons_succ, Act.put, List.setIfInBounds_toArray, List.set_cons_zero, List.set_cons_succ]
              refine u_calc 13 _ _ rfl (by kernel_rfl) (by kernel_rfl) (by kernel_rfl) (by rfl) (fun u => by go_simp; rfl) ?_
              simp only [List.getElem_toArray, List.getElem_cons_zero, List.getElem_cons_succ, Act.put, List.setIfInBounds_toArray, List.set_cons_zero, List.set_cons_succ]
              refine u_calc 14 _ _ rfl (by kernel_rfl) (by kernel_rfl) (by kernel_rfl) (by rfl) (fun u => by go_simp; rfl) ?_
              simp only [List.getElem_toArray, List.getElem_cons_zero, List.getElem_cons_succ, Act.put, List.setIfInBounds_toArray, List.set_cons_zero, List.set_cons_succ]
              refine u_end (by kernel_rfl) ?_
              obtain ⟨hc1', hc2'⟩ := hread.out w3 H3.out.out
              go_wp2_with fail
              refine wp_region_one rfl ?_
              change wpAnyU _ .any _ _ 15 (Array.replicate 15 false) _ (World.drew _)
              refine u_calc 0 _ _ rfl (by kernel_rfl) (by kernel_rfl) (by kernel_rfl) (by rfl) (fun u => by go_simp; rfl) ?_
              simp only [List.getElem_toArray, List.getElem_cons_zero, Act.put, List.setIfInBounds_toArray, List.set_cons_zero, List.set_cons_succ]
              refine u_calc 1 _ _ rfl (by kernel_rfl) (by kernel_rfl) (by kernel_rfl) (by rfl) (fun u => by go_simp; rfl) ?_
              simp only [List.getElem_toArray, List.getElem_cons_zero, List.getElem_cons_succ, Act.put, List.setIfInBounds_toArray, List.set_cons_zero, List.set_cons_succ]
              refine u_calc 2 _ _ rfl (by kernel_rfl) (by kernel_rfl) (by kernel_rfl) (by rfl) (fun u => by go_simp; rfl) ?_
              simp only [List.getElem_toArray, List.getElem_cons_zero, List.getElem_cons_succ, Act.put, List.setIfInBounds_toArray, List.set_cons_zero, List.set_cons_succ]
              refine u_calc 3 _ _ rfl (by kernel_rfl) (by kernel_rfl) (by kernel_rfl) (by rfl) (fun u => by go_simp; rfl) ?_
              simp only [List.getElem_toArray, List.getElem_cons_zero, List.getElem_cons_succ, Act.put, List.setIfInBounds_toArray, List.set_cons_zero, List.set_cons_succ]
              refine u_calc 5 _ _ rfl (by kernel_rfl) (by kernel_rfl) (by kernel_rfl) (by rfl) (fun u => by go_simp; rfl) ?_
              simp only [List.getElem_toArray, List.getElem_cons_zero, List.getElem_cons_succ, Act.put, List.setIfInBounds_toArray, List.set_cons_zero, List.set_cons_succ]
              refine u_calc 6 _ _ rfl (by kernel_rfl) (by kernel_rfl) (by kernel_rfl) (by rfl) (fun u => by go_simp; rfl) ?_
              simp only [List.getElem_toArray, List.getElem_cons_zero, List.getElem_cons_succ, Act.put, List.setIfInBounds_toArray, List.set_cons_zero, List.set_cons_succ]
              refine u_calc 7 _ _ rfl (by kernel_rfl) (by kernel_rfl) (by kernel_rfl) (by rfl) (fun u => by go_simp; rfl) ?_
              simp only [List.getElem_toArray, List.getElem_cons_zero, List.getElem_cons_succ, Act.put, List.setIfInBounds_toArray, List.set_cons_zero, List.set_cons_succ]
              refine u_two 4 8 _ _ _ _ rfl rfl (by decide) (by kernel_rfl) (by kernel_rfl) (by kernel_rfl) (by kernel_rfl) (by kernel_rfl) (by rfl) (by rfl) (by go_simp; rfl) (by go_simp; rfl) ?_
              simp only [List.getElem_toArray, List.getElem_cons_zero, List.getElem_cons_succ, Act.put, List.setIfInBounds_toArray, List.set_cons_zero, List.set_cons_succ]
              refine u_only 9 _ rfl (by kernel_rfl) (by rfl) ?_
              go_simp
              refine (lenter_tw H3.out.drewT (by omega) X K).mono ?_
              rintro e w4 ⟨rfl, h4⟩
              refine ⟨_, rfl, ?_⟩
              have H4 := hid h4
              clear h4
              refine u_calc 10 _ _ rfl (by kernel_rfl) (by kernel_rfl) (by kernel_rfl) (by rfl) (fun u => by go_simp; rfl) ?_
              simp only [List.getElem_toArray, List.getElem_cons_zero, List.getElem_cons_succ, Act.put, List.setIfInBounds_toArray, List.set_cons_zero, List.set_cons_succ]
              refine u_calc 11 _ _ rfl (by kernel_rfl) (by kernel_rfl) (by kernel_rfl) (by rfl) (fun u => by go_simp; rfl) ?_
              simp only [List.getElem_toArray, List.getElem_cons_zero, List.getElem_cons_succ, Act.put, List.setIfInBounds_toArray, List.set_cons_zero, List.set_cons_succ]
              refine u_calc 12 _ _ rfl (by kernel_rfl) (by kernel_rfl) (by kernel_rfl) (by rfl) (fun u => by go_simp; rfl) ?_
              simp only [List.getElem_toArray, List.getElem_cons_zero, List.getElem_cons_succ, Act.put, List.setIfInBounds_toArray, List.set_cons_zero, List.set_cons_succ]
              refine u_calc 13 _ _ rfl (by kernel_rfl) (by kernel_rfl) (by kernel_rfl) (by rfl) (fun u => by go_simp; rfl) ?_
              simp only [List.getElem_toArray, List.getElem_cons_zero, List.getElem_cons_succ, Act.put, List.setIfInBounds_toArray, List.set_cons_zero, List.set_cons_succ]
              refine u_calc 14 _ _ rfl (by kernel_rfl) (by kernel_rfl) (by kernel_rfl) (by rfl) (fun u => by go_simp; rfl) ?_
              simp only [List.getElem_toArray, List.getElem_cons_zero, List.getElem_cons_succ, Act.put, List.setIfInBounds_toArray, List.set_cons_zero, List.set_cons_succ]
              refine u_end (by kernel_rfl) ?_
              go_wp2_with fail
              refine (error_same _ _).mono ?_
              rintro e w5 ⟨rfl, rfl⟩
              generalize enterSt A X K = A2 at H4
              generalize enterOk A X K = ok
              clear H3
              cases ok
              · clear hc1' hc2'
                go_wp2_with fail
                refine wp_region_ext [(5, slw (waiting A2 K)), (11, slw (waiting A2 K)), (12, tru)] ⟨slw_stays _, slw_stays _, tru_stays, trivial⟩ (by kernel_rfl) (by kernel_rfl) ?_
                refine wpG_calc 1 rfl rfl rfl (fun u => by go_simp; rfl) ?_
                simp only [Act.put, List.setIfInBounds_toArray, List.set_cons_zero, List.set_cons_succ]
                refine wpG_calc 2 rfl rfl rfl (fun u => by go_simp; rfl) ?_
                simp only [Act.put, List.setIfInBounds_toArray, List.set_cons_zero, List.set_cons_succ]
                refine wpG_calc 3 rfl rfl rfl (fun u => by go_simp; rfl) ?_
                simp only [Act.put, List.setIfInBounds_toArray, List.set_cons_zero, List.set_cons_succ]
                refine wpG_calc 4 rfl rfl rfl (fun u => by go_simp; rfl) ?_
                simp only [Act.put, List.setIfInBounds_toArray, List.set_cons_zero, List.set_cons_succ]
                refine wpG_read 5 rfl rfl (.int .i64 K) rfl ?_ ?_
                · intro u hu hh
                  obtain ⟨_, hk⟩ := hread.out u (H4.out.out.trans (hu.mono H4.out.out.size))
                  go_simp
                simp only [Act.put, List.setIfInBounds_toArray, List.set_cons_zero, List.set_cons_succ]
                refine wpG_rel 6 rfl rfl rfl ?_ ?_
                · intro u hu hh
                  go_simp
                  refine (lwaiting_tw (H4.out.below hu) (by omega) K).mono ?_
                  rintro e w6 ⟨v6, rfl, hs6, hb6⟩
                  exact ⟨_, rfl, hs6, hb6⟩
                intro v5 ⟨u5, _, hr5⟩
                obtain ⟨a5, c5, hv5⟩ := hr5.val
                subst hv5
                simp only [Act.put, List.setIfInBounds_toArray, List.set_cons_zero, List.set_cons_succ]
                refine wpG_calc 7 rfl rfl rfl (fun u => by go_simp; rfl) ?_
                simp only [Act.put, List.setIfInBounds_toArray, List.set_cons_zero, List.set_cons_succ]
                refine wpG_calc 8 rfl rfl rfl (fun u => by go_simp; rfl) ?_
                simp only [Act.put, List.setIfInBounds_toArray, List.set_cons_zero, List.set_cons_succ]
                refine wpG_calc 9 rfl rfl rfl (fun u => by go_simp; rfl) ?_
                simp only [Act.put, List.setIfInBounds_toArray, List.set_cons_zero, List.set_cons_succ]
                refine wpG_calc 10 rfl rfl rfl (fun u => by go_simp; rfl) ?_
                simp only [Act.put, List.setIfInBounds_toArray, List.set_cons_zero, List.set_cons_succ]
                refine wpG_read 11 rfl rfl (.int .i64 K) rfl ?_ ?_
                · intro u hu hh
                  obtain ⟨_, hk⟩ := hread.out u (H4.out.out.trans (hu.mono H4.out.out.size))
                  go_simp
                simp only [Act.put, List.setIfInBounds_toArray, List.set_cons_zero, List.set_cons_succ]
                refine wpG_rel 12 rfl rfl rfl ?_ ?_
                · intro u hu hh
                  go_simp
                  refine (mwaiting_tw (H4.out.below hu) (by omega) K).mono ?_
                  rintro e w6 ⟨v6, rfl, hs6, hb6⟩
                  exact ⟨_, rfl, hs6, hb6⟩
                intro v11 ⟨u11, _, hr11⟩
                obtain ⟨a11, c11, hv11⟩ := hr11.val
                subst hv11
                simp only [Act.put, List.setIfInBounds_toArray, List.set_cons_zero, List.set_cons_succ]
                refine wpG_rel 13 rfl rfl rfl ?_ ?_
                · intro u hu hh
                  go_simp
                  refine (ints_any _ _ (waiting A2 K) (waiting A2 K) u (hh 5 rfl) (hh 11 rfl) (by have := waiting_short H4.out K; omega)).mono ?_
                  rintro e w8 ⟨rfl, hb8⟩
                  exact ⟨_, rfl, by rw [show decide (waiting A2 K = waiting A2 K) = true from decide_eq_true rfl]; rfl, hb8⟩
                intro v12 ⟨u12, _, hr12⟩
                obtain rfl : v12 = .bool true := hr12
                simp only [Act.put, List.setIfInBounds_toArray, List.set_cons_zero, List.set_cons_succ]
                refine wpG_calc 14 rfl rfl rfl (fun u => by go_simp; rfl) ?_
                simp only [Act.put, List.setIfInBounds_toArray, List.set_cons_zero, List.set_cons_succ]
                refine wpG_nil fun w' hb' hF => ?_
                have HT8 := hid (H4.out.below hb')
                clear hb' hF hr5 hr11
                go_wp2_with fail
                refine (lring_tw HT8.out).mono ?_
                rintro e w9 ⟨v9, rfl, hs9, hb9⟩
                obtain ⟨a9, c9, hv9⟩ := hs9.val
                subst hv9
                have HS9 := hid hs9
                have HT9 := hid (HT8.out.below hb9)
                clear hs9 hb9
                go_wp2_with fail
                refine (mring_tw HT9.out (by omega)).mono ?_
                rintro e wa ⟨va, rfl, hsa, hba⟩
                obtain ⟨aa, ca, hva⟩ := hsa.val
                subst hva
                have HSA := hid hsa
                have HS9 := hid (HS9.out.below hba)
                have HTA := hid (HT9.out.below hba)
                clear hsa hba
                go_wp2_with fail
                refine (ints_any _ _ (ring A2) (ring A2) _ HS9.out HSA.out (by have := ring_short A2; omega)).mono ?_
                rintro e wb ⟨rfl, hbb⟩
                rw [show decide (ring A2 = ring A2) = true from decide_eq_true rfl]
                have HTB := hid (HTA.out.below hbb)
                clear hbb
                go_wp2
                go_roundw
                case rel => exact ⟨j + 1, by omega, by go_num, hid ⟨A2, by rw [show 2 * (j + 1) = 2 * j + 1 + 1 by omega]; exact HTB.out⟩⟩
                case measure => simp [intOf]; omega
              · clear hc1' hc2'
                go_wp2_with fail
                refine wp_region_ext [(5, slw (waiting A2 K)), (11, slw (waiting A2 K)), (12, tru)] ⟨slw_stays _, slw_stays _, tru_stays, trivial⟩ (by kernel_rfl) (by kernel_rfl) ?_
                refine wpG_calc 1 rfl rfl rfl (fun u => by go_simp; rfl) ?_
                simp only [Act.put, List.setIfInBounds_toArray, List.set_cons_zero, List.set_cons_succ]
                refine wpG_calc 2 rfl rfl rfl (fun u => by go_simp; rfl) ?_
                simp only [Act.put, List.setIfInBounds_toArray, List.set_cons_zero, List.set_cons_succ]
                refine wpG_calc 3 rfl rfl rfl (fun u => by go_simp; rfl) ?_
                simp only [Act.put, List.setIfInBounds_toArray, List.set_cons_zero, List.set_cons_succ]
                refine wpG_calc 4 rfl rfl rfl (fun u => by go_simp; rfl) ?_
                simp only [Act.put, List.setIfInBounds_toArray, List.set_cons_zero, List.set_cons_succ]
                refine wpG_read 5 rfl rfl (.int .i64 K) rfl ?_ ?_
                · intro u hu hh
                  obtain ⟨_, hk⟩ := hread.out u (H4.out.out.trans (hu.mono H4.out.out.size))
                  go_simp
                simp only [Act.put, List.setIfInBounds_toArray, List.set_cons_zero, List.set_cons_succ]
                refine wpG_rel 6 rfl rfl rfl ?_ ?_
                · intro u hu hh
                  go_simp
                  refine (lwaiting_tw (H4.out.below hu) (by omega) K).mono ?_
                  rintro e w6 ⟨v6, rfl, hs6, hb6⟩
                  exact ⟨_, rfl, hs6, hb6⟩
                intro v5 ⟨u5, _, hr5⟩
                obtain ⟨a5, c5, hv5⟩ := hr5.val
                subst hv5
                simp only [Act.put, List.setIfInBounds_toArray, List.set_cons_zero, List.set_cons_succ]
                refine wpG_calc 7 rfl rfl rfl (fun u => by go_simp; rfl) ?_
                simp only [Act.put, List.setIfInBounds_toArray, List.set_cons_zero, List.set_cons_succ]
                refine wpG_calc 8 rfl rfl rfl (fun u => by go_simp; rfl) ?_
                simp only [Act.put, List.setIfInBounds_toArray, List.set_cons_zero, List.set_cons_succ]
                refine wpG_calc 9 rfl rfl rfl (fun u => by go_simp; rfl) ?_
                simp only [Act.put, List.setIfInBounds_toArray, List.set_cons_zero, List.set_cons_succ]
                refine wpG_calc 10 rfl rfl rfl (fun u => by go_simp; rfl) ?_
                simp only [Act.put, List.setIfInBounds_toArray, List.set_cons_zero, List.set_cons_succ]
                refine wpG_read 11 rfl rfl (.int .i64 K) rfl ?_ ?_
                · intro u hu hh
                  obtain ⟨_, hk⟩ := hread.out u (H4.out.out.trans (hu.mono H4.out.out.size))
                  go_simp
                simp only [Act.put, List.setIfInBounds_toArray, List.set_cons_zero, List.set_cons_succ]
                refine wpG_rel 12 rfl rfl rfl ?_ ?_
                · intro u hu hh
                  go_simp
                  refine (mwaiting_tw (H4.out.below hu) (by omega) K).mono ?_
                  rintro e w6 ⟨v6, rfl, hs6, hb6⟩
                  exact ⟨_, rfl, hs6, hb6⟩
                intro v11 ⟨u11, _, hr11⟩
                obtain ⟨a11, c11, hv11⟩ := hr11.val
                subst hv11
                simp only [Act.put, List.setIfInBounds_toArray, List.set_cons_zero, List.set_cons_succ]
                refine wpG_rel 13 rfl rfl rfl ?_ ?_
                · intro u hu hh
                  go_simp
                  refine (ints_any _ _ (waiting A2 K) (waiting A2 K) u (hh 5 rfl) (hh 11 rfl) (by have := waiting_short H4.out K; omega)).mono ?_
                  rintro e w8 ⟨rfl, hb8⟩
                  exact ⟨_, rfl, by rw [show decide (waiting A2 K = waiting A2 K) = true from decide_eq_true rfl]; rfl, hb8⟩
                intro v12 ⟨u12, _, hr12⟩
                obtain rfl : v12 = .bool true := hr12
                simp only [Act.put, List.setIfInBounds_toArray, List.set_cons_zero, List.set_cons_succ]
                refine wpG_calc 14 rfl rfl rfl (fun u => by go_simp; rfl) ?_
                simp only [Act.put, List.setIfInBounds_toArray, List.set_cons_zero, List.set_cons_succ]
                refine wpG_nil fun w' hb' hF => ?_
                have HT8 := hid (H4.out.below hb')
                clear hb' hF hr5 hr11
                go_wp2_with fail
                refine (lring_tw HT8.out).mono ?_
                rintro e w9 ⟨v9, rfl, hs9, hb9⟩
                obtain ⟨a9, c9, hv9⟩ := hs9.val
                subst hv9
                have HS9 := hid hs9
                have HT9 := hid (HT8.out.below hb9)
                clear hs9 hb9
                go_wp2_with fail
                refine (mring_tw HT9.out (by omega)).mono ?_
                rintro e wa ⟨va, rfl, hsa, hba⟩
                obtain ⟨aa, ca, hva⟩ := hsa.val
                subst hva
                have HSA := hid hsa
                have HS9 := hid (HS9.out.below hba)
                have HTA := hid (HT9.out.below hba)
                clear hsa hba
                go_wp2_with fail
                refine (ints_any _ _ (ring A2) (ring A2) _ HS9.out HSA.out (by have := ring_short A2; omega)).mono ?_
                rintro e wb ⟨rfl, hbb⟩
                rw [show decide (ring A2 = ring A2) = true from decide_eq_true rfl]
                have HTB := hid (HTA.out.below hbb)
                clear hbb
                go_wp2
                go_roundw
                case rel => exact ⟨j + 1, by omega, by go_num, hid ⟨A2, by rw [show 2 * (j + 1) = 2 * j + 1 + 1 by omega]; exact HTB.out⟩⟩
                case measure => simp [intOf]; omega
        · obtain rfl : j = 60 := by omega
          go_wp2
          go_ret
          exact ⟨rfl, HT.out.out⟩
      · have h2i : ¬ (j : Int) < (ks.length : Int) := by omega
        go_wp2
        go_ret
        exact ⟨rfl, HT.out.out⟩
    · have h1i : ¬ (j : Int) < (xs.length : Int) := by omega
      go_wp2
      go_ret
      exact ⟨rfl, HT.out.out⟩
end Go.Proofs.Ytmfhmikihnjkcaa.locks
