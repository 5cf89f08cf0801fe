/- Types of methods, changed: the reference's ChangeType, PermuteType. Condition: the text is not long. -/
import Derived.Test.YtjkmaioidekjcaaDoorMtype10
namespace Go.Proofs.YtjkmaioidekjcaaDoor.mtypes
open Go.RowKit Go.Proofs.YtjkmaioidekjcaaDoor.lib Go.Proofs.YtjkmaioidekjcaaDoor.errs Go.Proofs.YtjkmaioidekjcaaDoor.names Go.Proofs.YtjkmaioidekjcaaDoor.texts Go.Proofs.YtjkmaioidekjcaaDoor.descs

set_option maxRecDepth 100000 in
set_option maxHeartbeats 4000000 in
theorem changeType_any (M : ByteArray) (n : Int) (t : ByteArray) (w : World) (hM : M.size ≤ 10000000) (ht : t.size ≤ 9223372036854775807) :
    Calls Tryd.prog 49 #[.string M, .int .i64 n, .string t] w (Said w (changeOf M.data.toList n t.data.toList)) := by
  cases hm : methodOf M.data.toList with
  | none =>
    have HM := hid hm
    have HN : Hid (changeOf M.data.toList n t.data.toList = (1, [])) := hid (by simp only [changeOf, hm])
    clear hm
    go_enter Tryd.func49, Tryd.ntmps49
    go_wp2_with fail
    refine (methodOf_any M _ hM).mono ?_
    intro e w1 h1
    obtain ⟨rfl, hb1⟩ := methodSaid_none HM.out h1
    clear h1
    go_wp2
    go_ret2
    exact said_of HN.out hb1
  | some r =>
    obtain ⟨ts, g⟩ := r
    have HM := hid hm
    obtain ⟨hn5, _, _⟩ := types_small hm
    by_cases hr : n < 0 ∨ (ts.length : Int) ≤ n
    · have HN : Hid (changeOf M.data.toList n t.data.toList = (2, [])) := hid (by simp only [changeOf, hm, if_pos hr])
      have HR := hid hr
      clear hm hr
      go_enter Tryd.func49, Tryd.ntmps49
      go_wp2_with fail
      refine (methodOf_any M _ hM).mono ?_
      intro e w1 h1
      obtain ⟨v, rfl, ho⟩ := methodSaid_some HM.out h1
      have HS := hid ho.sl
      have HB1 := hid ho.below
      obtain ⟨a1, c1, rfl⟩ := ho.sl.val
      clear h1 ho
      by_cases hlt : n < 0
      · go_wp2
        go_ret2
        exact said_of HN.out HB1.out
      · have hge : (ts.length : Int) ≤ n := HR.out.elim (fun h => absurd h hlt) id
        go_wp2
        go_ret2
        exact said_of HN.out HB1.out
    · obtain ⟨i, rfl⟩ : ∃ i : Nat, n = (i : Int) := ⟨n.toNat, by omega⟩
      have hi : i < ts.length := by omega
      have k0 : ¬ (i : Int) < 0 := by omega
      have k1 : ¬ (ts.length : Int) ≤ (i : Int) := by omega
      cases hT : isTy t.data.toList with
      | false =>
        have HN : Hid (changeOf M.data.toList (i : Int) t.data.toList = (1, [])) := hid (by simp only [changeOf, hm, if_neg hr, hT, Bool.false_eq_true, if_false])
        have HT := hid hT
        clear hm hr hT
        go_enter Tryd.func49, Tryd.ntmps49
        go_wp2_with fail
        refine (methodOf_any M _ hM).mono ?_
        intro e w1 h1
        obtain ⟨v, rfl, ho⟩ := methodSaid_some HM.out h1
        have HS := hid ho.sl
        have HB1 := hid ho.below
        obtain ⟨a1, c1, rfl⟩ := ho.sl.val
        clear h1 ho
        go_wp2_with fail
        refine (isType_any t _ ht).mono ?_
        rintro e wt ⟨rfl, rfl⟩
        rw [HT.out]
        go_wp2
        go_ret2
        exact said_of HN.out HB1.out
      | true =>
        have HN : Hid (changeOf M.data.toList (i : Int) t.data.toList = (0, makeText (ts.set i t.data.toList) g)) := hid (by simp only [changeOf, hm, if_neg hr, hT, if_true, Int.toNat_natCast])
        have HF := hid (fault_set (i := i) hm hT).1
        have HT := hid hT
        have O1 := hid (one_sv ts)
        have HEC := hid (set_cells ts i t)
        have k4 : (0 : Int) ≤ (i : Int) := by omega
        have k5 : (i : Int) < (ts.length : Int) := by omega
        clear hm hr hT
        go_enter Tryd.func49, Tryd.ntmps49
        go_wp2_with fail
        refine (methodOf_any M _ hM).mono ?_
        intro e w1 h1
        obtain ⟨v, rfl, ho⟩ := methodSaid_some HM.out h1
        have HS := hid ho.sl
        have HB1 := hid ho.below
        obtain ⟨a1, c1, rfl⟩ := ho.sl.val
        clear h1 ho
        have HMD := hid (Out.made w1 9 1)
        have HFD := hid (HS.out.below HMD.out.below)
        go_wp2_with fail
        refine (isType_any t _ ht).mono ?_
        rintro e wt ⟨rfl, rfl⟩
        rw [HT.out]
        go_wp2_with (at_builtin; refine wpList_append_src w1 _ rfl _ _ 40 rfl 9 (.string { data := #[] }) 1 16 ts.length Tryd.underlying40 infoStr rfl (by decide) _ _ _ HMD.out rfl _ _ HFD.out rfl O1.out ?_ ?_ ?_)
        all_goals first | (intro v3 w3 ho3 hg3) | omega | skip
        have HO3 := hid (show Out w1 w3 9 1 v3 ts.length (ts.map sv) from by simpa using ho3)
        clear ho3 hg3
        obtain ⟨gx, capx, ux, hvx, hgx, hcu, hfz, hset⟩ := HO3.out.store hi
        subst hvx
        have HO4 := hid (show Out w1 _ 9 1 _ (ts.set i t.data.toList).length ((ts.set i t.data.toList).map sv) from by rw [List.length_set, ← HEC.out]; exact hset (.string t))
        have HL4 := hid (show (ts.set i t.data.toList).length = ts.length from List.length_set)
        clear hset hgx
        have HB4 := hid (HB1.out.trans (HO4.out.below.mono HB1.out.size))
        have HS4 := hid (show Sl _ (.slice (some ⟨gx, 0, none⟩) ts.length capx) (ts.set i t.data.toList).length 1 ((ts.set i t.data.toList).map sv) from HO4.out.sl)
        go_wp2_with fail
        refine (text_types _ (ts.set i t.data.toList) g _ HS4.out HF.out).mono ?_
        rintro e w6 ⟨rfl, rfl⟩
        go_wp2
        go_ret2
        exact said_of HN.out HB4.out

set_option maxRecDepth 100000 in
set_option maxHeartbeats 4000000 in
theorem permuteType_any (M A : ByteArray) (vz : Value) (zs : List Int) (w : World) (hM : M.size ≤ 10000000) (hA : A.size ≤ 10000000) (hz : Sl w vz zs.length 1 (zs.map (.int .i64))) :
    Calls Tryd.prog 47 #[.string M, vz, .string A] w (Said w (permuteOf M.data.toList A.data.toList zs)) := by
  obtain ⟨b, d, rfl⟩ := hz.val
  have HZ := hid hz
  clear hz
  cases hm : methodOf M.data.toList with
  | none =>
    have HM := hid hm
    have HN : Hid (permuteOf M.data.toList A.data.toList zs = (1, [])) := hid (by simp only [permuteOf, hm])
    clear hm
    go_enter Tryd.func47, Tryd.ntmps47
    go_wp2_with fail
    refine (methodOf_any M _ hM).mono ?_
    intro e w1 h1
    obtain ⟨rfl, hb1⟩ := methodSaid_none HM.out h1
    clear h1
    go_wp2
    go_ret2
    exact said_of HN.out hb1
  | some r =>
    obtain ⟨ts, g⟩ := r
    have HM := hid hm
    obtain ⟨hn5, _, _⟩ := types_small hm
    cases hm2 : methodOf A.data.toList with
    | none =>
      have HM2 := hid hm2
      have HN : Hid (permuteOf M.data.toList A.data.toList zs = (1, [])) := hid (by simp only [permuteOf, hm, hm2])
      clear hm hm2
      go_enter Tryd.func47, Tryd.ntmps47
      go_wp2_with fail
      refine (methodOf_any M _ hM).mono ?_
      intro e w1 h1
      obtain ⟨v, rfl, ho⟩ := methodSaid_some HM.out h1
      have HS := hid ho.sl
      have HB1 := hid ho.below
      obtain ⟨a1, c1, rfl⟩ := ho.sl.val
      clear h1 ho
      go_wp2_with fail
      refine (methodOf_any A _ hA).mono ?_
      intro e w2 h2
      obtain ⟨rfl, hb2⟩ := methodSaid_none HM2.out h2
      clear h2
      go_wp2
      go_ret2
      exact said_of HN.out (HB1.out.trans (hb2.mono HB1.out.size))
    | some r2 =>
      obtain ⟨ms, g2⟩ := r2
      have HM2 := hid hm2
      have HNF := hid (fault_two hm hm2)
      by_cases hl : zs.length = ts.length
      · have HNN : Hid (∀ z, permErr ms zs ts = z → permuteOf M.data.toList A.data.toList zs = if z = 0 then (0, makeText ms g) else (z, [])) := hid (fun z hz => by simp only [permuteOf, hm, hm2, if_pos hl, hz])
        have hl0 : ((zs.length : Int) == (ts.length : Int)) = true := by rw [hl]; simp
        clear hm hm2
        go_enter Tryd.func47, Tryd.ntmps47
        go_wp2_with fail
        refine (methodOf_any M _ hM).mono ?_
        intro e w1 h1
        obtain ⟨v, rfl, ho⟩ := methodSaid_some HM.out h1
        have HS := hid ho.sl
        have HB1 := hid ho.below
        obtain ⟨a1, c1, rfl⟩ := ho.sl.val
        clear h1 ho
        go_wp2_with fail
        refine (methodOf_any A _ hA).mono ?_
        intro e w2 h2
        obtain ⟨v2, rfl, ho2⟩ := methodSaid_some HM2.out h2
        have HS1 := hid (HS.out.below ho2.below)
        have HS2 := hid ho2.sl
        have HB2 := hid (HB1.out.trans (ho2.below.mono HB1.out.size))
        have HZ2 := hid (HZ.out.below HB2.out)
        obtain ⟨a2, c2, rfl⟩ := ho2.sl.val
        clear h2 ho2
        go_wp2_with fail
        go_loopw [14] (fun i wr => ∃ k : Nat, k ≤ zs.length ∧ i = .int .i64 k ∧ Hid (Below w2.heap.size w2 wr) ∧ Hid (permErr ms zs ts = permErr ms (zs.drop k) (ts.drop k))) (fun i _ => zs.length - (intOf i).toNat)
        case atStart => exact ⟨0, Nat.zero_le _, rfl, hid (Below.refl _ _), hid rfl⟩
        case round =>
          obtain ⟨k, hk, rfl, HR, HP⟩ := hrel
          have HBR := hid (HB2.out.trans (HR.out.mono HB2.out.size))
          by_cases hlt : k < zs.length
          · have hltt : k < ts.length := by omega
            obtain ⟨bz, oz, haz, hcz⟩ := (HZ2.out.below HR.out).ints hlt
            obtain ⟨bx, ox, hax, hcx⟩ := sl_sv (HS1.out.below HR.out) hltt
            subst haz
            subst hax
            have hi : (0 : Int) ≤ (k : Int) := by omega
            have hkl : (k : Int) < (zs.length : Int) := by omega
            have hkt : (k : Int) < (ts.length : Int) := by omega
            by_cases hz0 : zs[k] < 0
            · have HE := hid (perm_range (ms := ms) hlt hltt (.inl hz0))
              have HN : Hid (permuteOf M.data.toList A.data.toList zs = (2, [])) := hid (by rw [HNN.out 2 (HP.out.trans HE.out)]; rfl)
              generalize zs[k] = z at hcz hz0
              go_wp2
              go_ret2
              exact said_of HN.out HBR.out
            · by_cases hz1 : (ms.length : Int) ≤ zs[k]
              · have HE := hid (perm_range hlt hltt (.inr hz1))
                have HN : Hid (permuteOf M.data.toList A.data.toList zs = (2, [])) := hid (by rw [HNN.out 2 (HP.out.trans HE.out)]; rfl)
                generalize zs[k] = z at hcz hz0 hz1
                go_wp2
                go_ret2
                exact said_of HN.out HBR.out
              · obtain ⟨j, hj⟩ : ∃ j : Nat, zs[k] = (j : Int) := ⟨zs[k].toNat, by omega⟩
                have hjm : j < ms.length := by omega
                obtain ⟨bm, om, ham, hcm⟩ := sl_sv (HS2.out.below HR.out) hjm
                subst ham
                have hj0 : (0 : Int) ≤ (j : Int) := by omega
                have hj1 : (j : Int) < (ms.length : Int) := by omega
                by_cases ht : ms[j] = ts[k]
                · have HE := hid (perm_step hlt hltt hj hjm ht)
                  rw [hj] at hcz
                  rw [← ht] at hcx
                  generalize bs ms[j] = X at hcx hcm
                  clear hz0 hz1 ht hj
                  go_wp2_with fail
                  go_quiet (fail)
                  go_wp2
                  go_roundw
                  case rel => exact ⟨k + 1, by omega, by go_num, hid (below_drewN HR.out _), hid (HP.out.trans HE.out)⟩
                  case measure => simp [intOf]; omega
                · have HE := hid (perm_type hlt hltt hj hjm ht)
                  have HN : Hid (permuteOf M.data.toList A.data.toList zs = (7, [])) := hid (by rw [HNN.out 7 (HP.out.trans HE.out)]; rfl)
                  rw [hj] at hcz
                  have hne : bs ms[j] ≠ bs ts[k] := fun h => ht (congrArg (fun x : ByteArray => x.data.toList) h)
                  have hne1 := str_neb hne
                  generalize bs ms[j] = X at hcm hne1
                  generalize bs ts[k] = Y at hcx hne1
                  have hne2 : ¬ X.toList = Y.toList := by rw [beq_eq_false_iff_ne] at hne1; exact hne1
                  clear hz0 hz1 ht hj hne
                  go_wp2_with fail
                  go_quiet (fail)
                  go_wp2
                  go_ret2
                  exact said_of HN.out (below_drewN HBR.out _)
          · have HE := hid (perm_end (ms := ms) (ts := ts) (Nat.le_of_not_lt hlt))
            have HN : Hid (permuteOf M.data.toList A.data.toList zs = (0, makeText ms g)) := hid (by rw [HNN.out 0 (HP.out.trans HE.out)]; rfl)
            have HS3 := hid (HS2.out.below HR.out)
            go_wp2_with fail
            refine (text_types _ ms g _ HS3.out HNF.out).mono ?_
            rintro e w6 ⟨rfl, rfl⟩
            go_wp2
            go_ret2
            exact said_of HN.out HBR.out
      · have HN : Hid (permuteOf M.data.toList A.data.toList zs = (8, [])) := hid (by simp only [permuteOf, hm, hm2, if_neg hl])
        have hl0 : ((zs.length : Int) == (ts.length : Int)) = false := beq_eq_false_iff_ne.2 (by omega)
        clear hm hm2
        go_enter Tryd.func47, Tryd.ntmps47
        go_wp2_with fail
        refine (methodOf_any M _ hM).mono ?_
        intro e w1 h1
        obtain ⟨v, rfl, ho⟩ := methodSaid_some HM.out h1
        have HS := hid ho.sl
        have HB1 := hid ho.below
        obtain ⟨a1, c1, rfl⟩ := ho.sl.val
        clear h1 ho
        go_wp2_with fail
        refine (methodOf_any A _ hA).mono ?_
        intro e w2 h2
        obtain ⟨v2, rfl, ho2⟩ := methodSaid_some HM2.out h2
        have HB2 := hid (HB1.out.trans (ho2.below.mono HB1.out.size))
        obtain ⟨a2, c2, rfl⟩ := ho2.sl.val
        clear h2 ho2
        go_wp2
        go_ret2
        exact said_of HN.out HB2.out

end Go.Proofs.YtjkmaioidekjcaaDoor.mtypes
