/- Types of methods, changed: the reference's PutType, ChangeType. Condition: the text is not long. -/
import Derived.Test.YtjkmaioidekjcaaDoorMtype9
import Derived.Test.YtjkmaioidekjcaaDoorOwn
namespace Go.Proofs.YtjkmaioidekjcaaDoor.mtypes
open Go.RowKit Go.Proofs.YtjkmaioidekjcaaDoor.lib Go.Proofs.YtjkmaioidekjcaaDoor.errs Go.Proofs.YtjkmaioidekjcaaDoor.names Go.Proofs.YtjkmaioidekjcaaDoor.texts Go.Proofs.YtjkmaioidekjcaaDoor.descs

theorem put_cells (ts : List (List UInt8)) (i : Nat) (t : ByteArray) : (ts.map sv).take i ++ [.string t] ++ (ts.map sv).drop i = (putL ts i t.data.toList).map sv := by
  unfold putL
  rw [List.map_append, List.map_cons, List.map_take, List.map_drop, List.append_assoc]; rfl
theorem set_cells (ts : List (List UInt8)) (i : Nat) (t : ByteArray) : (ts.map sv).set i (.string t) = (ts.set i t.data.toList).map sv := by rw [List.map_set]; rfl

set_option maxRecDepth 100000 in
set_option maxHeartbeats 4000000 in
theorem putType_any (M : ByteArray) (n : Int) (t : ByteArray) (w : World) (hM : M.size ≤ 10000000) (ht : t.size ≤ 9223372036854775807) :
    Calls Tryd.prog 46 #[.string M, .int .i64 n, .string t] w (Said w (putOf M.data.toList n t.data.toList)) := by
  cases hm : methodOf M.data.toList with
  | none =>
    have HM := hid hm
    have HN : Hid (putOf M.data.toList n t.data.toList = (1, [])) := hid (by simp only [putOf, hm])
    clear hm
    go_enter Tryd.func46, Tryd.ntmps46
    go_wp2_with fail
    refine (methodOf_any M _ hM).mono ?_
    intro e w1 h1
    obtain ⟨rfl, hb1⟩ := methodSaid_none HM.out h1
    clear h1
    go_wp2
    go_ret2
    exact said_of HN.out hb1
  | some r =>
    obtain ⟨ts, g⟩ := r
    have HM := hid hm
    obtain ⟨hn5, _, _⟩ := types_small hm
    by_cases hr : n < 0 ∨ (ts.length : Int) < n
    · have HN : Hid (putOf M.data.toList n t.data.toList = (2, [])) := hid (by simp only [putOf, hm, if_pos hr])
      have HR := hid hr
      clear hm hr
      go_enter Tryd.func46, Tryd.ntmps46
      go_wp2_with fail
      refine (methodOf_any M _ hM).mono ?_
      intro e w1 h1
      obtain ⟨v, rfl, ho⟩ := methodSaid_some HM.out h1
      have HS := hid ho.sl
      have HB1 := hid ho.below
      obtain ⟨a1, c1, rfl⟩ := ho.sl.val
      clear h1 ho
      by_cases hlt : n < 0
      · go_wp2
        go_ret2
        exact said_of HN.out HB1.out
      · have hge : (ts.length : Int) < n := HR.out.elim (fun h => absurd h hlt) id
        go_wp2
        go_ret2
        exact said_of HN.out HB1.out
    · obtain ⟨i, rfl⟩ : ∃ i : Nat, n = (i : Int) := ⟨n.toNat, by omega⟩
      have hi : i ≤ ts.length := by omega
      have k0 : ¬ (i : Int) < 0 := by omega
      have k1 : ¬ (ts.length : Int) < (i : Int) := by omega
      cases hT : isTy t.data.toList with
      | false =>
        have HN : Hid (putOf M.data.toList (i : Int) t.data.toList = (1, [])) := hid (by simp only [putOf, hm, if_neg hr, hT, Bool.false_eq_true, if_false])
        have HT := hid hT
        clear hm hr hT
        go_enter Tryd.func46, Tryd.ntmps46
        go_wp2_with fail
        refine (methodOf_any M _ hM).mono ?_
        intro e w1 h1
        obtain ⟨v, rfl, ho⟩ := methodSaid_some HM.out h1
        have HS := hid ho.sl
        have HB1 := hid ho.below
        obtain ⟨a1, c1, rfl⟩ := ho.sl.val
        clear h1 ho
        go_wp2_with fail
        refine (isType_any t _ ht).mono ?_
        rintro e wt ⟨rfl, rfl⟩
        rw [HT.out]
        go_wp2
        go_ret2
        exact said_of HN.out HB1.out
      | true =>
        have hN : putOf M.data.toList (i : Int) t.data.toList = if ts.length = 5 then (4, []) else (0, makeText (putL ts i t.data.toList) g) := by simp only [putOf, hm, if_neg hr, hT, if_true, Int.toNat_natCast]
        obtain ⟨_, hF⟩ := fault_put (g := g) hm hT hi
        have HT := hid hT
        by_cases h5 : ts.length = 5
        · have HN : Hid (putOf M.data.toList (i : Int) t.data.toList = (4, [])) := hid (by rw [hN, if_pos h5])
          have h5i : (5 : Int) ≤ (ts.length : Int) := by omega
          clear hm hr hT hN hF h5
          go_enter Tryd.func46, Tryd.ntmps46
          go_wp2_with fail
          refine (methodOf_any M _ hM).mono ?_
          intro e w1 h1
          obtain ⟨v, rfl, ho⟩ := methodSaid_some HM.out h1
          have HS := hid ho.sl
          have HB1 := hid ho.below
          obtain ⟨a1, c1, rfl⟩ := ho.sl.val
          clear h1 ho
          go_wp2_with fail
          refine (isType_any t _ ht).mono ?_
          rintro e wt ⟨rfl, rfl⟩
          rw [HT.out]
          go_wp2
          go_ret2
          exact said_of HN.out HB1.out
        · have HN : Hid (putOf M.data.toList (i : Int) t.data.toList = (0, makeText (putL ts i t.data.toList) g)) := hid (by rw [hN, if_neg h5])
          have HF : Hid (makeFault (putL ts i t.data.toList) g = 0) := hid (by rw [hF, if_neg h5])
          have h5i : ¬ (5 : Int) ≤ (ts.length : Int) := by omega
          have O1 := hid (fun u hu => one_sv ts u (List.mem_of_mem_take (i := i) hu))
          have O2 := hid (fun u hu => one_sv ts u (List.mem_of_mem_drop (i := i) hu))
          have HEL := hid (show (putL ts i t.data.toList).length = i + 1 + (ts.length - i) from by rw [putL_len _ hi]; omega)
          have HEC := hid (put_cells ts i t)
          clear hm hr hT hN hF h5
          go_enter Tryd.func46, Tryd.ntmps46
          go_wp2_with fail
          refine (methodOf_any M _ hM).mono ?_
          intro e w1 h1
          obtain ⟨v, rfl, ho⟩ := methodSaid_some HM.out h1
          have HS := hid ho.sl
          have HB1 := hid ho.below
          have hown := ho.own.2
          obtain ⟨a1, c1, rfl⟩ := ho.sl.val
          clear h1 ho
          rcases hown with ⟨hv0, h00⟩ | ⟨g0, cap0, cur0, hv0, _, _, hcap, _⟩
          · simp only [Value.slice.injEq] at hv0
            obtain ⟨rfl, _, rfl⟩ := hv0
            obtain rfl : ts = [] := List.eq_nil_of_length_eq_zero h00
            obtain rfl : i = 0 := by simpa using hi
            have HMD := hid (Out.made w1 9 1)
            have HFD := hid (show Sl (w1.alloc (.cells #[] 9)) (.slice none 0 0) 0 1 [] from ⟨rfl, _, _, rfl, Nat.le_refl _, .inl rfl⟩)
            have HB0 := hid (show Sl w1 (.slice none 0 0) 0 1 [] from ⟨rfl, _, _, rfl, Nat.le_refl _, .inl rfl⟩)
            have O1 : Hid (∀ u ∈ ([] : List Value), u.oneCell' = true) := hid (fun u hu => by cases hu)
            have O2 : Hid (∀ u ∈ ([] : List Value), u.oneCell' = true) := hid (fun u hu => by cases hu)
            go_wp2_with fail
            refine (isType_any t _ ht).mono ?_
            rintro e wt ⟨rfl, rfl⟩
            rw [HT.out]
            go_wp2_with (at_builtin; refine wpList_append_src w1 _ rfl _ _ 40 rfl 9 (.string { data := #[] }) 1 16 0 Tryd.underlying40 infoStr rfl (by decide) _ _ _ HMD.out rfl _ _ HFD.out rfl O1.out ?_ ?_ ?_)
            all_goals first | (intro v3 w3 ho3 hg3) | omega | skip
            have HO3 := hid (show Out w1 w3 9 1 v3 0 ([]) from by simpa using ho3)
            clear ho3 hg3
            go_wp2_with (at_builtin; refine wpList_append_lit w1 w3 _ rfl _ _ 40 rfl 9 (.string { data := #[] }) 1 16 1 Tryd.underlying40 infoStr rfl (by decide) _ _ _ HO3.out rfl rfl rfl ?_ ?_ ?_ ?_)
            all_goals first | (intro v4 w4 ho4 hg4) | omega | (simp [Value.oneCell']; done) | skip
            have HO4 := hid ho4
            have HB4 := hid (HB0.out.below ho4.below)
            clear ho4 hg4
            go_wp2_with (at_builtin; refine wpList_append_src w1 w4 rfl _ _ 40 rfl 9 (.string { data := #[] }) 1 16 0 Tryd.underlying40 infoStr rfl (by decide) _ _ _ HO4.out rfl _ _ HB4.out rfl O2.out ?_ ?_ ?_)
            all_goals first | (intro v5 w5 ho5 hg5) | omega | skip
            have HO5 := hid (show Out w1 w5 9 1 v5 (putL [] 0 t.data.toList).length ((putL [] 0 t.data.toList).map sv) from by rw [HEL.out, ← HEC.out]; simpa using ho5)
            have HS5 := hid HO5.out.sl
            have HB5 := hid (HB1.out.trans (HO5.out.below.mono HB1.out.size))
            obtain ⟨a5, c5, hv5⟩ := HS5.out.val
            subst hv5
            clear ho5 hg5
            go_wp2_with fail
            refine (text_types _ (putL [] 0 t.data.toList) g _ HS5.out HF.out).mono ?_
            rintro e w6 ⟨rfl, rfl⟩
            go_wp2
            go_ret2
            exact said_of HN.out HB5.out
          · simp only [Value.slice.injEq] at hv0
            obtain ⟨rfl, _, rfl⟩ := hv0
            have hF0 := HS.out.take i hi
            have hB0 := HS.out.drop i hi
            rw [Nat.mul_one] at hF0 hB0
            have k3 : (i : Int) ≤ (c1 : Int) := by omega
            have k4 : (0 : Int) ≤ (i : Int) := by omega
            have k5 : (i : Int) ≤ (ts.length : Int) := by omega
            have k6 : (ts.length : Int) ≤ (c1 : Int) := by omega
            obtain ⟨v2, hv2, hB2⟩ : ∃ v2, Value.slice (if c1 = i then some ⟨g0, 0, none⟩ else some ⟨g0, i, none⟩) (ts.length - i) (c1 - i) = v2 ∧ Sl w1 v2 (ts.length - i) 1 ((ts.map sv).drop i) := ⟨_, rfl, by
              by_cases h : c1 = i
              · rw [if_pos h] at hB0 ⊢; exact hB0
              · rw [if_neg h] at hB0 ⊢; simpa [Addr.add_lit] using hB0⟩
            have HF0 := hid hF0; have HB0 := hid hB2
            have HMD := hid (Out.made w1 9 1)
            have HFD := hid (hF0.below HMD.out.below)
            clear hF0 hB0 hB2
            go_wp2_with fail
            refine (isType_any t _ ht).mono ?_
            rintro e wt ⟨rfl, rfl⟩
            rw [HT.out]
            go_wp2_with (at_builtin; refine wpList_append_src w1 _ rfl _ _ 40 rfl 9 (.string { data := #[] }) 1 16 i Tryd.underlying40 infoStr rfl (by decide) _ _ _ HMD.out rfl _ _ HFD.out rfl O1.out ?_ ?_ ?_)
            all_goals first | (intro v3 w3 ho3 hg3) | omega | skip
            have HO3 := hid (show Out w1 w3 9 1 v3 i ((ts.map sv).take i) from by simpa using ho3)
            clear ho3 hg3
            go_wp2_with (at_builtin; refine wpList_append_lit w1 w3 _ rfl _ _ 40 rfl 9 (.string { data := #[] }) 1 16 1 Tryd.underlying40 infoStr rfl (by decide) _ _ _ HO3.out rfl rfl rfl ?_ ?_ ?_ ?_)
            all_goals first | (intro v4 w4 ho4 hg4) | omega | (simp [Value.oneCell']; done) | skip
            have HO4 := hid ho4
            have HB4 := hid (HB0.out.below ho4.below)
            clear ho4 hg4
            go_wp2_with (at_builtin; refine wpList_append_src w1 w4 rfl _ _ 40 rfl 9 (.string { data := #[] }) 1 16 (ts.length - i) Tryd.underlying40 infoStr rfl (by decide) _ _ _ HO4.out rfl _ _ HB4.out rfl O2.out ?_ ?_ ?_)
            all_goals first | (intro v5 w5 ho5 hg5) | omega | skip
            have HO5 := hid (show Out w1 w5 9 1 v5 (putL ts i t.data.toList).length ((putL ts i t.data.toList).map sv) from by rw [HEL.out, ← HEC.out]; simpa using ho5)
            have HS5 := hid HO5.out.sl
            have HB5 := hid (HB1.out.trans (HO5.out.below.mono HB1.out.size))
            obtain ⟨a5, c5, hv5⟩ := HS5.out.val
            subst hv5
            clear ho5 hg5
            go_wp2_with fail
            refine (text_types _ (putL ts i t.data.toList) g _ HS5.out HF.out).mono ?_
            rintro e w6 ⟨rfl, rfl⟩
            go_wp2
            go_ret2
            exact said_of HN.out HB5.out

end Go.Proofs.YtjkmaioidekjcaaDoor.mtypes
