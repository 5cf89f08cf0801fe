/- Types of methods, changed: the reference's without, DropType. Condition: the text is not long. -/
import Derived.Test.YtogpgfaojmmemaaGreatDoorMtype7
import Derived.Test.YtogpgfaojmmemaaGreatDoorSrc
import Derived.Test.YtogpgfaojmmemaaGreatDoorMtypeP
import Derived.Test.YtogpgfaojmmemaaGreatDoorOwn
namespace Go.Proofs.YtogpgfaojmmemaaGreatDoor.mtypes
open Go.RowKit Go.Proofs.YtogpgfaojmmemaaGreatDoor.lib Go.Proofs.YtogpgfaojmmemaaGreatDoor.errs Go.Proofs.YtogpgfaojmmemaaGreatDoor.names Go.Proofs.YtogpgfaojmmemaaGreatDoor.texts Go.Proofs.YtogpgfaojmmemaaGreatDoor.descs

theorem one_sv (ts : List (List UInt8)) : ∀ u ∈ ts.map sv, u.oneCell' = true := fun u hu => by
  obtain ⟨t, _, rfl⟩ := List.mem_map.1 hu
  rfl
theorem erase_cells (ts : List (List UInt8)) (i : Nat) : (ts.map sv).take i ++ (ts.map sv).drop (i + 1) = (ts.eraseIdx i).map sv := by
  rw [← List.map_take, ← List.map_drop, ← List.map_append, List.eraseIdx_eq_take_drop_succ]

set_option maxRecDepth 100000 in
set_option maxHeartbeats 1000000 in
theorem without_any (va : Value) (ts : List (List UInt8)) (i : Nat) (w : World) (ha : Sl w va ts.length 1 (ts.map sv)) (hi : i < ts.length) (h5 : ts.length ≤ 5) :
    Calls Tryz.prog 102 #[va, .int .i64 (i : Int)] w fun e w' => ∃ v, e = .returned v ∧ Sl w' v (ts.eraseIdx i).length 1 ((ts.eraseIdx i).map sv) ∧ Below w.heap.size w w' := by
  obtain ⟨a, c, rfl⟩ := ha.val
  obtain ⟨b, off, rfl, _⟩ := sl_sv ha hi
  obtain ⟨_, hcap⟩ := ha.cap
  have hF := ha.take i (by omega)
  have hB := ha.drop (i + 1) (by omega)
  rw [Nat.mul_one] at hF hB
  have hEl : (ts.eraseIdx i).length = i + (ts.length - (i + 1)) := by rw [List.length_eraseIdx_of_lt hi]; omega
  have HEC := hid (erase_cells ts i)
  have HEL := hid hEl
  have O1 := hid (fun u hu => one_sv ts u (List.mem_of_mem_take (i := i) hu))
  have O2 := hid (fun u hu => one_sv ts u (List.mem_of_mem_drop (i := i + 1) hu))
  have hM := Out.made w 9 1
  have HM := hid hM
  have k2 : (0 : Int) ≤ (i : Int) := by omega
  have k3 : (i : Int) ≤ (c : Int) := by omega
  have k4 : (i : Int) + 1 ≤ (ts.length : Int) := by omega
  have k5 : (0 : Int) ≤ (i : Int) + 1 := by omega
  have k7 : ((i : Int) + 1).toNat = i + 1 := by omega
  have k8 : IntKind.i64.wrap ((i : Int) + 1) = (i : Int) + 1 := by rw [IntKind.wrap_i64]; omega
  have k6 : (ts.length : Int) ≤ (c : Int) := by omega
  obtain ⟨v2, hv2, hB2⟩ : ∃ v2, Value.slice (if c = i + 1 then some ⟨b, off, none⟩ else some ⟨b, off + (i + 1), none⟩) (ts.length - (i + 1)) (c - (i + 1)) = v2 ∧ Sl w v2 (ts.length - (i + 1)) 1 ((ts.map sv).drop (i + 1)) := ⟨_, rfl, by
    by_cases h : c = i + 1
    · rw [if_pos h] at hB ⊢; exact hB
    · rw [if_neg h] at hB ⊢; simpa [Addr.add_lit] using hB⟩
  have HF := hid hF; have HB := hid hB2
  have HMD := hid hM.drew
  have HFD := hid (hF.below hM.drew.below)
  clear ha hF hB hB2 hM hEl
  go_enter Tryz.func102, Tryz.ntmps102
  go_wp2_with fail
  go_region_law (first | refine step_append_src w _ rfl _ _ 30 rfl 9 (.string { data := #[] }) 1 16 i Tryz.underlying30 infoStr rfl (by decide) _ _ _ HMD.out rfl _ _ HFD.out rfl O1.out (by omega) (by omega) (fun v' w' ho hg => ?_) | refine step_append_src w _ rfl _ _ 30 rfl 9 (.string { data := #[] }) 1 16 (ts.length - (i + 1)) Tryz.underlying30 infoStr rfl (by decide) _ _ _ ho rfl _ _ (HB.out.below ho.below) rfl O2.out (by omega) (by omega) (fun v'' w'' ho2 hg2 => ?_))
  have HO := hid (show Out w w'' 9 1 v'' (ts.eraseIdx i).length ((ts.eraseIdx i).map sv) from by rw [← HEC.out, HEL.out]; simpa using ho2)
  clear ho ho2 hg hg2
  go_wp2
  go_ret
  exact ⟨_, rfl, HO.out.sl, HO.out.below⟩

/-- what the reference's functions answer: a text, and a code -/
def Said (w : World) (r : Int × List UInt8) (e : Ending) (w' : World) : Prop := e = .returned (.tuple #[.string (bs r.2), .int .i64 r.1]) ∧ Below w.heap.size w w'
theorem said_of {w w' : World} {r : Int × List UInt8} {z : Int} {l : List UInt8} (h : r = (z, l)) (hb : Below w.heap.size w w') : Said w r (.returned (.tuple #[.string (bs l), .int .i64 z])) w' := by
  subst h; exact ⟨rfl, hb⟩

set_option maxRecDepth 100000 in
set_option maxHeartbeats 2000000 in
theorem dropType_any (M : ByteArray) (n : Int) (w : World) (hM : M.size ≤ 10000000) :
    Calls Tryz.prog 62 #[.string M, .int .i64 n] w (Said w (dropOf M.data.toList n)) := by
  cases hm : methodOf M.data.toList with
  | none =>
    have HM := hid hm
    have HN : Hid (dropOf M.data.toList n = (1, [])) := hid (by simp only [dropOf, hm])
    clear hm
    go_enter Tryz.func62, Tryz.ntmps62
    go_wp2_with fail
    refine (methodOf_any M _ hM).mono ?_
    intro e w1 h1
    obtain ⟨rfl, hb1⟩ := methodSaid_none HM.out h1
    clear h1
    go_wp2
    go_ret2
    exact said_of HN.out hb1
  | some r =>
    obtain ⟨ts, g⟩ := r
    have HM := hid hm
    obtain ⟨hn5, _, _⟩ := types_small hm
    by_cases hr : n < 0 ∨ (ts.length : Int) ≤ n
    · have HN : Hid (dropOf M.data.toList n = (2, [])) := hid (by simp only [dropOf, hm, if_pos hr])
      have HR := hid hr
      clear hm hr
      go_enter Tryz.func62, Tryz.ntmps62
      go_wp2_with fail
      refine (methodOf_any M _ hM).mono ?_
      intro e w1 h1
      obtain ⟨v, rfl, ho⟩ := methodSaid_some HM.out h1
      have hb1 := ho.below
      obtain ⟨a1, c1, rfl⟩ := ho.sl.val
      clear h1 ho
      by_cases hlt : n < 0
      · go_wp2
        go_ret2
        exact said_of HN.out hb1
      · have hge : (ts.length : Int) ≤ n := HR.out.elim (fun h => absurd h hlt) id
        go_wp2
        go_ret2
        exact said_of HN.out hb1
    · obtain ⟨i, rfl⟩ : ∃ i : Nat, n = (i : Int) := ⟨n.toNat, by omega⟩
      have hi : i < ts.length := by omega
      have HN : Hid (dropOf M.data.toList (i : Int) = (0, makeText (ts.eraseIdx i) g)) := hid (by simp only [dropOf, hm, if_neg hr, Int.toNat_natCast])
      have HF := hid (fault_erase (i := i) hm).1
      have k0 : ¬ (i : Int) < 0 := by omega
      have k1 : ¬ (ts.length : Int) ≤ (i : Int) := by omega
      clear hm hr
      go_enter Tryz.func62, Tryz.ntmps62
      go_wp2_with fail
      refine (methodOf_any M _ hM).mono ?_
      intro e w1 h1
      obtain ⟨v, rfl, ho⟩ := methodSaid_some HM.out h1
      have HS := hid ho.sl
      have HB1 := hid ho.below
      obtain ⟨a1, c1, rfl⟩ := ho.sl.val
      clear h1 ho
      go_wp2_with fail
      refine (without_any _ ts i _ HS.out hi hn5).mono ?_
      rintro e w2 ⟨v2, rfl, hs2, hb2⟩
      have HS2 := hid hs2
      have HB2 := hid (HB1.out.trans (hb2.mono HB1.out.size))
      obtain ⟨a2, c2, rfl⟩ := hs2.val
      clear hs2 hb2
      go_wp2_with fail
      refine (text_types _ (ts.eraseIdx i) g _ HS2.out HF.out).mono ?_
      rintro e w3 ⟨rfl, rfl⟩
      go_wp2
      go_ret2
      exact said_of HN.out HB2.out

end Go.Proofs.YtogpgfaojmmemaaGreatDoor.mtypes

/- Types of methods, changed: the reference's PutType, ChangeType. Condition: the text is not long. -/
namespace Go.Proofs.YtogpgfaojmmemaaGreatDoor.mtypes
open Go.RowKit Go.Proofs.YtogpgfaojmmemaaGreatDoor.lib Go.Proofs.YtogpgfaojmmemaaGreatDoor.errs Go.Proofs.YtogpgfaojmmemaaGreatDoor.names Go.Proofs.YtogpgfaojmmemaaGreatDoor.texts Go.Proofs.YtogpgfaojmmemaaGreatDoor.descs

theorem put_cells (ts : List (List UInt8)) (i : Nat) (t : ByteArray) : (ts.map sv).take i ++ [.string t] ++ (ts.map sv).drop i = (putL ts i t.data.toList).map sv := by
  unfold putL
  rw [List.map_append, List.map_cons, List.map_take, List.map_drop, List.append_assoc]; rfl
theorem set_cells (ts : List (List UInt8)) (i : Nat) (t : ByteArray) : (ts.map sv).set i (.string t) = (ts.set i t.data.toList).map sv := by rw [List.map_set]; rfl

set_option maxRecDepth 100000 in
set_option maxHeartbeats 4000000 in
theorem putType_any (M : ByteArray) (n : Int) (t : ByteArray) (w : World) (hM : M.size ≤ 10000000) (ht : t.size ≤ 9223372036854775807) :
    Calls Tryz.prog 60 #[.string M, .int .i64 n, .string t] w (Said w (putOf M.data.toList n t.data.toList)) := by
  cases hm : methodOf M.data.toList with
  | none =>
    have HM := hid hm
    have HN : Hid (putOf M.data.toList n t.data.toList = (1, [])) := hid (by simp only [putOf, hm])
    clear hm
    go_enter Tryz.func60, Tryz.ntmps60
    go_wp2_with fail
    refine (methodOf_any M _ hM).mono ?_
    intro e w1 h1
    obtain ⟨rfl, hb1⟩ := methodSaid_none HM.out h1
    clear h1
    go_wp2
    go_ret2
    exact said_of HN.out hb1
  | some r =>
    obtain ⟨ts, g⟩ := r
    have HM := hid hm
    obtain ⟨hn5, _, _⟩ := types_small hm
    by_cases hr : n < 0 ∨ (ts.length : Int) < n
    · have HN : Hid (putOf M.data.toList n t.data.toList = (2, [])) := hid (by simp only [putOf, hm, if_pos hr])
      have HR := hid hr
      clear hm hr
      go_enter Tryz.func60, Tryz.ntmps60
      go_wp2_with fail
      refine (methodOf_any M _ hM).mono ?_
      intro e w1 h1
      obtain ⟨v, rfl, ho⟩ := methodSaid_some HM.out h1
      have HS := hid ho.sl
      have HB1 := hid ho.below
      obtain ⟨a1, c1, rfl⟩ := ho.sl.val
      clear h1 ho
      by_cases hlt : n < 0
      · go_wp2
        go_ret2
        exact said_of HN.out HB1.out
      · have hge : (ts.length : Int) < n := HR.out.elim (fun h => absurd h hlt) id
        go_wp2
        go_ret2
        exact said_of HN.out HB1.out
    · obtain ⟨i, rfl⟩ : ∃ i : Nat, n = (i : Int) := ⟨n.toNat, by omega⟩
      have hi : i ≤ ts.length := by omega
      have k0 : ¬ (i : Int) < 0 := by omega
      have k1 : ¬ (ts.length : Int) < (i : Int) := by omega
      cases hT : isTy t.data.toList with
      | false =>
        have HN : Hid (putOf M.data.toList (i : Int) t.data.toList = (1, [])) := hid (by simp only [putOf, hm, if_neg hr, hT, Bool.false_eq_true, if_false])
        have HT := hid hT
        clear hm hr hT
        go_enter Tryz.func60, Tryz.ntmps60
        go_wp2_with fail
        refine (methodOf_any M _ hM).mono ?_
        intro e w1 h1
        obtain ⟨v, rfl, ho⟩ := methodSaid_some HM.out h1
        have HS := hid ho.sl
        have HB1 := hid ho.below
        obtain ⟨a1, c1, rfl⟩ := ho.sl.val
        clear h1 ho
        go_wp2_with fail
        refine (isType_any t _ ht).mono ?_
        rintro e wt ⟨rfl, rfl⟩
        rw [HT.out]
        go_wp2
        go_ret2
        exact said_of HN.out HB1.out
      | true =>
        have hN : putOf M.data.toList (i : Int) t.data.toList = if ts.length = 5 then (4, []) else (0, makeText (putL ts i t.data.toList) g) := by simp only [putOf, hm, if_neg hr, hT, if_true, Int.toNat_natCast]
        obtain ⟨_, hF⟩ := fault_put (g := g) hm hT hi
        have HT := hid hT
        by_cases h5 : ts.length = 5
        · have HN : Hid (putOf M.data.toList (i : Int) t.data.toList = (4, [])) := hid (by rw [hN, if_pos h5])
          have h5i : (5 : Int) ≤ (ts.length : Int) := by omega
          clear hm hr hT hN hF h5
          go_enter Tryz.func60, Tryz.ntmps60
          go_wp2_with fail
          refine (methodOf_any M _ hM).mono ?_
          intro e w1 h1
          obtain ⟨v, rfl, ho⟩ := methodSaid_some HM.out h1
          have HS := hid ho.sl
          have HB1 := hid ho.below
          obtain ⟨a1, c1, rfl⟩ := ho.sl.val
          clear h1 ho
          go_wp2_with fail
          refine (isType_any t _ ht).mono ?_
          rintro e wt ⟨rfl, rfl⟩
          rw [HT.out]
          go_wp2
          go_ret2
          exact said_of HN.out HB1.out
        · have HN : Hid (putOf M.data.toList (i : Int) t.data.toList = (0, makeText (putL ts i t.data.toList) g)) := hid (by rw [hN, if_neg h5])
          have HF : Hid (makeFault (putL ts i t.data.toList) g = 0) := hid (by rw [hF, if_neg h5])
          have h5i : ¬ (5 : Int) ≤ (ts.length : Int) := by omega
          have O1 := hid (fun u hu => one_sv ts u (List.mem_of_mem_take (i := i) hu))
          have O2 := hid (fun u hu => one_sv ts u (List.mem_of_mem_drop (i := i) hu))
          have HEL := hid (show (putL ts i t.data.toList).length = i + 1 + (ts.length - i) from by rw [putL_len _ hi]; omega)
          have HEC := hid (put_cells ts i t)
          clear hm hr hT hN hF h5
          go_enter Tryz.func60, Tryz.ntmps60
          go_wp2_with fail
          refine (methodOf_any M _ hM).mono ?_
          intro e w1 h1
          obtain ⟨v, rfl, ho⟩ := methodSaid_some HM.out h1
          have HS := hid ho.sl
          have HB1 := hid ho.below
          have hown := ho.own.2
          obtain ⟨a1, c1, rfl⟩ := ho.sl.val
          clear h1 ho
          rcases hown with ⟨hv0, h00⟩ | ⟨g0, cap0, cur0, hv0, _, _, hcap, _⟩
          · simp only [Value.slice.injEq] at hv0
            obtain ⟨rfl, _, rfl⟩ := hv0
            obtain rfl : ts = [] := List.eq_nil_of_length_eq_zero h00
            obtain rfl : i = 0 := by simpa using hi
            have HMD := hid (Out.made w1 9 1)
            have HFD := hid (show Sl (w1.alloc (.cells #[] 9)) (.slice none 0 0) 0 1 [] from ⟨rfl, _, _, rfl, Nat.le_refl _, .inl rfl⟩)
            have HB0 := hid (show Sl w1 (.slice none 0 0) 0 1 [] from ⟨rfl, _, _, rfl, Nat.le_refl _, .inl rfl⟩)
            have O1 : Hid (∀ u ∈ ([] : List Value), u.oneCell' = true) := hid (fun u hu => by cases hu)
            have O2 : Hid (∀ u ∈ ([] : List Value), u.oneCell' = true) := hid (fun u hu => by cases hu)
            go_wp2_with fail
            refine (isType_any t _ ht).mono ?_
            rintro e wt ⟨rfl, rfl⟩
            rw [HT.out]
            go_wp2_with (at_builtin; refine wpList_append_src w1 _ rfl _ _ 30 rfl 9 (.string { data := #[] }) 1 16 0 Tryz.underlying30 infoStr rfl (by decide) _ _ _ HMD.out rfl _ _ HFD.out rfl O1.out ?_ ?_ ?_)
            all_goals first | (intro v3 w3 ho3 hg3) | omega | skip
            have HO3 := hid (show Out w1 w3 9 1 v3 0 ([]) from by simpa using ho3)
            clear ho3 hg3
            go_wp2_with (at_builtin; refine wpList_append_lit w1 w3 _ rfl _ _ 30 rfl 9 (.string { data := #[] }) 1 16 1 Tryz.underlying30 infoStr rfl (by decide) _ _ _ HO3.out rfl rfl rfl ?_ ?_ ?_ ?_)
            all_goals first | (intro v4 w4 ho4 hg4) | omega | (simp [Value.oneCell']; done) | skip
            have HO4 := hid ho4
            have HB4 := hid (HB0.out.below ho4.below)
            clear ho4 hg4
            go_wp2_with (at_builtin; refine wpList_append_src w1 w4 rfl _ _ 30 rfl 9 (.string { data := #[] }) 1 16 0 Tryz.underlying30 infoStr rfl (by decide) _ _ _ HO4.out rfl _ _ HB4.out rfl O2.out ?_ ?_ ?_)
            all_goals first | (intro v5 w5 ho5 hg5) | omega | skip
            have HO5 := hid (show Out w1 w5 9 1 v5 (putL [] 0 t.data.toList).length ((putL [] 0 t.data.toList).map sv) from by rw [HEL.out, ← HEC.out]; simpa using ho5)
            have HS5 := hid HO5.out.sl
            have HB5 := hid (HB1.out.trans (HO5.out.below.mono HB1.out.size))
            obtain ⟨a5, c5, hv5⟩ := HS5.out.val
            subst hv5
            clear ho5 hg5
            go_wp2_with fail
            refine (text_types _ (putL [] 0 t.data.toList) g _ HS5.out HF.out).mono ?_
            rintro e w6 ⟨rfl, rfl⟩
            go_wp2
            go_ret2
            exact said_of HN.out HB5.out
          · simp only [Value.slice.injEq] at hv0
            obtain ⟨rfl, _, rfl⟩ := hv0
            have hF0 := HS.out.take i hi
            have hB0 := HS.out.drop i hi
            rw [Nat.mul_one] at hF0 hB0
            have k3 : (i : Int) ≤ (c1 : Int) := by omega
            have k4 : (0 : Int) ≤ (i : Int) := by omega
            have k5 : (i : Int) ≤ (ts.length : Int) := by omega
            have k6 : (ts.length : Int) ≤ (c1 : Int) := by omega
            obtain ⟨v2, hv2, hB2⟩ : ∃ v2, Value.slice (if c1 = i then some ⟨g0, 0, none⟩ else some ⟨g0, i, none⟩) (ts.length - i) (c1 - i) = v2 ∧ Sl w1 v2 (ts.length - i) 1 ((ts.map sv).drop i) := ⟨_, rfl, by
              by_cases h : c1 = i
              · rw [if_pos h] at hB0 ⊢; exact hB0
              · rw [if_neg h] at hB0 ⊢; simpa [Addr.add_lit] using hB0⟩
            have HF0 := hid hF0; have HB0 := hid hB2
            have HMD := hid (Out.made w1 9 1)
            have HFD := hid (hF0.below HMD.out.below)
            clear hF0 hB0 hB2
            go_wp2_with fail
            refine (isType_any t _ ht).mono ?_
            rintro e wt ⟨rfl, rfl⟩
            rw [HT.out]
            go_wp2_with (at_builtin; refine wpList_append_src w1 _ rfl _ _ 30 rfl 9 (.string { data := #[] }) 1 16 i Tryz.underlying30 infoStr rfl (by decide) _ _ _ HMD.out rfl _ _ HFD.out rfl O1.out ?_ ?_ ?_)
            all_goals first | (intro v3 w3 ho3 hg3) | omega | skip
            have HO3 := hid (show Out w1 w3 9 1 v3 i ((ts.map sv).take i) from by simpa using ho3)
            clear ho3 hg3
            go_wp2_with (at_builtin; refine wpList_append_lit w1 w3 _ rfl _ _ 30 rfl 9 (.string { data := #[] }) 1 16 1 Tryz.underlying30 infoStr rfl (by decide) _ _ _ HO3.out rfl rfl rfl ?_ ?_ ?_ ?_)
            all_goals first | (intro v4 w4 ho4 hg4) | omega | (simp [Value.oneCell']; done) | skip
            have HO4 := hid ho4
            have HB4 := hid (HB0.out.below ho4.below)
            clear ho4 hg4
            go_wp2_with (at_builtin; refine wpList_append_src w1 w4 rfl _ _ 30 rfl 9 (.string { data := #[] }) 1 16 (ts.length - i) Tryz.underlying30 infoStr rfl (by decide) _ _ _ HO4.out rfl _ _ HB4.out rfl O2.out ?_ ?_ ?_)
            all_goals first | (intro v5 w5 ho5 hg5) | omega | skip
            have HO5 := hid (show Out w1 w5 9 1 v5 (putL ts i t.data.toList).length ((putL ts i t.data.toList).map sv) from by rw [HEL.out, ← HEC.out]; simpa using ho5)
            have HS5 := hid HO5.out.sl
            have HB5 := hid (HB1.out.trans (HO5.out.below.mono HB1.out.size))
            obtain ⟨a5, c5, hv5⟩ := HS5.out.val
            subst hv5
            clear ho5 hg5
            go_wp2_with fail
            refine (text_types _ (putL ts i t.data.toList) g _ HS5.out HF.out).mono ?_
            rintro e w6 ⟨rfl, rfl⟩
            go_wp2
            go_ret2
            exact said_of HN.out HB5.out

end Go.Proofs.YtogpgfaojmmemaaGreatDoor.mtypes

/- Types of methods, changed: the reference's ChangeType, PermuteType. Condition: the text is not long. -/
namespace Go.Proofs.YtogpgfaojmmemaaGreatDoor.mtypes
open Go.RowKit Go.Proofs.YtogpgfaojmmemaaGreatDoor.lib Go.Proofs.YtogpgfaojmmemaaGreatDoor.errs Go.Proofs.YtogpgfaojmmemaaGreatDoor.names Go.Proofs.YtogpgfaojmmemaaGreatDoor.texts Go.Proofs.YtogpgfaojmmemaaGreatDoor.descs

set_option maxRecDepth 100000 in
set_option maxHeartbeats 4000000 in
theorem changeType_any (M : ByteArray) (n : Int) (t : ByteArray) (w : World) (hM : M.size ≤ 10000000) (ht : t.size ≤ 9223372036854775807) :
    Calls Tryz.prog 63 #[.string M, .int .i64 n, .string t] w (Said w (changeOf M.data.toList n t.data.toList)) := by
  cases hm : methodOf M.data.toList with
  | none =>
    have HM := hid hm
    have HN : Hid (changeOf M.data.toList n t.data.toList = (1, [])) := hid (by simp only [changeOf, hm])
    clear hm
    go_enter Tryz.func63, Tryz.ntmps63
    go_wp2_with fail
    refine (methodOf_any M _ hM).mono ?_
    intro e w1 h1
    obtain ⟨rfl, hb1⟩ := methodSaid_none HM.out h1
    clear h1
    go_wp2
    go_ret2
    exact said_of HN.out hb1
  | some r =>
    obtain ⟨ts, g⟩ := r
    have HM := hid hm
    obtain ⟨hn5, _, _⟩ := types_small hm
    by_cases hr : n < 0 ∨ (ts.length : Int) ≤ n
    · have HN : Hid (changeOf M.data.toList n t.data.toList = (2, [])) := hid (by simp only [changeOf, hm, if_pos hr])
      have HR := hid hr
      clear hm hr
      go_enter Tryz.func63, Tryz.ntmps63
      go_wp2_with fail
      refine (methodOf_any M _ hM).mono ?_
      intro e w1 h1
      obtain ⟨v, rfl, ho⟩ := methodSaid_some HM.out h1
      have HS := hid ho.sl
      have HB1 := hid ho.below
      obtain ⟨a1, c1, rfl⟩ := ho.sl.val
      clear h1 ho
      by_cases hlt : n < 0
      · go_wp2
        go_ret2
        exact said_of HN.out HB1.out
      · have hge : (ts.length : Int) ≤ n := HR.out.elim (fun h => absurd h hlt) id
        go_wp2
        go_ret2
        exact said_of HN.out HB1.out
    · obtain ⟨i, rfl⟩ : ∃ i : Nat, n = (i : Int) := ⟨n.toNat, by omega⟩
      have hi : i < ts.length := by omega
      have k0 : ¬ (i : Int) < 0 := by omega
      have k1 : ¬ (ts.length : Int) ≤ (i : Int) := by omega
      cases hT : isTy t.data.toList with
      | false =>
        have HN : Hid (changeOf M.data.toList (i : Int) t.data.toList = (1, [])) := hid (by simp only [changeOf, hm, if_neg hr, hT, Bool.false_eq_true, if_false])
        have HT := hid hT
        clear hm hr hT
        go_enter Tryz.func63, Tryz.ntmps63
        go_wp2_with fail
        refine (methodOf_any M _ hM).mono ?_
        intro e w1 h1
        obtain ⟨v, rfl, ho⟩ := methodSaid_some HM.out h1
        have HS := hid ho.sl
        have HB1 := hid ho.below
        obtain ⟨a1, c1, rfl⟩ := ho.sl.val
        clear h1 ho
        go_wp2_with fail
        refine (isType_any t _ ht).mono ?_
        rintro e wt ⟨rfl, rfl⟩
        rw [HT.out]
        go_wp2
        go_ret2
        exact said_of HN.out HB1.out
      | true =>
        have HN : Hid (changeOf M.data.toList (i : Int) t.data.toList = (0, makeText (ts.set i t.data.toList) g)) := hid (by simp only [changeOf, hm, if_neg hr, hT, if_true, Int.toNat_natCast])
        have HF := hid (fault_set (i := i) hm hT).1
        have HT := hid hT
        have O1 := hid (one_sv ts)
        have HEC := hid (set_cells ts i t)
        have k4 : (0 : Int) ≤ (i : Int) := by omega
        have k5 : (i : Int) < (ts.length : Int) := by omega
        clear hm hr hT
        go_enter Tryz.func63, Tryz.ntmps63
        go_wp2_with fail
        refine (methodOf_any M _ hM).mono ?_
        intro e w1 h1
        obtain ⟨v, rfl, ho⟩ := methodSaid_some HM.out h1
        have HS := hid ho.sl
        have HB1 := hid ho.below
        obtain ⟨a1, c1, rfl⟩ := ho.sl.val
        clear h1 ho
        have HMD := hid (Out.made w1 9 1)
        have HFD := hid (HS.out.below HMD.out.below)
        go_wp2_with fail
        refine (isType_any t _ ht).mono ?_
        rintro e wt ⟨rfl, rfl⟩
        rw [HT.out]
        go_wp2_with (at_builtin; refine wpList_append_src w1 _ rfl _ _ 30 rfl 9 (.string { data := #[] }) 1 16 ts.length Tryz.underlying30 infoStr rfl (by decide) _ _ _ HMD.out rfl _ _ HFD.out rfl O1.out ?_ ?_ ?_)
        all_goals first | (intro v3 w3 ho3 hg3) | omega | skip
        have HO3 := hid (show Out w1 w3 9 1 v3 ts.length (ts.map sv) from by simpa using ho3)
        clear ho3 hg3
        obtain ⟨gx, capx, ux, hvx, hgx, hcu, hfz, hset⟩ := HO3.out.store hi
        subst hvx
        have HO4 := hid (show Out w1 _ 9 1 _ (ts.set i t.data.toList).length ((ts.set i t.data.toList).map sv) from by rw [List.length_set, ← HEC.out]; exact hset (.string t))
        have HL4 := hid (show (ts.set i t.data.toList).length = ts.length from List.length_set)
        clear hset hgx
        have HB4 := hid (HB1.out.trans (HO4.out.below.mono HB1.out.size))
        have HS4 := hid (show Sl _ (.slice (some ⟨gx, 0, none⟩) ts.length capx) (ts.set i t.data.toList).length 1 ((ts.set i t.data.toList).map sv) from HO4.out.sl)
        go_wp2_with fail
        refine (text_types _ (ts.set i t.data.toList) g _ HS4.out HF.out).mono ?_
        rintro e w6 ⟨rfl, rfl⟩
        go_wp2
        go_ret2
        exact said_of HN.out HB4.out

set_option maxRecDepth 100000 in
set_option maxHeartbeats 4000000 in
theorem permuteType_any (M A : ByteArray) (vz : Value) (zs : List Int) (w : World) (hM : M.size ≤ 10000000) (hA : A.size ≤ 10000000) (hz : Sl w vz zs.length 1 (zs.map (.int .i64))) :
    Calls Tryz.prog 61 #[.string M, vz, .string A] w (Said w (permuteOf M.data.toList A.data.toList zs)) := by
  obtain ⟨b, d, rfl⟩ := hz.val
  have HZ := hid hz
  clear hz
  cases hm : methodOf M.data.toList with
  | none =>
    have HM := hid hm
    have HN : Hid (permuteOf M.data.toList A.data.toList zs = (1, [])) := hid (by simp only [permuteOf, hm])
    clear hm
    go_enter Tryz.func61, Tryz.ntmps61
    go_wp2_with fail
    refine (methodOf_any M _ hM).mono ?_
    intro e w1 h1
    obtain ⟨rfl, hb1⟩ := methodSaid_none HM.out h1
    clear h1
    go_wp2
    go_ret2
    exact said_of HN.out hb1
  | some r =>
    obtain ⟨ts, g⟩ := r
    have HM := hid hm
    obtain ⟨hn5, _, _⟩ := types_small hm
    cases hm2 : methodOf A.data.toList with
    | none =>
      have HM2 := hid hm2
      have HN : Hid (permuteOf M.data.toList A.data.toList zs = (1, [])) := hid (by simp only [permuteOf, hm, hm2])
      clear hm hm2
      go_enter Tryz.func61, Tryz.ntmps61
      go_wp2_with fail
      refine (methodOf_any M _ hM).mono ?_
      intro e w1 h1
      obtain ⟨v, rfl, ho⟩ := methodSaid_some HM.out h1
      have HS := hid ho.sl
      have HB1 := hid ho.below
      obtain ⟨a1, c1, rfl⟩ := ho.sl.val
      clear h1 ho
      go_wp2_with fail
      refine (methodOf_any A _ hA).mono ?_
      intro e w2 h2
      obtain ⟨rfl, hb2⟩ := methodSaid_none HM2.out h2
      clear h2
      go_wp2
      go_ret2
      exact said_of HN.out (HB1.out.trans (hb2.mono HB1.out.size))
    | some r2 =>
      obtain ⟨ms, g2⟩ := r2
      have HM2 := hid hm2
      have HNF := hid (fault_two hm hm2)
      by_cases hl : zs.length = ts.length
      · have HNN : Hid (∀ z, permErr ms zs ts = z → permuteOf M.data.toList A.data.toList zs = if z = 0 then (0, makeText ms g) else (z, [])) := hid (fun z hz => by simp only [permuteOf, hm, hm2, if_pos hl, hz])
        have hl0 : ((zs.length : Int) == (ts.length : Int)) = true := by rw [hl]; simp
        clear hm hm2
        go_enter Tryz.func61, Tryz.ntmps61
        go_wp2_with fail
        refine (methodOf_any M _ hM).mono ?_
        intro e w1 h1
        obtain ⟨v, rfl, ho⟩ := methodSaid_some HM.out h1
        have HS := hid ho.sl
        have HB1 := hid ho.below
        obtain ⟨a1, c1, rfl⟩ := ho.sl.val
        clear h1 ho
        go_wp2_with fail
        refine (methodOf_any A _ hA).mono ?_
        intro e w2 h2
        obtain ⟨v2, rfl, ho2⟩ := methodSaid_some HM2.out h2
        have HS1 := hid (HS.out.below ho2.below)
        have HS2 := hid ho2.sl
        have HB2 := hid (HB1.out.trans (ho2.below.mono HB1.out.size))
        have HZ2 := hid (HZ.out.below HB2.out)
        obtain ⟨a2, c2, rfl⟩ := ho2.sl.val
        clear h2 ho2
        go_wp2_with fail
        go_loopw [14] (fun i wr => ∃ k : Nat, k ≤ zs.length ∧ i = .int .i64 k ∧ Hid (Below w2.heap.size w2 wr) ∧ Hid (permErr ms zs ts = permErr ms (zs.drop k) (ts.drop k))) (fun i _ => zs.length - (intOf i).toNat)
        case atStart => exact ⟨0, Nat.zero_le _, rfl, hid (Below.refl _ _), hid rfl⟩
        case round =>
          obtain ⟨k, hk, rfl, HR, HP⟩ := hrel
          have HBR := hid (HB2.out.trans (HR.out.mono HB2.out.size))
          by_cases hlt : k < zs.length
          · have hltt : k < ts.length := by omega
            obtain ⟨bz, oz, haz, hcz⟩ := (HZ2.out.below HR.out).ints hlt
            obtain ⟨bx, ox, hax, hcx⟩ := sl_sv (HS1.out.below HR.out) hltt
            subst haz
            subst hax
            have hi : (0 : Int) ≤ (k : Int) := by omega
            have hkl : (k : Int) < (zs.length : Int) := by omega
            have hkt : (k : Int) < (ts.length : Int) := by omega
            by_cases hz0 : zs[k] < 0
            · have HE := hid (perm_range (ms := ms) hlt hltt (.inl hz0))
              have HN : Hid (permuteOf M.data.toList A.data.toList zs = (2, [])) := hid (by rw [HNN.out 2 (HP.out.trans HE.out)]; rfl)
              generalize zs[k] = z at hcz hz0
              go_wp2
              go_ret2
              exact said_of HN.out HBR.out
            · by_cases hz1 : (ms.length : Int) ≤ zs[k]
              · have HE := hid (perm_range hlt hltt (.inr hz1))
                have HN : Hid (permuteOf M.data.toList A.data.toList zs = (2, [])) := hid (by rw [HNN.out 2 (HP.out.trans HE.out)]; rfl)
                generalize zs[k] = z at hcz hz0 hz1
                go_wp2
                go_ret2
                exact said_of HN.out HBR.out
              · obtain ⟨j, hj⟩ : ∃ j : Nat, zs[k] = (j : Int) := ⟨zs[k].toNat, by omega⟩
                have hjm : j < ms.length := by omega
                obtain ⟨bm, om, ham, hcm⟩ := sl_sv (HS2.out.below HR.out) hjm
                subst ham
                have hj0 : (0 : Int) ≤ (j : Int) := by omega
                have hj1 : (j : Int) < (ms.length : Int) := by omega
                by_cases ht : ms[j] = ts[k]
                · have HE := hid (perm_step hlt hltt hj hjm ht)
                  rw [hj] at hcz
                  rw [← ht] at hcx
                  generalize bs ms[j] = X at hcx hcm
                  clear hz0 hz1 ht hj
                  go_wp2_with fail
                  go_quiet (fail)
                  go_wp2
                  go_roundw
                  case rel => exact ⟨k + 1, by omega, by go_num, hid (below_drewN HR.out _), hid (HP.out.trans HE.out)⟩
                  case measure => simp [intOf]; omega
                · have HE := hid (perm_type hlt hltt hj hjm ht)
                  have HN : Hid (permuteOf M.data.toList A.data.toList zs = (7, [])) := hid (by rw [HNN.out 7 (HP.out.trans HE.out)]; rfl)
                  rw [hj] at hcz
                  have hne : bs ms[j] ≠ bs ts[k] := fun h => ht (congrArg (fun x : ByteArray => x.data.toList) h)
                  have hne1 := str_neb hne
                  generalize bs ms[j] = X at hcm hne1
                  generalize bs ts[k] = Y at hcx hne1
                  have hne2 : ¬ X.toList = Y.toList := by rw [beq_eq_false_iff_ne] at hne1; exact hne1
                  clear hz0 hz1 ht hj hne
                  go_wp2_with fail
                  go_quiet (fail)
                  go_wp2
                  go_ret2
                  exact said_of HN.out (below_drewN HBR.out _)
          · have HE := hid (perm_end (ms := ms) (ts := ts) (Nat.le_of_not_lt hlt))
            have HN : Hid (permuteOf M.data.toList A.data.toList zs = (0, makeText ms g)) := hid (by rw [HNN.out 0 (HP.out.trans HE.out)]; rfl)
            have HS3 := hid (HS2.out.below HR.out)
            go_wp2_with fail
            refine (text_types _ ms g _ HS3.out HNF.out).mono ?_
            rintro e w6 ⟨rfl, rfl⟩
            go_wp2
            go_ret2
            exact said_of HN.out HBR.out
      · have HN : Hid (permuteOf M.data.toList A.data.toList zs = (8, [])) := hid (by simp only [permuteOf, hm, hm2, if_neg hl])
        have hl0 : ((zs.length : Int) == (ts.length : Int)) = false := beq_eq_false_iff_ne.2 (by omega)
        clear hm hm2
        go_enter Tryz.func61, Tryz.ntmps61
        go_wp2_with fail
        refine (methodOf_any M _ hM).mono ?_
        intro e w1 h1
        obtain ⟨v, rfl, ho⟩ := methodSaid_some HM.out h1
        have HS := hid ho.sl
        have HB1 := hid ho.below
        obtain ⟨a1, c1, rfl⟩ := ho.sl.val
        clear h1 ho
        go_wp2_with fail
        refine (methodOf_any A _ hA).mono ?_
        intro e w2 h2
        obtain ⟨v2, rfl, ho2⟩ := methodSaid_some HM2.out h2
        have HB2 := hid (HB1.out.trans (ho2.below.mono HB1.out.size))
        obtain ⟨a2, c2, rfl⟩ := ho2.sl.val
        clear h2 ho2
        go_wp2
        go_ret2
        exact said_of HN.out HB2.out

end Go.Proofs.YtogpgfaojmmemaaGreatDoor.mtypes
