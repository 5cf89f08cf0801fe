/- Types as texts: what desc.cut, Check, Number and Word compute, for every string. No condition. -/
import Derived.Test.YtloeaihbnnnncaaGreatDoorName
import Derived.Lib.IndexLaws
import Derived.BigQuiet
import Derived.IntWalk
namespace Go.Proofs.YtloeaihbnnnncaaGreatDoor.descs
open Go.RowKit Go.Proofs.YtloeaihbnnnncaaGreatDoor.lib Go.Proofs.YtloeaihbnnnncaaGreatDoor.errs Go.Proofs.YtloeaihbnnnncaaGreatDoor.names

/-- how long the type is with which a text begins; 0: it begins with none -/
def tyLen (l : List UInt8) : Nat :=
  if 3 < l.length - (l.dropWhile (· == 91)).length then 0 else
  match l.dropWhile (· == 91) with
  | [] => 0
  | c :: r =>
    if c = 73 ∨ c = 74 then l.length - (c :: r).length + 1 else
    if c = 76 then
      if Lib.indexByte (c :: r) 59 = -1 then 0 else
      if nameOk (((c :: r).take (Lib.indexByte (c :: r) 59).toNat).drop 1) then l.length - (c :: r).length + ((Lib.indexByte (c :: r) 59).toNat + 1) else 0
    else 0

theorem dropWhile_len {α : Type} (p : α → Bool) (l : List α) : (l.dropWhile p).length ≤ l.length := (List.dropWhile_sublist p).length_le
theorem dropWhile_drop {α : Type} (p : α → Bool) : ∀ l : List α, l.drop (l.length - (l.dropWhile p).length) = l.dropWhile p
  | [] => rfl
  | x :: l => by
    simp only [List.dropWhile_cons]
    by_cases h : p x = true
    · rw [if_pos h]
      have := dropWhile_len p l
      rw [show (x :: l).length - (l.dropWhile p).length = (l.length - (l.dropWhile p).length) + 1 from by simp only [List.length_cons]; omega, List.drop_succ_cons]
      exact dropWhile_drop p l
    · rw [if_neg h]; simp

theorem ty_deep {l : List UInt8} (h : 3 < l.length - (l.dropWhile (· == 91)).length) : tyLen l = 0 := by unfold tyLen; rw [if_pos h]
theorem ty_empty {l : List UInt8} (h : l.dropWhile (· == 91) = []) : tyLen l = 0 := by unfold tyLen; rw [h]; simp
theorem ty_word {l r : List UInt8} {c : UInt8} (h : l.dropWhile (· == 91) = c :: r) (h3 : ¬ 3 < l.length - (c :: r).length) (hc : c = 73 ∨ c = 74) : tyLen l = l.length - (c :: r).length + 1 := by
  unfold tyLen; rw [h]; simp only; rw [if_neg h3, if_pos hc]
theorem ty_other {l r : List UInt8} {c : UInt8} (h : l.dropWhile (· == 91) = c :: r) (hc : ¬ (c = 73 ∨ c = 74)) (hd : c ≠ 76) : tyLen l = 0 := by
  unfold tyLen; rw [h]; simp only; rw [if_neg hc, if_neg hd]; simp
theorem ty_open {l r : List UInt8} (h : l.dropWhile (· == 91) = 76 :: r) (hi : Lib.indexByte (76 :: r) 59 = -1) : tyLen l = 0 := by
  unfold tyLen; rw [h]; simp [hi]
theorem ty_class {l r : List UInt8} {o : Nat} (h : l.dropWhile (· == 91) = 76 :: r) (h3 : ¬ 3 < l.length - (76 :: r : List UInt8).length) (hi : Lib.indexByte (76 :: r) 59 = (o : Int)) :
    tyLen l = if nameOk (((76 :: r).take o).drop 1) then l.length - (76 :: r : List UInt8).length + (o + 1) else 0 := by
  unfold tyLen; rw [h]; simp only; rw [if_neg h3, if_neg (by decide), if_pos trivial, hi, if_neg (by omega)]; rfl

/-- cut's answer -/
def CutBy (w : World) (s : ByteArray) (n : Nat) (e : Ending) (w' : World) : Prop :=
  e = .returned (if n = 0 then .tuple #[.string { data := #[] }, .string s, .bool false] else .tuple #[.string (s.extract 0 n), .string (s.extract n s.size), .bool true]) ∧ Below w.heap.size w w'

theorem cutBy_yes {w w' : World} {s : ByteArray} {n : Nat} (hn : n ≠ 0) (hb : Below w.heap.size w w') : CutBy w s n (.returned (.tuple #[.string (s.extract 0 n), .string (s.extract n s.size), .bool true])) w' := by
  refine ⟨?_, hb⟩
  rw [if_neg hn]
theorem cutBy_no {w w' : World} {s : ByteArray} (hb : Below w.heap.size w w') : CutBy w s 0 (.returned (.tuple #[.string { data := #[] }, .string s, .bool false])) w' := ⟨rfl, hb⟩
theorem index_any (T : ByteArray) (w : World) : Calls Tryz.prog 103 #[.string T, .int .u8 59] w fun e w' => e = .returned (.int .i64 (Lib.indexByte T.data.toList 59)) ∧ w = w' :=
  (Tryz.strings_IndexByte T 59 w).mono fun _ _ ⟨h1, h2⟩ => ⟨h1, h2.symm⟩

theorem first_byte {T : ByteArray} {c : UInt8} {r : List UInt8} (h : T.data.toList = c :: r) : ∃ h0 : 0 < T.size, T[0] = c := by
  have hl : T.size = T.data.toList.length := by rw [Array.length_toList]; rfl
  have h0 : 0 < T.size := by rw [hl, h]; simp
  refine ⟨h0, ?_⟩
  have h5 : T.data.toList[0]? = some c := by rw [h]; rfl
  rw [Array.getElem?_toList] at h5
  have h6 : T.data[0]? = some T[0] := Array.getElem?_eq_getElem h0
  rw [h6] at h5
  exact Option.some.inj h5

set_option maxRecDepth 100000 in
set_option maxHeartbeats 1000000 in
theorem cut_any (s : ByteArray) (w : World) (hs : s.size ≤ 9223372036854775807) : Calls Tryz.prog 57 #[.string s] w (CutBy w s (tyLen s.data.toList)) := by
  have hsz : s.data.toList.length = s.size := by rw [Array.length_toList]; rfl
  obtain ⟨T, hT⟩ : ∃ T : ByteArray, ⟨(Lib.trimLeftB s.data.toList 91).toArray⟩ = T := ⟨_, rfl⟩
  have hTl : T.data.toList = s.data.toList.dropWhile (· == 91) := by rw [← hT]; rfl
  have hTs : T.data.toList.length = T.size := by rw [Array.length_toList]; rfl
  have hle : T.size ≤ s.size := by rw [← hTs, ← hsz, hTl]; exact dropWhile_len _ _
  obtain ⟨d, hd⟩ : ∃ d : Nat, d + T.size = s.size := ⟨s.size - T.size, by omega⟩
  have hx : s.extract d s.size = T := by
    apply ByteArray.ext
    apply Array.toList_inj.1
    rw [Lib.extract_data, hTl]
    have := dropWhile_drop (· == 91) s.data.toList
    rw [← hTl, hTs, hsz, show s.size - T.size = d by omega, hTl] at this
    rw [this, ← hsz]; exact List.take_of_length_le (by rw [← this, List.length_drop]; omega)
  have HT := hid hT; clear hT
  by_cases h3 : 3 < d
  · have HN : Hid (tyLen s.data.toList = 0) := hid (ty_deep (by rw [← hTl, hTs, hsz]; omega))
    have hw : wrap64 ((s.size : Int) - (T.size : Int)) = (d : Int) := by rw [IntWalk.wrap64_in _ (by omega)]; omega
    have h3' : (3 : Int) < (d : Int) := by omega
    have h0 : (0 : Int) ≤ (d : Int) := by omega
    have h1 : (d : Int) ≤ (s.size : Int) := by omega
    clear hsz hTl hTs h3
    go_enter Tryz.func57, Tryz.ntmps57
    go_wp2_with fail
    refine (Tryz.strings_TrimLeft_one s 91 (by decide) w).mono ?_
    rintro e w1 ⟨rfl, rfl⟩
    rw [HT.out]
    go_wp2_with fail
    go_ret3
    rw [HN.out]
    exact ⟨rfl, Below.refl _ _⟩
  · have hw : (s.size : Int) - (T.size : Int) = (d : Int) := by omega
    have hxx : s.extract (s.size - T.size) s.size = T := by rw [show s.size - T.size = d by omega]; exact hx
    have h3' : ¬ (3 : Int) < (d : Int) := by omega
    have h0 : (0 : Int) ≤ (d : Int) := by omega
    have h1 : (d : Int) ≤ (s.size : Int) := by omega
    cases hr : s.data.toList.dropWhile (· == 91) with
    | nil =>
      have HN : Hid (tyLen s.data.toList = 0) := hid (ty_empty hr)
      rw [hr] at hTl
      have he : T.toList.isEmpty = true := by rw [ByteArray.toList_eq, hTl]; rfl
      have he' : T.toList = [] := by rw [ByteArray.toList_eq, hTl]
      clear hsz hTl hTs h3 hr
      go_enter Tryz.func57, Tryz.ntmps57
      go_wp2_with fail
      refine (Tryz.strings_TrimLeft_one s 91 (by decide) w).mono ?_
      rintro e w1 ⟨rfl, rfl⟩
      rw [HT.out]
      go_wp2_with fail
      go_ret3
      rw [HN.out]
      exact ⟨rfl, Below.refl _ _⟩
    | cons c r =>
      rw [hr] at hTl
      have he : T.toList.isEmpty = false := by rw [ByteArray.toList_eq, hTl]; rfl
      have he' : ¬ T.toList = [] := by rw [ByteArray.toList_eq, hTl]; simp
      obtain ⟨hT0, hTc⟩ := first_byte hTl
      have hT0' : (0 : Int) < (T.size : Int) := by omega
      have h3n : ¬ 3 < s.data.toList.length - (c :: r).length := by rw [← hTl, hTs, hsz]; omega
      have hdn : s.data.toList.length - (c :: r).length = d := by rw [← hTl, hTs, hsz]; omega
      have hd1 : d + 1 ≤ s.size := by omega
      by_cases hc : c = 73
      · have HN : Hid (tyLen s.data.toList = d + 1) := hid (by rw [ty_word hr h3n (.inl hc), hdn])
        clear hsz hTl hTs h3 hr h3n hdn
        subst hc
        go_enter Tryz.func57, Tryz.ntmps57
        go_wp2_with fail
        refine (Tryz.strings_TrimLeft_one s 91 (by decide) w).mono ?_
        rintro e w1 ⟨rfl, rfl⟩
        rw [HT.out]
        go_wp2_with fail
        have q1 : IntKind.i64.wrap ((d : Int) + 1) = (d : Int) + 1 := IntWalk.i64_in _ (by omega)
        have q2 : 0 ≤ (d : Int) + 1 := by omega
        have q3 : ((d : Int) + 1).toNat = d + 1 := by omega
        have q4 : (d : Int) + 1 ≤ (s.size : Int) := by omega
        go_quiet (fail)
        clear q1 q2 q3 q4
        go_wp2
        go_ret3
        rw [HN.out]
        exact cutBy_yes (by omega) (below_drewN (Below.refl _ _) _)
      by_cases hc2 : c = 74
      · have HN : Hid (tyLen s.data.toList = d + 1) := hid (by rw [ty_word hr h3n (.inr hc2), hdn])
        clear hsz hTl hTs h3 hr h3n hdn hc
        subst hc2
        go_enter Tryz.func57, Tryz.ntmps57
        go_wp2_with fail
        refine (Tryz.strings_TrimLeft_one s 91 (by decide) w).mono ?_
        rintro e w1 ⟨rfl, rfl⟩
        rw [HT.out]
        go_wp2_with fail
        have q1 : IntKind.i64.wrap ((d : Int) + 1) = (d : Int) + 1 := IntWalk.i64_in _ (by omega)
        have q2 : 0 ≤ (d : Int) + 1 := by omega
        have q3 : ((d : Int) + 1).toNat = d + 1 := by omega
        have q4 : (d : Int) + 1 ≤ (s.size : Int) := by omega
        go_quiet (fail)
        clear q1 q2 q3 q4
        go_wp2
        go_ret3
        rw [HN.out]
        exact cutBy_yes (by omega) (below_drewN (Below.refl _ _) _)
      by_cases hcd : c = 76
      · subst hcd
        have hge := Lib.indexByte_ge T.data.toList 59
        by_cases hi : Lib.indexByte T.data.toList 59 = -1
        · have HN : Hid (tyLen s.data.toList = 0) := hid (ty_open hr (by rw [← hTl]; exact hi))
          have HI := hid hi
          clear hsz hTl hTs h3 hr h3n hdn hc hc2 hge hi
          go_enter Tryz.func57, Tryz.ntmps57
          go_wp2_with fail
          refine (Tryz.strings_TrimLeft_one s 91 (by decide) w).mono ?_
          rintro e w1 ⟨rfl, rfl⟩
          rw [HT.out]
          go_wp2_with fail
          refine (index_any T _).mono ?_
          rintro e w2 ⟨rfl, rfl⟩
          rw [HI.out]
          go_wp2_with fail
          go_ret3
          rw [HN.out]
          exact cutBy_no (Below.refl _ _)
        · obtain ⟨o, ho⟩ : ∃ o : Nat, Lib.indexByte T.data.toList 59 = (o : Int) := ⟨(Lib.indexByte T.data.toList 59).toNat, by omega⟩
          obtain ⟨ho1, _⟩ := Lib.indexByte_some ho
          have ho2 : o < T.size := by rw [← hTs]; exact (List.getElem?_eq_some_iff.1 ho1).1
          have ho0 : 1 ≤ o := by
            rcases Nat.eq_zero_or_pos o with h | h
            · subst h; rw [hTl] at ho1; simp at ho1
            · exact h
          have hty := ty_class hr h3n (by rw [← hTl]; exact ho)
          have hnm : (T.extract 1 o).data.toList = ((76 :: r : List UInt8).take o).drop 1 := by rw [Lib.extract_data, hTl, List.drop_take]
          rw [hdn] at hty
          have HO := hid ho
          have hes : (T.extract 1 o).size ≤ 9223372036854775807 := by rw [ByteArray.size_extract]; omega
          cases hb : nameOk (T.extract 1 o).data.toList with
          | false =>
            rw [← hnm, hb] at hty
            have HN : Hid (tyLen s.data.toList = 0) := hid hty
            have HB := hid hb
            have k0 : ¬ (o : Int) + 1 = 0 := by omega
            have k1 : (1 : Int) ≤ (o : Int) := by omega
            have k2 : (o : Int) ≤ (T.size : Int) := by omega
            clear hsz hTl hTs h3 hr h3n hdn hc hc2 hge hi ho ho1 hty hnm hb
            go_enter Tryz.func57, Tryz.ntmps57
            go_wp2_with fail
            refine (Tryz.strings_TrimLeft_one s 91 (by decide) w).mono ?_
            rintro e w1 ⟨rfl, rfl⟩
            rw [HT.out]
            go_wp2_with fail
            refine (index_any T _).mono ?_
            rintro e w2 ⟨rfl, rfl⟩
            rw [HO.out]
            go_wp2_with fail
            refine (check_any (T.extract 1 o) _ hes).mono ?_
            intro e w3 h3
            obtain ⟨rfl, hb3⟩ := checked_false h3 HB.out
            clear h3
            go_wp2_with fail
            go_ret3
            rw [HN.out]
            exact cutBy_no hb3
          | true =>
            rw [← hnm, hb] at hty
            have HN : Hid (tyLen s.data.toList = d + (o + 1)) := hid hty
            have HB := hid hb
            have k0 : ¬ (o : Int) + 1 = 0 := by omega
            have k1 : (1 : Int) ≤ (o : Int) := by omega
            have k2 : (o : Int) ≤ (T.size : Int) := by omega
            clear hsz hTl hTs h3 hr h3n hdn hc hc2 hge hi ho ho1 hty hnm hb
            go_enter Tryz.func57, Tryz.ntmps57
            go_wp2_with fail
            refine (Tryz.strings_TrimLeft_one s 91 (by decide) w).mono ?_
            rintro e w1 ⟨rfl, rfl⟩
            rw [HT.out]
            go_wp2_with fail
            refine (index_any T _).mono ?_
            rintro e w2 ⟨rfl, rfl⟩
            rw [HO.out]
            go_wp2_with fail
            refine (check_any (T.extract 1 o) _ hes).mono ?_
            intro e w3 h3
            obtain ⟨rfl, hb3⟩ := checked_true h3 HB.out
            clear h3
            go_wp2_with fail
            have q1 : IntKind.i64.wrap ((d : Int) + ((o : Int) + 1)) = (d : Int) + ((o : Int) + 1) := IntWalk.i64_in _ (by omega)
            have q2 : 0 ≤ (d : Int) + ((o : Int) + 1) := by omega
            have q3 : ((d : Int) + ((o : Int) + 1)).toNat = d + (o + 1) := by omega
            have q4 : (d : Int) + ((o : Int) + 1) ≤ (s.size : Int) := by omega
            go_quiet (fail)
            clear q1 q2 q3 q4
            go_wp2
            go_ret3
            rw [HN.out]
            exact cutBy_yes (by omega) (below_drewN hb3 _)
      · have HN : Hid (tyLen s.data.toList = 0) := hid (ty_other hr (by rintro (h | h); exact hc h; exact hc2 h) hcd)
        have u1 : ¬ (c.toNat : Int) = 73 := fun h => hc (UInt8.toNat_inj.1 (by simpa using (by omega : c.toNat = 73)))
        have u2 : ¬ (c.toNat : Int) = 74 := fun h => hc2 (UInt8.toNat_inj.1 (by simpa using (by omega : c.toNat = 74)))
        have u3 : ¬ (c.toNat : Int) = 76 := fun h => hcd (UInt8.toNat_inj.1 (by simpa using (by omega : c.toNat = 76)))
        clear hsz hTl hTs h3 hr h3n hdn hc hc2 hcd
        go_enter Tryz.func57, Tryz.ntmps57
        go_wp2_with fail
        refine (Tryz.strings_TrimLeft_one s 91 (by decide) w).mono ?_
        rintro e w1 ⟨rfl, rfl⟩
        rw [HT.out]
        go_wp2_with fail
        go_ret3
        rw [HN.out]
        exact cutBy_no (Below.refl _ _)

end Go.Proofs.YtloeaihbnnnncaaGreatDoor.descs
