/- Types as texts: the reference's TypeAt and IsType. Condition: the index lies within the text. -/
import Derived.Test.YtloeaihbnnnncaaGreatDoorDesc2
namespace Go.Proofs.YtloeaihbnnnncaaGreatDoor.descs
open Go.RowKit Go.Proofs.YtloeaihbnnnncaaGreatDoor.lib Go.Proofs.YtloeaihbnnnncaaGreatDoor.errs Go.Proofs.YtloeaihbnnnncaaGreatDoor.names

theorem index_first {l : List UInt8} {c : UInt8} {o : Nat} (h : ∀ j, j < o → l[j]? ≠ some c) (ho : l[o]? = some c) : Lib.indexByte l c = (o : Int) := by
  have hge := Lib.indexByte_ge l c
  by_cases hi : Lib.indexByte l c = -1
  · exact absurd ho (Lib.indexByte_none hi o)
  · obtain ⟨o', ho'⟩ : ∃ o' : Nat, Lib.indexByte l c = (o' : Int) := ⟨(Lib.indexByte l c).toNat, by omega⟩
    obtain ⟨h1, h2⟩ := Lib.indexByte_some ho'
    have : o' = o := by
      rcases Nat.lt_trichotomy o' o with h3 | h3 | h3
      · exact absurd h1 (h o' h3)
      · exact h3
      · exact absurd ho (h2 o h3)
    rw [ho', this]
theorem index_never {l : List UInt8} {c : UInt8} (h : ∀ j, j < l.length → l[j]? ≠ some c) : Lib.indexByte l c = -1 := by
  have hge := Lib.indexByte_ge l c
  by_cases hi : Lib.indexByte l c = -1
  · exact hi
  · obtain ⟨o', ho'⟩ : ∃ o' : Nat, Lib.indexByte l c = (o' : Int) := ⟨(Lib.indexByte l c).toNat, by omega⟩
    obtain ⟨h1, h2⟩ := Lib.indexByte_some ho'
    exact absurd h1 (h o' (List.getElem?_eq_some_iff.1 h1).1)

theorem drop_byte {s : ByteArray} {i : Nat} (h : i < s.size) : s.data.toList.drop i = s[i] :: s.data.toList.drop (i + 1) := by
  have hl : i < s.data.toList.length := by rw [size_len]; exact h
  rw [List.drop_eq_getElem_cons hl]
  congr 1

/-- what lies behind the opening brackets -/
def Behind (S : List UInt8) (at_ i : Nat) : Prop := (S.drop at_).dropWhile (· == (91 : UInt8)) = (S.drop i).dropWhile (· == (91 : UInt8))

theorem behind_step {s : ByteArray} {at_ i : Nat} (h : Behind s.data.toList at_ i) (hi : i < s.size) (hc : s[i] = 91) : Behind s.data.toList at_ (i + 1) := by
  unfold Behind at *
  rw [h, drop_byte hi, hc]; rfl
theorem behind_end {s : ByteArray} {at_ i : Nat} (h : Behind s.data.toList at_ i) (hi : i < s.size) (hc : ¬ s[i] = 91) : (s.data.toList.drop at_).dropWhile (· == (91 : UInt8)) = s[i] :: s.data.toList.drop (i + 1) := by
  unfold Behind at h
  rw [h, drop_byte hi, List.dropWhile_cons, if_neg (by simpa using hc)]
theorem behind_out {s : ByteArray} {at_ i : Nat} (h : Behind s.data.toList at_ i) (hi : s.size ≤ i) : (s.data.toList.drop at_).dropWhile (· == (91 : UInt8)) = [] := by
  unfold Behind at h
  rw [h, List.drop_eq_nil_of_le (by rw [size_len]; exact hi)]; rfl
theorem behind_len {s : ByteArray} {at_ i : Nat} (ha : at_ ≤ i) (hi : i < s.size) : (s.data.toList.drop at_).length - (s[i] :: s.data.toList.drop (i + 1)).length = i - at_ := by
  rw [← drop_byte hi, List.length_drop, List.length_drop, size_len]; omega

/-- where a type ends; 0: there is none -/
def tyEnd (b n : Nat) : Value := .int .i64 ((if n = 0 then 0 else b + n : Nat) : Int)
theorem tyEnd_no {b n : Nat} (h : n = 0) : tyEnd b n = .int .i64 0 := by unfold tyEnd; rw [if_pos h]; rfl
theorem tyEnd_yes {b n : Nat} {z : Int} (h : n ≠ 0) (hz : z = ((b + n : Nat) : Int)) : tyEnd b n = .int .i64 z := by unfold tyEnd; rw [if_neg h, hz]

set_option maxRecDepth 100000 in
set_option maxHeartbeats 2000000 in
theorem typeAt_any (s : ByteArray) (b : Nat) (w : World) (hs : s.size ≤ 9223372036854775807) (hb : b ≤ s.size) :
    Calls Tryz.prog 151 #[.string s, .int .i64 b] w fun e w' => e = .returned (tyEnd b (tyLen (s.data.toList.drop b))) ∧ w = w' := by
  obtain ⟨L, hL⟩ : ∃ L, tyLen (s.data.toList.drop b) = L := ⟨_, rfl⟩
  have HL := hid hL; clear hL
  rw [HL.out]
  go_enter Tryz.func151, Tryz.ntmps151
  go_wp2_with fail
  go_loop [5] (fun i => ∃ k : Nat, b ≤ k ∧ k ≤ s.size ∧ i = .int .i64 k ∧ Hid (Behind s.data.toList b k)) (fun i => s.size - (intOf i).toNat)
  case atStart => exact ⟨b, Nat.le_refl _, hb, rfl, hid rfl⟩
  case round =>
    obtain ⟨i, hbi, hi, rfl, HB⟩ := hrel
    by_cases hlt : i < s.size
    · have hl1 : (i : Int) < (s.size : Int) := by omega
      by_cases h91 : s[i] = 91
      · have HS := hid (behind_step HB.out hlt h91)
        go_wp2
        go_round
        case rel => exact ⟨i + 1, by omega, by omega, by go_num, HS⟩
        case measure => simp [intOf]; omega
      · have HE := hid (behind_end HB.out hlt h91)
        have HEL := hid (behind_len hbi hlt)
        have u91 : ¬ (s[i].toNat : Int) = 91 := fun h => h91 (UInt8.toNat_inj.1 (by simpa using (by omega : s[i].toNat = 91)))
        by_cases h3 : 3 < i - b
        · have HN : Hid (L = 0) := hid (by rw [← HL.out]; exact ty_deep (by rw [HE.out, HEL.out]; exact h3))
          have h3' : (3 : Int) < (i : Int) - (b : Int) := by omega
          go_wp2
          go_ret
          rw [tyEnd_no HN.out]
          exact ⟨rfl, rfl⟩
        · have h3' : ¬ (3 : Int) < (i : Int) - (b : Int) := by omega
          have h3n : ¬ 3 < (s.data.toList.drop b).length - (s[i] :: s.data.toList.drop (i + 1)).length := by rw [HEL.out]; exact h3
          have hi2 : ¬ (s.size : Int) ≤ (i : Int) := by omega
          by_cases hc : s[i] = 73
          · have uc : (s[i].toNat : Int) = 73 := by rw [hc]; rfl
            have HN : Hid (L = i - b + 1) := hid (by rw [← HL.out, ty_word HE.out h3n (.inl hc), HEL.out])
            have HZ : Hid (tyEnd b L = .int .i64 ((i : Int) + 1)) := hid (tyEnd_yes (by rw [HN.out]; omega) (by rw [HN.out]; omega))
            clear h3n HE HEL
            go_wp2
            go_ret
            rw [HZ.out]
            exact ⟨rfl, rfl⟩
          · have uc : ¬ (s[i].toNat : Int) = 73 := fun h => hc (UInt8.toNat_inj.1 (by simpa using (by omega : s[i].toNat = 73)))
            by_cases hc2 : s[i] = 74
            · have uc2 : (s[i].toNat : Int) = 74 := by rw [hc2]; rfl
              have HN : Hid (L = i - b + 1) := hid (by rw [← HL.out, ty_word HE.out h3n (.inr hc2), HEL.out])
              have HZ : Hid (tyEnd b L = .int .i64 ((i : Int) + 1)) := hid (tyEnd_yes (by rw [HN.out]; omega) (by rw [HN.out]; omega))
              clear h3n HE HEL
              go_wp2
              go_ret
              rw [HZ.out]
              exact ⟨rfl, rfl⟩
            · have uc2 : ¬ (s[i].toNat : Int) = 74 := fun h => hc2 (UInt8.toNat_inj.1 (by simpa using (by omega : s[i].toNat = 74)))
              by_cases hcd : s[i] = 76
              · have uc3 : (s[i].toNat : Int) = 76 := by rw [hcd]; rfl
                have HD := hid (drop_byte hlt)
                have HC := hid hcd
                have H3 := hid h3n
                clear h3n h91 h3 hc hc2 hcd
                go_wp2_with fail
                go_loop [6] (fun v => ∃ k : Nat, i + 1 ≤ k ∧ k ≤ s.size ∧ v = .int .i64 k ∧ Hid (∀ j, j < k - i → (s.data.toList.drop i)[j]? ≠ some 59)) (fun v => s.size - (intOf v).toNat)
                case atStart =>
                  refine ⟨i + 1, Nat.le_refl _, by omega, by go_num, hid (fun j hj => ?_)⟩
                  obtain rfl : j = 0 := by omega
                  rw [HD.out, HC.out]
                  simp
                case round =>
                  obtain ⟨k, hik, hk, rfl, HK⟩ := hrel
                  by_cases hkl : k < s.size
                  · have hk1 : (k : Int) < (s.size : Int) := by omega
                    have hat : (s.data.toList.drop i)[k - i]? = some s[k] := by rw [List.getElem?_drop, show i + (k - i) = k by omega]; exact names.byte_at hkl
                    by_cases h59 : s[k] = 59
                    · have u59 : (s[k].toNat : Int) = 59 := by rw [h59]; rfl
                      have hix := index_first HK.out (by rw [hat, h59])
                      rw [HD.out, HC.out] at hix
                      have hcl := ty_class (by rw [HE.out, HC.out]) (by have := H3.out; rwa [HC.out] at this) hix
                      rw [← HC.out, HEL.out, HL.out] at hcl
                      have hx : (s.extract (i + 1) k).data.toList = ((s[i] :: s.data.toList.drop (i + 1)).take (k - i)).drop 1 := by
                        rw [Lib.extract_data, List.drop_take, List.drop_succ_cons, List.drop_zero]; congr 1
                      rw [← hx] at hcl
                      have HCL := hid hcl
                      have hes : (s.extract (i + 1) k).size ≤ 9223372036854775807 := by rw [ByteArray.size_extract]; omega
                      have k0 : ¬ (k : Int) = (s.size : Int) := by omega
                      have k1 : (i : Int) + 1 ≤ (k : Int) := by omega
                      have k2 : (k : Int) ≤ (s.size : Int) := by omega
                      clear hcl hix hat hx
                      cases hnm : nameOk (s.extract (i + 1) k).data.toList with
                      | false =>
                        have HN : Hid (L = 0) := hid (by rw [HCL.out, if_neg (by rw [hnm]; decide)])
                        have HNM := hid hnm; clear hnm
                        go_wp2_with fail
                        refine (isName_any _ _ hes).mono ?_
                        rintro e w1 ⟨rfl, rfl⟩
                        rw [HNM.out]
                        go_wp2
                        go_ret
                        rw [tyEnd_no HN.out]
                        exact ⟨rfl, rfl⟩
                      | true =>
                        have HN : Hid (L = i - b + (k - i + 1)) := hid (by rw [HCL.out, if_pos hnm])
                        have HZ : Hid (tyEnd b L = .int .i64 ((k : Int) + 1)) := hid (tyEnd_yes (by rw [HN.out]; omega) (by rw [HN.out]; omega))
                        have HNM := hid hnm; clear hnm
                        go_wp2_with fail
                        refine (isName_any _ _ hes).mono ?_
                        rintro e w1 ⟨rfl, rfl⟩
                        rw [HNM.out]
                        go_wp2
                        go_ret
                        rw [HZ.out]
                        exact ⟨rfl, rfl⟩
                    · have u59 : ¬ (s[k].toNat : Int) = 59 := fun h => h59 (UInt8.toNat_inj.1 (by simpa using (by omega : s[k].toNat = 59)))
                      have HS : Hid (∀ j, j < (k + 1) - i → (s.data.toList.drop i)[j]? ≠ some 59) := hid (fun j hj => by
                        rcases Nat.lt_or_ge j (k - i) with h | h
                        · exact HK.out j h
                        · obtain rfl : j = k - i := by omega
                          rw [hat]; simpa using h59)
                      clear hat
                      go_wp2
                      go_round
                      case rel => exact ⟨k + 1, by omega, by omega, by go_num, HS⟩
                      case measure => simp [intOf]; omega
                  · obtain rfl : k = s.size := by omega
                    have hix : Lib.indexByte (s.data.toList.drop i) 59 = -1 := index_never (fun j hj => HK.out j (by rw [List.length_drop, size_len] at hj; exact hj))
                    rw [HD.out, HC.out] at hix
                    have HN : Hid (L = 0) := hid (by rw [← HL.out]; exact ty_open (by rw [HE.out, HC.out]) hix)
                    clear hix
                    go_wp2
                    go_ret
                    rw [tyEnd_no HN.out]
                    exact ⟨rfl, rfl⟩
              · have uc3 : ¬ (s[i].toNat : Int) = 76 := fun h => hcd (UInt8.toNat_inj.1 (by simpa using (by omega : s[i].toNat = 76)))
                have HN : Hid (L = 0) := hid (by rw [← HL.out]; exact ty_other HE.out (by rintro (h | h); exact hc h; exact hc2 h) hcd)
                clear h3n
                have n1 : ((s[i].toNat : Int) == 73) = false := beq_eq_false_iff_ne.2 uc
                have n2 : ((s[i].toNat : Int) == 74) = false := beq_eq_false_iff_ne.2 uc2
                have n3 : ((s[i].toNat : Int) == 76) = false := beq_eq_false_iff_ne.2 uc3
                go_wp2
                go_ret
                rw [tyEnd_no HN.out]
                exact ⟨rfl, rfl⟩
    · obtain rfl : i = s.size := by omega
      have HN : Hid (L = 0) := hid (by rw [← HL.out]; exact ty_empty (behind_out HB.out (Nat.le_refl _)))
      go_wp2
      all_goals go_ret
      all_goals rw [tyEnd_no HN.out]
      all_goals exact ⟨rfl, rfl⟩

set_option maxHeartbeats 400000 in
theorem isType_any (s : ByteArray) (w : World) (hs : s.size ≤ 9223372036854775807) : Calls Tryz.prog 82 #[.string s] w fun e w' => e = .returned (.bool (isTy s.data.toList)) ∧ w = w' := by
  have hl := size_len s
  by_cases h0 : s.size = 0
  · have HN : Hid (isTy s.data.toList = false) := hid (by
      have : s.data.toList = [] := List.eq_nil_of_length_eq_zero (by omega)
      rw [this]; rfl)
    have h1 : ¬ (0 : Int) < (s.size : Int) := by omega
    clear hl
    go_enter Tryz.func82, Tryz.ntmps82
    go_wp2
    go_ret
    rw [HN.out]
    exact ⟨rfl, rfl⟩
  · have h1 : (0 : Int) < (s.size : Int) := by omega
    have hh := typeAt_any s 0 w hs (Nat.zero_le _)
    rw [List.drop_zero] at hh
    have HH := hid hh
    have HN : Hid ((tyEnd 0 (tyLen s.data.toList) = .int .i64 0 ∧ isTy s.data.toList = false) ∨ (tyEnd 0 (tyLen s.data.toList) = .int .i64 (tyLen s.data.toList : Nat) ∧ isTy s.data.toList = ((tyLen s.data.toList : Int) == (s.size : Int)))) := hid (by
      by_cases hn : tyLen s.data.toList = 0
      · exact .inl ⟨tyEnd_no hn, by simp [isTy, hn]⟩
      · refine .inr ⟨tyEnd_yes hn (by simp), ?_⟩
        rw [Bool.eq_iff_iff]
        simp only [isTy, hl, decide_eq_true_eq, beq_iff_eq]
        omega)
    clear hh hl
    go_enter Tryz.func82, Tryz.ntmps82
    go_wp2_with fail
    refine HH.out.mono ?_
    rintro e w1 ⟨rfl, rfl⟩
    rcases HN.out with ⟨h2, h3⟩ | ⟨h2, h3⟩
    · have H3 := hid h3; clear h3
      rw [h2]
      have k0 : ¬ (0 : Int) = (s.size : Int) := by omega
      clear h2
      go_wp2
      go_ret
      rw [H3.out]
      exact ⟨by simp; omega, rfl⟩
    · have H3 := hid h3; clear h3
      rw [h2]
      clear h2
      go_wp2
      go_ret
      rw [H3.out]
      exact ⟨rfl, rfl⟩

end Go.Proofs.YtloeaihbnnnncaaGreatDoor.descs

/- Types ts texts: desc.Method. Condition: the text is not long. -/
namespace Go.Proofs.YtloeaihbnnnncaaGreatDoor.descs
open Go.RowKit Go.Proofs.YtloeaihbnnnncaaGreatDoor.lib Go.Proofs.YtloeaihbnnnncaaGreatDoor.errs Go.Proofs.YtloeaihbnnnncaaGreatDoor.names

def bs (l : List UInt8) : ByteArray := ⟨l.toArray⟩
def sv (l : List UInt8) : Value := .string (bs l)
theorem bs_data (l : List UInt8) : (bs l).data.toList = l := rfl
theorem bs_eq (s : ByteArray) : s = bs s.data.toList := rfl
theorem bs_size (l : List UInt8) : (bs l).size = l.length := rfl
theorem bs_of {s : ByteArray} {l : List UInt8} (h : s.data.toList = l) : s = bs l := by subst h; rfl
theorem extract_bs (s : ByteArray) (i j : Nat) : s.extract i j = bs ((s.data.toList.take j).drop i) := by
  apply bs_of
  rw [Lib.extract_data, List.drop_take]

/-- the types one behind the other, and what lies behind them -/
def scan (l : List UInt8) : List (List UInt8) × List UInt8 :=
  if _h : l.head? = some 41 ∨ tyLen l = 0 then ([], l) else (l.take (tyLen l) :: (scan (l.drop (tyLen l))).1, (scan (l.drop (tyLen l))).2)
termination_by l.length
decreasing_by
  all_goals
    have h1 := tyLen_le l
    rw [List.length_drop]
    simp only [not_or] at _h
    omega
theorem scan_stop {l : List UInt8} (h : l.head? = some 41 ∨ tyLen l = 0) : scan l = ([], l) := by rw [scan, dif_pos h]
theorem scan_step {l : List UInt8} (h : ¬ l.head? = some 41) (h2 : tyLen l ≠ 0) : scan l = (l.take (tyLen l) :: (scan (l.drop (tyLen l))).1, (scan (l.drop (tyLen l))).2) := by
  rw [scan, dif_neg (by rintro (h3 | h3); exact h h3; exact h2 h3)]

/-- the types of which a method's is made -/
def methodOf : List UInt8 → Option (List (List UInt8) × List UInt8)
  | c :: l => if c = 40 ∧ (scan l).2.head? = some 41 ∧ (scan l).1.length ≤ 5 ∧ ((scan l).2.drop 1 = [86] ∨ isTy ((scan l).2.drop 1) = true) then some ((scan l).1, (scan l).2.drop 1) else none
  | [] => none

/-- Method's answer -/
def MethodBy (w : World) (S : List UInt8) (e : Ending) (w' : World) : Prop :=
  match methodOf S with
  | some (ts, g) => ∃ v, e = .returned (.tuple #[v, .string (bs g), .nilIface]) ∧ Out w w' 9 1 v ts.length (ts.map sv)
  | none => e = .returned (.tuple #[.slice none 0 0, .string { data := #[] }, .iface 58 (.int .i64 1)]) ∧ Below w.heap.size w w'
theorem methodBy_no {w w' : World} {S : List UInt8} (h : methodOf S = none) (hb : Below w.heap.size w w') : MethodBy w S (.returned (.tuple #[.slice none 0 0, .string { data := #[] }, .iface 58 (.int .i64 1)])) w' := by
  unfold MethodBy; rw [h]; exact ⟨rfl, hb⟩
theorem methodBy_yes {w w' : World} {S g : List UInt8} {ts : List (List UInt8)} {v : Value} (h : methodOf S = some (ts, g)) (ho : Out w w' 9 1 v ts.length (ts.map sv)) : MethodBy w S (.returned (.tuple #[v, .string (bs g), .nilIface])) w' := by
  unfold MethodBy; rw [h]; exact ⟨v, rfl, ho⟩

theorem prefix_one (l : List UInt8) (c : UInt8) : Lib.hasPrefix l [c] = decide (l.head? = some c) := by
  rw [Bool.eq_iff_iff, decide_eq_true_eq]
  cases l with
  | nil => simp [Lib.hasPrefix]
  | cons b r =>
    simp only [Lib.hasPrefix, List.isPrefixOf, List.head?_cons, Bool.and_true, Option.some.injEq, beq_iff_eq]
    exact eq_comm
theorem cutPrefix_any (s : ByteArray) (w : World) : Calls Tryz.prog 55 #[.string s, .string { data := #[40] }] w fun e w' =>
    e = .returned (if s.data.toList.head? = some 40 then .tuple #[.string (bs (s.data.toList.drop 1)), .bool true] else .tuple #[.string s, .bool false]) ∧ w = w' := by
  refine (Tryz.strings_CutPrefix s { data := #[40] } w).mono ?_
  rintro e w' ⟨rfl, rfl⟩
  have h := prefix_one s.data.toList 40
  refine ⟨?_, rfl⟩
  show Ending.returned (.tuple #[.string ⟨(Lib.trimPrefix s.data.toList [40]).toArray⟩, .bool (Lib.hasPrefix s.data.toList [40])]) = _
  unfold Lib.trimPrefix
  rw [h]
  by_cases h1 : s.data.toList.head? = some 40
  · rw [if_pos h1, decide_eq_true h1, if_pos rfl]; exact congrArg Ending.returned rfl
  · rw [if_neg h1, decide_eq_false h1, if_neg (by decide)]
theorem hasPrefix_any (s : ByteArray) (w : World) : Calls Tryz.prog 56 #[.string s, .string { data := #[41] }] w fun e w' =>
    e = .returned (.bool (decide (s.data.toList.head? = some 41))) ∧ w = w' := by
  refine (Tryz.strings_HasPrefix s { data := #[41] } w).mono ?_
  rintro e w' ⟨rfl, rfl⟩
  exact ⟨by rw [← prefix_one], rfl⟩
theorem trimPrefix_any (s : ByteArray) (w : World) : Calls Tryz.prog 58 #[.string s, .string { data := #[41] }] w fun e w' =>
    e = .returned (.string (bs (if s.data.toList.head? = some 41 then s.data.toList.drop 1 else s.data.toList))) ∧ w = w' := by
  refine (Tryz.strings_TrimPrefix s { data := #[41] } w).mono ?_
  rintro e w' ⟨rfl, rfl⟩
  refine ⟨?_, rfl⟩
  show Ending.returned (.string ⟨(Lib.trimPrefix s.data.toList [41]).toArray⟩) = _
  unfold Lib.trimPrefix
  rw [prefix_one]
  by_cases h1 : s.data.toList.head? = some 41
  · rw [decide_eq_true h1, if_pos rfl, if_pos h1]; rfl
  · rw [decide_eq_false h1, if_neg (by decide), if_neg h1]; rfl

theorem infoStr : (Tryz.prog.info? 9).map (fun i => (i.zero, i.size, i.bytes)) = some (some (.string { data := #[] }), 1, 16) := by kernel_rfl

def slenS : Value → Nat | .string b => b.size | _ => 0
def bnat : Value → Nat | .bool true => 1 | _ => 0

/-- after some rounds: what is left, what is made -/
structure MetRel (w wr : World) (l : List UInt8) (R : ByteArray) (v : Value) (ts : List (List UInt8)) : Prop where
  out : Out w wr 9 1 v ts.length (ts.map sv)
  says : scan l = (ts ++ (scan R.data.toList).1, (scan R.data.toList).2)
  few : ts.length + R.size ≤ l.length

theorem MetRel.step {w wr w' : World} {l : List UInt8} {R : ByteArray} {v v' : Value} {ts : List (List UInt8)} (h : MetRel w wr l R v ts) (h1 : ¬ R.data.toList.head? = some 41) (h2 : tyLen R.data.toList ≠ 0)
    (ho : Out w w' 9 1 v' (ts.length + 1) (ts.map sv ++ [.string (R.extract 0 (tyLen R.data.toList))])) : MetRel w w' l (R.extract (tyLen R.data.toList) R.size) v' (ts ++ [R.data.toList.take (tyLen R.data.toList)]) := by
  have hle := tyLen_le R.data.toList
  rw [size_len] at hle
  refine ⟨?_, ?_, ?_⟩
  · have : (ts ++ [R.data.toList.take (tyLen R.data.toList)]).map sv = ts.map sv ++ [.string (R.extract 0 (tyLen R.data.toList))] := by
      rw [List.map_append, extract_bs]; rfl
    rw [this, List.length_append]; exact ho
  · have hd : (R.extract (tyLen R.data.toList) R.size).data.toList = R.data.toList.drop (tyLen R.data.toList) := by
      rw [extract_bs, bs_data, ← size_len, List.take_length]
    rw [hd, h.says, scan_step h1 h2]
    simp
  · have := h.few
    rw [List.length_append, ByteArray.size_extract]
    simp only [List.length_cons, List.length_nil]; omega

theorem met_end {S l : List UInt8} {w wr : World} {R : ByteArray} {v : Value} {ts : List (List UInt8)} (hS : S = 40 :: l) (h : MetRel w wr l R v ts) (h1 : R.data.toList.head? = some 41) :
    methodOf S = if ts.length ≤ 5 ∧ (R.data.toList.drop 1 = [86] ∨ isTy (R.data.toList.drop 1) = true) then some (ts, R.data.toList.drop 1) else none := by
  have h2 := h.says
  rw [scan_stop (.inl h1)] at h2
  subst hS
  simp only [methodOf, h2, List.append_nil, h1, true_and]
theorem met_stuck {S l : List UInt8} {w wr : World} {R : ByteArray} {v : Value} {ts : List (List UInt8)} (hS : S = 40 :: l) (h : MetRel w wr l R v ts) (h1 : ¬ R.data.toList.head? = some 41) (h0 : tyLen R.data.toList = 0) : methodOf S = none := by
  have h2 := h.says
  rw [scan_stop (.inr h0)] at h2
  subst hS
  simp only [methodOf, h2, h1, false_and, and_false, if_false]

set_option maxRecDepth 100000 in
set_option maxHeartbeats 2000000 in
theorem method_any (s : ByteArray) (w : World) (hs : s.size ≤ 10000000) : Calls Tryz.prog 29 #[.string s] w (MethodBy w s.data.toList) := by
  have HL := hid (size_len s)
  by_cases h40 : s.data.toList.head? = some 40
  · obtain ⟨l, hl⟩ : ∃ l, s.data.toList = 40 :: l := by
      cases h : s.data.toList with
      | nil => rw [h] at h40; cases h40
      | cons b r => rw [h] at h40; cases h40; exact ⟨r, rfl⟩
    have H40 := hid h40; have HS := hid hl
    have hll : l.length + 1 = s.size := by rw [← HL.out, hl]; rfl
    have hl1 : s.data.toList.drop 1 = l := by rw [hl]; rfl
    have HD := hid hl1
    clear h40 hl hl1
    go_enter Tryz.func29, Tryz.ntmps29
    go_wp2_with fail
    refine (cutPrefix_any s _).mono ?_
    rintro e w1 ⟨rfl, rfl⟩
    rw [if_pos H40.out, HD.out]
    go_wp2_with fail
    go_loopw [5, 6, 7] (fun r i v wr => ∃ R ts, r = .string R ∧ ((i = .bool true ∧ Hid (MetRel w wr l R v ts)) ∨ (i = .bool false ∧ Hid (methodOf s.data.toList = none ∧ Below w.heap.size w wr)))) (fun r i _ _ => slenS r + bnat i)
    case atStart => exact ⟨bs l, [], rfl, .inl ⟨rfl, hid ⟨Out.nil _ _ _, by simp [bs_data], by rw [bs_size]; simp⟩⟩⟩
    case round =>
      obtain ⟨R, ts, rfl, ⟨rfl, HR⟩ | ⟨rfl, HN⟩⟩ := hrel
      · have hfew := HR.out.few
        have hRs : R.size ≤ 10000000 := by omega
        by_cases h41 : R.data.toList.head? = some 41
        · have HE := hid (met_end HS.out HR.out h41)
          obtain ⟨a, c, rfl⟩ := HR.out.out.sl.val
          obtain ⟨G, hG⟩ : ∃ G, bs (R.data.toList.drop 1) = G := ⟨_, rfl⟩
          have hGs : G.size ≤ 10000000 := by rw [← hG, bs_size, List.length_drop, size_len]; omega
          have hGd : G.data.toList = R.data.toList.drop 1 := by rw [← hG]; rfl
          rw [← hGd] at HE
          have H41 := hid h41; have HG := hid hG
          clear h41 hG hGd
          by_cases h5 : ts.length ≤ 5
          · have k5 : ¬ (5 : Int) < (ts.length : Int) := by omega
            by_cases hV : G.data.toList = [86]
            · have g1 : G.toList = [86] := str_list.2 hV
              have HM : Hid (methodOf s.data.toList = some (ts, G.data.toList)) := hid (by rw [HE.out, if_pos ⟨h5, .inl hV⟩])
              clear hV h5
              go_wp2_with fail
              refine (hasPrefix_any R _).mono ?_
              rintro e w2 ⟨rfl, rfl⟩
              rw [decide_eq_true H41.out]
              go_wp2_with fail
              refine (trimPrefix_any R _).mono ?_
              rintro e w2 ⟨rfl, rfl⟩
              rw [if_pos H41.out, HG.out]
              go_wp2_with fail
              go_ret3
              exact methodBy_yes HM.out HR.out.out
            · have g1 : ¬ G.toList = [86] := fun h => hV (str_list.1 h)
              have g2 : (G.toList == [86]) = false := beq_eq_false_iff_ne.2 g1
              cases hT : isTy G.data.toList with
              | true =>
                have HM : Hid (methodOf s.data.toList = some (ts, G.data.toList)) := hid (by rw [HE.out, if_pos ⟨h5, .inr hT⟩])
                have HT := hid hT
                clear hV h5 hT
                go_wp2_with fail
                refine (hasPrefix_any R _).mono ?_
                rintro e w2 ⟨rfl, rfl⟩
                rw [decide_eq_true H41.out]
                go_wp2_with fail
                refine (trimPrefix_any R _).mono ?_
                rintro e w2 ⟨rfl, rfl⟩
                rw [if_pos H41.out, HG.out]
                go_wp2_with fail
                refine (tcheck_any G _ (by omega)).mono ?_
                intro e w3 h3
                obtain ⟨rfl, hb3⟩ := checked_true h3 HT.out
                clear h3
                go_wp2_with fail
                go_ret3
                exact methodBy_yes HM.out (HR.out.out.later hb3)
              | false =>
                have HM : Hid (methodOf s.data.toList = none) := hid (by rw [HE.out, if_neg]; rintro ⟨_, h | h⟩; exact hV h; rw [hT] at h; cases h)
                have HT := hid hT
                clear hV h5 hT
                go_wp2_with fail
                refine (hasPrefix_any R _).mono ?_
                rintro e w2 ⟨rfl, rfl⟩
                rw [decide_eq_true H41.out]
                go_wp2_with fail
                refine (trimPrefix_any R _).mono ?_
                rintro e w2 ⟨rfl, rfl⟩
                rw [if_pos H41.out, HG.out]
                go_wp2_with fail
                refine (tcheck_any G _ (by omega)).mono ?_
                intro e w3 h3
                obtain ⟨rfl, hb3⟩ := checked_false h3 HT.out
                clear h3
                go_wp2_with fail
                go_ret3
                exact methodBy_no HM.out (HR.out.out.below.trans (hb3.mono HR.out.out.below.size))
          · have k5 : (5 : Int) < (ts.length : Int) := by omega
            have HM : Hid (methodOf s.data.toList = none) := hid (by rw [HE.out, if_neg]; rintro ⟨h, _⟩; exact h5 h)
            clear h5
            go_wp2_with fail
            refine (hasPrefix_any R _).mono ?_
            rintro e w2 ⟨rfl, rfl⟩
            rw [decide_eq_true H41.out]
            go_wp2_with fail
            refine (trimPrefix_any R _).mono ?_
            rintro e w2 ⟨rfl, rfl⟩
            rw [if_pos H41.out, HG.out]
            go_wp2_with fail
            go_ret3
            exact methodBy_no HM.out HR.out.out.below
        · have H41 := hid h41
          by_cases h0 : tyLen R.data.toList = 0
          · have HM := hid (met_stuck HS.out HR.out h41 h0)
            have H0 := hid h0
            clear h41 h0
            go_wp2_with fail
            refine (hasPrefix_any R _).mono ?_
            rintro e w2 ⟨rfl, rfl⟩
            rw [decide_eq_false H41.out]
            go_wp2_with fail
            refine (cut_any R _ (by omega)).mono ?_
            rintro e w3 ⟨rfl, hb3⟩
            rw [if_pos H0.out]
            go_wp2_with fail
            go_roundw
            case rel => exact ⟨R, ts, rfl, .inr ⟨rfl, hid ⟨HM.out, HR.out.out.below.trans (hb3.mono HR.out.out.below.size)⟩⟩⟩
            case measure => simp [slenS, bnat]
          · have hstep := fun (w' : World) (v' : Value) => MetRel.step (w' := w') (v' := v') HR.out h41 h0
            have HSTEP := hid hstep
            have hle := tyLen_le R.data.toList
            rw [size_len] at hle
            have H0 := hid h0
            have hn : 0 < tyLen R.data.toList := by omega
            clear h41 h0 hstep
            go_wp2_with fail
            refine (hasPrefix_any R _).mono ?_
            rintro e w2 ⟨rfl, rfl⟩
            rw [decide_eq_false H41.out]
            go_wp2_with fail
            refine (cut_any R _ (by omega)).mono ?_
            rintro e w3 ⟨rfl, hb3⟩
            rw [if_neg H0.out]
            have hout := HR.out.out.later hb3
            generalize tyLen R.data.toList = n at hle hn HSTEP ⊢
            go_wp2_with (at_builtin; go_loud (refine wpList_append_lit w _ _ rfl _ _ 24 rfl 9 (.string { data := #[] }) 1 16 _ Tryz.underlying24 infoStr rfl (by decide) _ _ _ hout rfl rfl rfl ?_ ?_ ?_ ?_))
            all_goals first | (intro v' w' hout' _hg) | omega | (simp [Value.oneCell']; done) | skip
            all_goals go_wp2
            all_goals go_roundw
            case rel => exact ⟨_, _, rfl, .inl ⟨rfl, hid (HSTEP.out _ _ hout')⟩⟩
            case measure => simp [slenS, bnat, ByteArray.size_extract]; omega
      · go_wp2_with fail
        refine (trimPrefix_any R _).mono ?_
        rintro e w2 ⟨rfl, rfl⟩
        generalize bs (if R.data.toList.head? = some 41 then R.data.toList.drop 1 else R.data.toList) = G
        go_wp2_with fail
        go_ret3
        exact methodBy_no HN.out.1 HN.out.2
  · have HN : Hid (methodOf s.data.toList = none) := hid (by
      cases h : s.data.toList with
      | nil => rfl
      | cons c l => simp only [methodOf]; rw [if_neg]; rintro ⟨rfl, _⟩; rw [h] at h40; exact h40 rfl)
    have H40 := hid h40; clear h40
    go_enter Tryz.func29, Tryz.ntmps29
    go_wp2_with fail
    refine (cutPrefix_any s _).mono ?_
    rintro e w1 ⟨rfl, rfl⟩
    rw [if_neg H40.out]
    go_wp2_with fail
    go_loopw [5, 6, 7] (fun r i v wr => ∃ R, r = .string R ∧ i = .bool false ∧ w = wr) (fun r i _ _ => slenS r + bnat i)
    case atStart => exact ⟨s, rfl, rfl, rfl⟩
    case round =>
      obtain ⟨R, rfl, rfl, rfl⟩ := hrel
      go_wp2_with fail
      refine (trimPrefix_any R _).mono ?_
      rintro e w2 ⟨rfl, rfl⟩
      generalize bs (if R.data.toList.head? = some 41 then R.data.toList.drop 1 else R.data.toList) = G
      go_wp2_with fail
      go_ret3
      exact methodBy_no HN.out (Below.refl _ _)

end Go.Proofs.YtloeaihbnnnncaaGreatDoor.descs
