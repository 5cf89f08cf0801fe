/- Types as texts: the reference's TypeAt and IsType. Condition: the index lies within the text. -/
import Derived.Test.YtogpgfaojmmemaaDoorDesc2
namespace Go.Proofs.YtogpgfaojmmemaaDoor.descs
open Go.RowKit Go.Proofs.YtogpgfaojmmemaaDoor.lib Go.Proofs.YtogpgfaojmmemaaDoor.errs Go.Proofs.YtogpgfaojmmemaaDoor.names

theorem index_first {l : List UInt8} {c : UInt8} {o : Nat} (h : ∀ j, j < o → l[j]? ≠ some c) (ho : l[o]? = some c) : Lib.indexByte l c = (o : Int) := by
  have hge := Lib.indexByte_ge l c
  by_cases hi : Lib.indexByte l c = -1
  · exact absurd ho (Lib.indexByte_none hi o)
  · obtain ⟨o', ho'⟩ : ∃ o' : Nat, Lib.indexByte l c = (o' : Int) := ⟨(Lib.indexByte l c).toNat, by omega⟩
    obtain ⟨h1, h2⟩ := Lib.indexByte_some ho'
    have : o' = o := by
      rcases Nat.lt_trichotomy o' o with h3 | h3 | h3
      · exact absurd h1 (h o' h3)
      · exact h3
      · exact absurd ho (h2 o h3)
    rw [ho', this]
theorem index_never {l : List UInt8} {c : UInt8} (h : ∀ j, j < l.length → l[j]? ≠ some c) : Lib.indexByte l c = -1 := by
  have hge := Lib.indexByte_ge l c
  by_cases hi : Lib.indexByte l c = -1
  · exact hi
  · obtain ⟨o', ho'⟩ : ∃ o' : Nat, Lib.indexByte l c = (o' : Int) := ⟨(Lib.indexByte l c).toNat, by omega⟩
    obtain ⟨h1, h2⟩ := Lib.indexByte_some ho'
    exact absurd h1 (h o' (List.getElem?_eq_some_iff.1 h1).1)

theorem drop_byte {s : ByteArray} {i : Nat} (h : i < s.size) : s.data.toList.drop i = s[i] :: s.data.toList.drop (i + 1) := by
  have hl : i < s.data.toList.length := by rw [size_len]; exact h
  rw [List.drop_eq_getElem_cons hl]
  congr 1

/-- what lies behind the opening brackets -/
def Behind (S : List UInt8) (at_ i : Nat) : Prop := (S.drop at_).dropWhile (· == (91 : UInt8)) = (S.drop i).dropWhile (· == (91 : UInt8))

theorem behind_step {s : ByteArray} {at_ i : Nat} (h : Behind s.data.toList at_ i) (hi : i < s.size) (hc : s[i] = 91) : Behind s.data.toList at_ (i + 1) := by
  unfold Behind at *
  rw [h, drop_byte hi, hc]; rfl
theorem behind_end {s : ByteArray} {at_ i : Nat} (h : Behind s.data.toList at_ i) (hi : i < s.size) (hc : ¬ s[i] = 91) : (s.data.toList.drop at_).dropWhile (· == (91 : UInt8)) = s[i] :: s.data.toList.drop (i + 1) := by
  unfold Behind at h
  rw [h, drop_byte hi, List.dropWhile_cons, if_neg (by simpa using hc)]
theorem behind_out {s : ByteArray} {at_ i : Nat} (h : Behind s.data.toList at_ i) (hi : s.size ≤ i) : (s.data.toList.drop at_).dropWhile (· == (91 : UInt8)) = [] := by
  unfold Behind at h
  rw [h, List.drop_eq_nil_of_le (by rw [size_len]; exact hi)]; rfl
theorem behind_len {s : ByteArray} {at_ i : Nat} (ha : at_ ≤ i) (hi : i < s.size) : (s.data.toList.drop at_).length - (s[i] :: s.data.toList.drop (i + 1)).length = i - at_ := by
  rw [← drop_byte hi, List.length_drop, List.length_drop, size_len]; omega

/-- where a type ends; 0: there is none -/
def tyEnd (b n : Nat) : Value := .int .i64 ((if n = 0 then 0 else b + n : Nat) : Int)
theorem tyEnd_no {b n : Nat} (h : n = 0) : tyEnd b n = .int .i64 0 := by unfold tyEnd; rw [if_pos h]; rfl
theorem tyEnd_yes {b n : Nat} {z : Int} (h : n ≠ 0) (hz : z = ((b + n : Nat) : Int)) : tyEnd b n = .int .i64 z := by unfold tyEnd; rw [if_neg h, hz]

set_option maxRecDepth 100000 in
set_option maxHeartbeats 2000000 in
theorem typeAt_any (s : ByteArray) (b : Nat) (w : World) (hs : s.size ≤ 9223372036854775807) (hb : b ≤ s.size) :
    Calls Tryd.prog 34 #[.string s, .int .i64 b] w fun e w' => e = .returned (tyEnd b (tyLen (s.data.toList.drop b))) ∧ w = w' := by
  obtain ⟨L, hL⟩ : ∃ L, tyLen (s.data.toList.drop b) = L := ⟨_, rfl⟩
  have HL := hid hL; clear hL
  rw [HL.out]
  go_enter Tryd.func34, Tryd.ntmps34
  go_wp2_with fail
  go_loop [5] (fun i => ∃ k : Nat, b ≤ k ∧ k ≤ s.size ∧ i = .int .i64 k ∧ Hid (Behind s.data.toList b k)) (fun i => s.size - (intOf i).toNat)
  case atStart => exact ⟨b, Nat.le_refl _, hb, rfl, hid rfl⟩
  case round =>
    obtain ⟨i, hbi, hi, rfl, HB⟩ := hrel
    by_cases hlt : i < s.size
    · have hl1 : (i : Int) < (s.size : Int) := by omega
      by_cases h91 : s[i] = 91
      · have HS := hid (behind_step HB.out hlt h91)
        go_wp2
        go_round
        case rel => exact ⟨i + 1, by omega, by omega, by go_num, HS⟩
        case measure => simp [intOf]; omega
      · have HE := hid (behind_end HB.out hlt h91)
        have HEL := hid (behind_len hbi hlt)
        have u91 : ¬ (s[i].toNat : Int) = 91 := fun h => h91 (UInt8.toNat_inj.1 (by simpa using (by omega : s[i].toNat = 91)))
        by_cases h3 : 3 < i - b
        · have HN : Hid (L = 0) := hid (by rw [← HL.out]; exact ty_deep (by rw [HE.out, HEL.out]; exact h3))
          have h3' : (3 : Int) < (i : Int) - (b : Int) := by omega
          go_wp2
          go_ret
          rw [tyEnd_no HN.out]
          exact ⟨rfl, rfl⟩
        · have h3' : ¬ (3 : Int) < (i : Int) - (b : Int) := by omega
          have h3n : ¬ 3 < (s.data.toList.drop b).length - (s[i] :: s.data.toList.drop (i + 1)).length := by rw [HEL.out]; exact h3
          have hi2 : ¬ (s.size : Int) ≤ (i : Int) := by omega
          by_cases hc : s[i] = 73
          · have uc : (s[i].toNat : Int) = 73 := by rw [hc]; rfl
            have HN : Hid (L = i - b + 1) := hid (by rw [← HL.out, ty_word HE.out h3n (.inl hc), HEL.out])
            have HZ : Hid (tyEnd b L = .int .i64 ((i : Int) + 1)) := hid (tyEnd_yes (by rw [HN.out]; omega) (by rw [HN.out]; omega))
            clear h3n HE HEL
            go_wp2
            go_ret
            rw [HZ.out]
            exact ⟨rfl, rfl⟩
          · have uc : ¬ (s[i].toNat : Int) = 73 := fun h => hc (UInt8.toNat_inj.1 (by simpa using (by omega : s[i].toNat = 73)))
            by_cases hc2 : s[i] = 74
            · have uc2 : (s[i].toNat : Int) = 74 := by rw [hc2]; rfl
              have HN : Hid (L = i - b + 1) := hid (by rw [← HL.out, ty_word HE.out h3n (.inr hc2), HEL.out])
              have HZ : Hid (tyEnd b L = .int .i64 ((i : Int) + 1)) := hid (tyEnd_yes (by rw [HN.out]; omega) (by rw [HN.out]; omega))
              clear h3n HE HEL
              go_wp2
              go_ret
              rw [HZ.out]
              exact ⟨rfl, rfl⟩
            · have uc2 : ¬ (s[i].toNat : Int) = 74 := fun h => hc2 (UInt8.toNat_inj.1 (by simpa using (by omega : s[i].toNat = 74)))
              by_cases hcd : s[i] = 76
              · have uc3 : (s[i].toNat : Int) = 76 := by rw [hcd]; rfl
                have HD := hid (drop_byte hlt)
                have HC := hid hcd
                have H3 := hid h3n
                clear h3n h91 h3 hc hc2 hcd
                go_wp2_with fail
                go_loop [6] (fun v => ∃ k : Nat, i + 1 ≤ k ∧ k ≤ s.size ∧ v = .int .i64 k ∧ Hid (∀ j, j < k - i → (s.data.toList.drop i)[j]? ≠ some 59)) (fun v => s.size - (intOf v).toNat)
                case atStart =>
                  refine ⟨i + 1, Nat.le_refl _, by omega, by go_num, hid (fun j hj => ?_)⟩
                  obtain rfl : j = 0 := by omega
                  rw [HD.out, HC.out]
                  simp
                case round =>
                  obtain ⟨k, hik, hk, rfl, HK⟩ := hrel
                  by_cases hkl : k < s.size
                  · have hk1 : (k : Int) < (s.size : Int) := by omega
                    have hat : (s.data.toList.drop i)[k - i]? = some s[k] := by rw [List.getElem?_drop, show i + (k - i) = k by omega]; exact names.byte_at hkl
                    by_cases h59 : s[k] = 59
                    · have u59 : (s[k].toNat : Int) = 59 := by rw [h59]; rfl
                      have hix := index_first HK.out (by rw [hat, h59])
                      rw [HD.out, HC.out] at hix
                      have hcl := ty_class (by rw [HE.out, HC.out]) (by have := H3.out; rwa [HC.out] at this) hix
                      rw [← HC.out, HEL.out, HL.out] at hcl
                      have hx : (s.extract (i + 1) k).data.toList = ((s[i] :: s.data.toList.drop (i + 1)).take (k - i)).drop 1 := by
                        rw [Lib.extract_data, List.drop_take, List.drop_succ_cons, List.drop_zero]; congr 1
                      rw [← hx] at hcl
                      have HCL := hid hcl
                      have hes : (s.extract (i + 1) k).size ≤ 9223372036854775807 := by rw [ByteArray.size_extract]; omega
                      have k0 : ¬ (k : Int) = (s.size : Int) := by omega
                      have k1 : (i : Int) + 1 ≤ (k : Int) := by omega
                      have k2 : (k : Int) ≤ (s.size : Int) := by omega
                      clear hcl hix hat hx
                      cases hnm : nameOk (s.extract (i + 1) k).data.toList with
                      | false =>
                        have HN : Hid (L = 0) := hid (by rw [HCL.out, if_neg (by rw [hnm]; decide)])
                        have HNM := hid hnm; clear hnm
                        go_wp2_with fail
                        refine (isName_any _ _ hes).mono ?_
                        rintro e w1 ⟨rfl, rfl⟩
                        rw [HNM.out]
                        go_wp2
                        go_ret
                        rw [tyEnd_no HN.out]
                        exact ⟨rfl, rfl⟩
                      | true =>
                        have HN : Hid (L = i - b + (k - i + 1)) := hid (by rw [HCL.out, if_pos hnm])
                        have HZ : Hid (tyEnd b L = .int .i64 ((k : Int) + 1)) := hid (tyEnd_yes (by rw [HN.out]; omega) (by rw [HN.out]; omega))
                        have HNM := hid hnm; clear hnm
                        go_wp2_with fail
                        refine (isName_any _ _ hes).mono ?_
                        rintro e w1 ⟨rfl, rfl⟩
                        rw [HNM.out]
                        go_wp2
                        go_ret
                        rw [HZ.out]
                        exact ⟨rfl, rfl⟩
                    · have u59 : ¬ (s[k].toNat : Int) = 59 := fun h => h59 (UInt8.toNat_inj.1 (by simpa using (by omega : s[k].toNat = 59)))
                      have HS : Hid (∀ j, j < (k + 1) - i → (s.data.toList.drop i)[j]? ≠ some 59) := hid (fun j hj => by
                        rcases Nat.lt_or_ge j (k - i) with h | h
                        · exact HK.out j h
                        · obtain rfl : j = k - i := by omega
                          rw [hat]; simpa using h59)
                      clear hat
                      go_wp2
                      go_round
                      case rel => exact ⟨k + 1, by omega, by omega, by go_num, HS⟩
                      case measure => simp [intOf]; omega
                  · obtain rfl : k = s.size := by omega
                    have hix : Lib.indexByte (s.data.toList.drop i) 59 = -1 := index_never (fun j hj => HK.out j (by rw [List.length_drop, size_len] at hj; exact hj))
                    rw [HD.out, HC.out] at hix
                    have HN : Hid (L = 0) := hid (by rw [← HL.out]; exact ty_open (by rw [HE.out, HC.out]) hix)
                    clear hix
                    go_wp2
                    go_ret
                    rw [tyEnd_no HN.out]
                    exact ⟨rfl, rfl⟩
              · have uc3 : ¬ (s[i].toNat : Int) = 76 := fun h => hcd (UInt8.toNat_inj.1 (by simpa using (by omega : s[i].toNat = 76)))
                have HN : Hid (L = 0) := hid (by rw [← HL.out]; exact ty_other HE.out (by rintro (h | h); exact hc h; exact hc2 h) hcd)
                clear h3n
                have n1 : ((s[i].toNat : Int) == 73) = false := beq_eq_false_iff_ne.2 uc
                have n2 : ((s[i].toNat : Int) == 74) = false := beq_eq_false_iff_ne.2 uc2
                have n3 : ((s[i].toNat : Int) == 76) = false := beq_eq_false_iff_ne.2 uc3
                go_wp2
                go_ret
                rw [tyEnd_no HN.out]
                exact ⟨rfl, rfl⟩
    · obtain rfl : i = s.size := by omega
      have HN : Hid (L = 0) := hid (by rw [← HL.out]; exact ty_empty (behind_out HB.out (Nat.le_refl _)))
      go_wp2
      all_goals go_ret
      all_goals rw [tyEnd_no HN.out]
      all_goals exact ⟨rfl, rfl⟩

set_option maxHeartbeats 400000 in
theorem isType_any (s : ByteArray) (w : World) (hs : s.size ≤ 9223372036854775807) : Calls Tryd.prog 35 #[.string s] w fun e w' => e = .returned (.bool (isTy s.data.toList)) ∧ w = w' := by
  have hl := size_len s
  by_cases h0 : s.size = 0
  · have HN : Hid (isTy s.data.toList = false) := hid (by
      have : s.data.toList = [] := List.eq_nil_of_length_eq_zero (by omega)
      rw [this]; rfl)
    have h1 : ¬ (0 : Int) < (s.size : Int) := by omega
    clear hl
    go_enter Tryd.func35, Tryd.ntmps35
    go_wp2
    go_ret
    rw [HN.out]
    exact ⟨rfl, rfl⟩
  · have h1 : (0 : Int) < (s.size : Int) := by omega
    have hh := typeAt_any s 0 w hs (Nat.zero_le _)
    rw [List.drop_zero] at hh
    have HH := hid hh
    have HN : Hid ((tyEnd 0 (tyLen s.data.toList) = .int .i64 0 ∧ isTy s.data.toList = false) ∨ (tyEnd 0 (tyLen s.data.toList) = .int .i64 (tyLen s.data.toList : Nat) ∧ isTy s.data.toList = ((tyLen s.data.toList : Int) == (s.size : Int)))) := hid (by
      by_cases hn : tyLen s.data.toList = 0
      · exact .inl ⟨tyEnd_no hn, by simp [isTy, hn]⟩
      · refine .inr ⟨tyEnd_yes hn (by simp), ?_⟩
        rw [Bool.eq_iff_iff]
        simp only [isTy, hl, decide_eq_true_eq, beq_iff_eq]
        omega)
    clear hh hl
    go_enter Tryd.func35, Tryd.ntmps35
    go_wp2_with fail
    refine HH.out.mono ?_
    rintro e w1 ⟨rfl, rfl⟩
    rcases HN.out with ⟨h2, h3⟩ | ⟨h2, h3⟩
    · have H3 := hid h3; clear h3
      rw [h2]
      have k0 : ¬ (0 : Int) = (s.size : Int) := by omega
      clear h2
      go_wp2
      go_ret
      rw [H3.out]
      exact ⟨by simp; omega, rfl⟩
    · have H3 := hid h3; clear h3
      rw [h2]
      clear h2
      go_wp2
      go_ret
      rw [H3.out]
      exact ⟨rfl, rfl⟩

end Go.Proofs.YtogpgfaojmmemaaDoor.descs
