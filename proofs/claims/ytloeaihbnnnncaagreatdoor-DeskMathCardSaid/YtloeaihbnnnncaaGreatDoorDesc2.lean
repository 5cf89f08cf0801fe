/- Types as texts: desc.Check, Number. No condition. -/
import Derived.Test.YtloeaihbnnnncaaGreatDoorDesc
namespace Go.Proofs.YtloeaihbnnnncaaGreatDoor.descs
open Go.RowKit Go.Proofs.YtloeaihbnnnncaaGreatDoor.lib Go.Proofs.YtloeaihbnnnncaaGreatDoor.errs Go.Proofs.YtloeaihbnnnncaaGreatDoor.names

theorem tyLen_le (l : List UInt8) : tyLen l ≤ l.length := by
  have hl := dropWhile_len (· == (91 : UInt8)) l
  by_cases h3 : 3 < l.length - (l.dropWhile (· == 91)).length
  · rw [ty_deep h3]; omega
  · cases hr : l.dropWhile (· == 91) with
    | nil => rw [ty_empty hr]; omega
    | cons c r =>
      rw [hr] at h3 hl
      by_cases hc : c = 73 ∨ c = 74
      · rw [ty_word hr h3 hc]; simp only [List.length_cons] at hl ⊢; omega
      · by_cases hd : c = 76
        · subst hd
          have hge := Lib.indexByte_ge (76 :: r) 59
          by_cases hi : Lib.indexByte (76 :: r) 59 = -1
          · rw [ty_open hr hi]; omega
          · obtain ⟨o, ho⟩ : ∃ o : Nat, Lib.indexByte (76 :: r) 59 = (o : Int) := ⟨(Lib.indexByte (76 :: r) 59).toNat, by omega⟩
            have ho2 := (List.getElem?_eq_some_iff.1 (Lib.indexByte_some ho).1).1
            rw [ty_class hr h3 ho]
            split <;> omega
        · rw [ty_other hr hc hd]; omega

def isTy (l : List UInt8) : Bool := decide (tyLen l ≠ 0 ∧ tyLen l = l.length)
def isWd (l : List UInt8) : Bool := decide (l = [73] ∨ l = [74])

theorem size_len (s : ByteArray) : s.data.toList.length = s.size := by rw [Array.length_toList]; rfl

set_option maxRecDepth 100000 in
set_option maxHeartbeats 1000000 in
theorem tcheck_any (s : ByteArray) (w : World) (hs : s.size ≤ 9223372036854775807) : Calls Tryz.prog 59 #[.string s] w (names.Checked w (isTy s.data.toList)) := by
  have hle := tyLen_le s.data.toList
  rw [size_len] at hle
  by_cases h0 : tyLen s.data.toList = 0
  · have HN : Hid (isTy s.data.toList = false) := hid (by simp [isTy, h0])
    have H0 := hid h0
    clear h0 hle
    go_enter Tryz.func59, Tryz.ntmps59
    go_wp2_with fail
    refine (cut_any s _ hs).mono ?_
    intro e w1 h1
    rw [H0.out] at h1
    obtain ⟨rfl, hb1⟩ := h1
    go_wp2
    go_ret
    rw [HN.out]
    exact ⟨rfl, hb1⟩
  · obtain ⟨R, hR⟩ : ∃ R, s.extract (tyLen s.data.toList) s.size = R := ⟨_, rfl⟩
    have hRs : R.size = s.size - tyLen s.data.toList := by rw [← hR, ByteArray.size_extract]; omega
    have H0 := hid h0
    have HR := hid hR
    by_cases h1 : tyLen s.data.toList = s.size
    · have HN : Hid (isTy s.data.toList = true) := hid (by simp only [isTy, size_len]; exact decide_eq_true ⟨h0, h1⟩)
      have he' : R.toList = [] := by rw [ByteArray.toList_eq]; exact List.eq_nil_of_length_eq_zero (by rw [size_len]; omega)
      have he : R.toList.isEmpty = true := by rw [he']; rfl
      clear h0 hle h1 hR hRs
      go_enter Tryz.func59, Tryz.ntmps59
      go_wp2_with fail
      refine (cut_any s _ hs).mono ?_
      rintro e w1 ⟨rfl, hb1⟩
      rw [if_neg H0.out, HR.out]
      go_wp2
      go_ret
      rw [HN.out]
      exact ⟨rfl, hb1⟩
    · have HN : Hid (isTy s.data.toList = false) := hid (by simp only [isTy, size_len]; exact decide_eq_false (fun h => h1 h.2))
      have he' : ¬ R.toList = [] := fun hq => by rw [ByteArray.toList_eq] at hq; have h9 := size_len R; rw [hq, List.length_nil] at h9; omega
      have he : R.toList.isEmpty = false := by cases h : R.toList with
        | nil => exact absurd h he'
        | cons => rfl
      clear h0 hle h1 hR hRs
      go_enter Tryz.func59, Tryz.ntmps59
      go_wp2_with fail
      refine (cut_any s _ hs).mono ?_
      rintro e w1 ⟨rfl, hb1⟩
      rw [if_neg H0.out, HR.out]
      go_wp2
      go_ret
      rw [HN.out]
      exact ⟨rfl, hb1⟩

theorem str_list {s : ByteArray} {l : List UInt8} : s.toList = l ↔ s.data.toList = l := by rw [ByteArray.toList_eq]

set_option maxHeartbeats 400000 in
theorem number_any (s : ByteArray) (w : World) : Calls Tryz.prog 41 #[.string s] w fun e w' => e = .returned (.bool (isWd s.data.toList)) ∧ w = w' := by
  obtain ⟨B, hB⟩ : ∃ B, isWd s.data.toList = B := ⟨_, rfl⟩
  have HB := hid hB
  by_cases h1 : s.data.toList = [73]
  · have g1 : s.toList = [73] := str_list.2 h1
    have HT : Hid (B = true) := hid (by rw [← hB]; simp [isWd, h1])
    clear h1 hB
    go_enter Tryz.func41, Tryz.ntmps41
    go_wp2
    go_ret
    rw [HB.out, HT.out]
    exact ⟨rfl, rfl⟩
  · have g1 : ¬ s.toList = [73] := fun h => h1 (str_list.1 h)
    by_cases h2 : s.data.toList = [74]
    · have g2 : s.toList = [74] := str_list.2 h2
      have HT : Hid (B = true) := hid (by rw [← hB]; simp [isWd, h2])
      clear h1 hB h2
      go_enter Tryz.func41, Tryz.ntmps41
      go_wp2
      go_ret
      rw [HB.out, HT.out]
      exact ⟨rfl, rfl⟩
    · have g2 : ¬ s.toList = [74] := fun h => h2 (str_list.1 h)
      have HT : Hid (B = false) := hid (by rw [← hB]; simp [isWd, h1, h2])
      clear h1 hB h2
      go_enter Tryz.func41, Tryz.ntmps41
      go_wp2
      go_ret
      rw [HB.out, HT.out]
      exact ⟨by simp [g1, g2], rfl⟩

theorem isWd_eq (s : ByteArray) : isWd s.data.toList = (s.toList == [73] || s.toList == [74]) := by
  rw [ByteArray.toList_eq, Bool.eq_iff_iff]; simp [isWd]

end Go.Proofs.YtloeaihbnnnncaaGreatDoor.descs
