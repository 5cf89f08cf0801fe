/- Types as texts: what desc.cut, Check, Number and Word compute, for every string. No condition. -/
import Derived.Test.YtloonnfelgokmaaGreatDoorZName
import Derived.Lib.IndexLaws
import Derived.BigQuiet
import Derived.IntWalk
import Derived.Test.YtloonnfelgokmaaGreatDoorZStrs
set_option maxRecDepth 100000
set_option maxHeartbeats 16000000
set_option linter.unusedSimpArgs false
set_option linter.unusedVariables false
namespace Go.Proofs.YtloonnfelgokmaaGreatDoor.descs
open Go.RowKit lib errs names
def tyLen (l : List UInt8) : Nat :=
 if 3 < l.length - (l.dropWhile (· == 91)).length then 0 else
 match l.dropWhile (· == 91) with
 | [] => 0
 | c :: r =>
  if c = 73 ∨ c = 74 then l.length - (c :: r).length + 1 else
  if c = 76 then
   if Lib.indexByte (c :: r) 59 = -1 then 0 else
   if nameOk (((c :: r).take (Lib.indexByte (c :: r) 59).toNat).drop 1) then l.length - (c :: r).length + ((Lib.indexByte (c :: r) 59).toNat + 1) else 0
  else 0
theorem dropWhile_len {α : Type} (p : α → Bool) (l : List α) : (l.dropWhile p).length ≤ l.length := (List.dropWhile_sublist p).length_le
theorem dropWhile_drop {α : Type} (p : α → Bool) : ∀ l : List α, l.drop (l.length - (l.dropWhile p).length) = l.dropWhile p
 | [] => rfl
 | x :: l => by
  simp only [List.dropWhile_cons]
  by_cases h : p x = true
  ·rw [if_pos h]
   have := dropWhile_len p l
   rw [show (x :: l).length - (l.dropWhile p).length = (l.length - (l.dropWhile p).length) + 1 from by simp only [List.length_cons]; omega, List.drop_succ_cons]
   exact dropWhile_drop p l
  ·rw [if_neg h]; simp
theorem ty_deep {l : List UInt8} (h : 3 < l.length - (l.dropWhile (· == 91)).length) : tyLen l = 0 := by unfold tyLen; rw [if_pos h]
theorem ty_empty {l : List UInt8} (h : l.dropWhile (· == 91) = []) : tyLen l = 0 := by unfold tyLen; rw [h]; simp
theorem ty_word {l r : List UInt8} {c : UInt8} (h : l.dropWhile (· == 91) = c :: r) (h3 : ¬ 3 < l.length - (c :: r).length) (hc : c = 73 ∨ c = 74) : tyLen l = l.length - (c :: r).length + 1 := by
 unfold tyLen; rw [h]; simp only; rw [if_neg h3, if_pos hc]
theorem ty_other {l r : List UInt8} {c : UInt8} (h : l.dropWhile (· == 91) = c :: r) (hc : ¬ (c = 73 ∨ c = 74)) (hd : c ≠ 76) : tyLen l = 0 := by
 unfold tyLen; rw [h]; simp only; rw [if_neg hc, if_neg hd]; simp
theorem ty_open {l r : List UInt8} (h : l.dropWhile (· == 91) = 76 :: r) (hi : Lib.indexByte (76 :: r) 59 = -1) : tyLen l = 0 := by
 unfold tyLen; rw [h]; simp [hi]
theorem ty_class {l r : List UInt8} {o : Nat} (h : l.dropWhile (· == 91) = 76 :: r) (h3 : ¬ 3 < l.length - (76 :: r : List UInt8).length) (hi : Lib.indexByte (76 :: r) 59 = (o : Int)) :
  tyLen l = if nameOk (((76 :: r).take o).drop 1) then l.length - (76 :: r : List UInt8).length + (o + 1) else 0 := by
 unfold tyLen; rw [h]; simp only; rw [if_neg h3, if_neg (by decide), if_pos trivial, hi, if_neg (by omega)]; rfl
def CutBy (w : World) (s : ByteArray) (n : Nat) (e : Ending) (w' : World) : Prop :=
 e = .returned (if n = 0 then .tuple #[.string { data := #[] }, .string s, .bool false] else .tuple #[.string (s.extract 0 n), .string (s.extract n s.size), .bool true]) ∧ Below w.heap.size w w'
theorem cutBy_yes {w w' : World} {s : ByteArray} {n : Nat} (hn : n ≠ 0) (hb : Below w.heap.size w w') : CutBy w s n (.returned (.tuple #[.string (s.extract 0 n), .string (s.extract n s.size), .bool true])) w' := by
 refine ⟨?_, hb⟩
 rw [if_neg hn]
theorem cutBy_no {w w' : World} {s : ByteArray} (hb : Below w.heap.size w w') : CutBy w s 0 (.returned (.tuple #[.string { data := #[] }, .string s, .bool false])) w' := ⟨rfl, hb⟩
theorem index_any (T : ByteArray) (w : World) : Calls Tryz.prog 97 #[.string T, .int .u8 59] w fun e w' => e = .returned (.int .i64 (Lib.indexByte T.data.toList 59)) ∧ w = w' :=
 (Tryz.strings_IndexByte T 59 w).mono fun _ _ ⟨h1, h2⟩ => ⟨h1, h2.symm⟩
theorem first_byte {T : ByteArray} {c : UInt8} {r : List UInt8} (h : T.data.toList = c :: r) : ∃ h0 : 0 < T.size, T[0] = c := by
 have hl : T.size = T.data.toList.length := by rw [Array.length_toList]; rfl
 have h0 : 0 < T.size := by rw [hl, h]; simp
 refine ⟨h0, ?_⟩
 have h5 : T.data.toList[0]? = some c := by rw [h]; rfl
 rw [Array.getElem?_toList] at h5
 have h6 : T.data[0]? = some T[0] := Array.getElem?_eq_getElem h0
 rw [h6] at h5
 exact Option.some.inj h5
theorem cut_any (s : ByteArray) (w : World) (hs : s.size ≤ 9223372036854775807) : Calls Tryz.prog 52 #[.string s] w (CutBy w s (tyLen s.data.toList)) := by
 have hsz : s.data.toList.length = s.size := by rw [Array.length_toList]; rfl
 obtain ⟨T, hT⟩ : ∃ T : ByteArray, ⟨(Lib.trimLeftB s.data.toList 91).toArray⟩ = T := ⟨_, rfl⟩
 have hTl : T.data.toList = s.data.toList.dropWhile (· == 91) := by rw [← hT]; rfl
 have hTs : T.data.toList.length = T.size := by rw [Array.length_toList]; rfl
 have hle : T.size ≤ s.size := by rw [← hTs, ← hsz, hTl]; exact dropWhile_len _ _
 obtain ⟨d, hd⟩ : ∃ d : Nat, d + T.size = s.size := ⟨s.size - T.size, by omega⟩
 have hx : s.extract d s.size = T := by
  apply ByteArray.ext
  apply Array.toList_inj.1
  rw [Lib.extract_data, hTl]
  have := dropWhile_drop (· == 91) s.data.toList
  rw [← hTl, hTs, hsz, show s.size - T.size = d by omega, hTl] at this
  rw [this, ← hsz]; exact List.take_of_length_le (by rw [← this, List.length_drop]; omega)
 have HT := hid hT; clear hT
 by_cases h3 : 3 < d
 ·have HN : Hid (tyLen s.data.toList = 0) := hid (ty_deep (by rw [← hTl, hTs, hsz]; omega))
  have hw : wrap64 ((s.size : Int) - (T.size : Int)) = (d : Int) := by rw [IntWalk.wrap64_in _ (by omega)]; omega
  have h3' : (3 : Int) < (d : Int) := by omega
  have h0 : (0 : Int) ≤ (d : Int) := by omega
  have h1 : (d : Int) ≤ (s.size : Int) := by omega
  clear hsz hTl hTs h3
  go_enter Tryz.func52, Tryz.ntmps52
  go_wp2_with fail
  refine (Tryz.strings_TrimLeft_one s 91 (by decide) w).mono ?_
  rintro e w1 ⟨rfl, rfl⟩
  rw [HT.out]
  go_wp2_with fail
  go_ret3
  rw [HN.out]
  exact ⟨rfl, Below.refl _ _⟩
 ·have hw : (s.size : Int) - (T.size : Int) = (d : Int) := by omega
  have hxx : s.extract (s.size - T.size) s.size = T := by rw [show s.size - T.size = d by omega]; exact hx
  have h3' : ¬ (3 : Int) < (d : Int) := by omega
  have h0 : (0 : Int) ≤ (d : Int) := by omega
  have h1 : (d : Int) ≤ (s.size : Int) := by omega
  cases hr : s.data.toList.dropWhile (· == 91) with
  | nil =>
   have HN : Hid (tyLen s.data.toList = 0) := hid (ty_empty hr)
   rw [hr] at hTl
   have he : T.toList.isEmpty = true := by rw [ByteArray.toList_eq, hTl]; rfl
   have he' : T.toList = [] := by rw [ByteArray.toList_eq, hTl]
   clear hsz hTl hTs h3 hr
   go_enter Tryz.func52, Tryz.ntmps52
   go_wp2_with fail
   refine (Tryz.strings_TrimLeft_one s 91 (by decide) w).mono ?_
   rintro e w1 ⟨rfl, rfl⟩
   rw [HT.out]
   go_wp2_with fail
   go_ret3
   rw [HN.out]
   exact ⟨rfl, Below.refl _ _⟩
  | cons c r =>
   rw [hr] at hTl
   have he : T.toList.isEmpty = false := by rw [ByteArray.toList_eq, hTl]; rfl
   have he' : ¬ T.toList = [] := by rw [ByteArray.toList_eq, hTl]; simp
   obtain ⟨hT0, hTc⟩ := first_byte hTl
   have hT0' : (0 : Int) < (T.size : Int) := by omega
   have h3n : ¬ 3 < s.data.toList.length - (c :: r).length := by rw [← hTl, hTs, hsz]; omega
   have hdn : s.data.toList.length - (c :: r).length = d := by rw [← hTl, hTs, hsz]; omega
   have hd1 : d + 1 ≤ s.size := by omega
   by_cases hc : c = 73
   ·have HN : Hid (tyLen s.data.toList = d + 1) := hid (by rw [ty_word hr h3n (.inl hc), hdn])
    clear hsz hTl hTs h3 hr h3n hdn
    subst hc
    go_enter Tryz.func52, Tryz.ntmps52
    go_wp2_with fail
    refine (Tryz.strings_TrimLeft_one s 91 (by decide) w).mono ?_
    rintro e w1 ⟨rfl, rfl⟩
    rw [HT.out]
    go_wp2_with fail
    have q1 : IntKind.i64.wrap ((d : Int) + 1) = (d : Int) + 1 := IntWalk.i64_in _ (by omega)
    have q2 : 0 ≤ (d : Int) + 1 := by omega
    have q3 : ((d : Int) + 1).toNat = d + 1 := by omega
    have q4 : (d : Int) + 1 ≤ (s.size : Int) := by omega
    go_quiet (fail)
    clear q1 q2 q3 q4
    go_wp2
    go_ret3
    rw [HN.out]
    exact cutBy_yes (by omega) (below_drewN (Below.refl _ _) _)
   by_cases hc2 : c = 74
   ·have HN : Hid (tyLen s.data.toList = d + 1) := hid (by rw [ty_word hr h3n (.inr hc2), hdn])
    clear hsz hTl hTs h3 hr h3n hdn hc
    subst hc2
    go_enter Tryz.func52, Tryz.ntmps52
    go_wp2_with fail
    refine (Tryz.strings_TrimLeft_one s 91 (by decide) w).mono ?_
    rintro e w1 ⟨rfl, rfl⟩
    rw [HT.out]
    go_wp2_with fail
    have q1 : IntKind.i64.wrap ((d : Int) + 1) = (d : Int) + 1 := IntWalk.i64_in _ (by omega)
    have q2 : 0 ≤ (d : Int) + 1 := by omega
    have q3 : ((d : Int) + 1).toNat = d + 1 := by omega
    have q4 : (d : Int) + 1 ≤ (s.size : Int) := by omega
    go_quiet (fail)
    clear q1 q2 q3 q4
    go_wp2
    go_ret3
    rw [HN.out]
    exact cutBy_yes (by omega) (below_drewN (Below.refl _ _) _)
   by_cases hcd : c = 76
   ·subst hcd
    have hge := Lib.indexByte_ge T.data.toList 59
    by_cases hi : Lib.indexByte T.data.toList 59 = -1
    ·have HN : Hid (tyLen s.data.toList = 0) := hid (ty_open hr (by rw [← hTl]; exact hi))
     have HI := hid hi
     clear hsz hTl hTs h3 hr h3n hdn hc hc2 hge hi
     go_enter Tryz.func52, Tryz.ntmps52
     go_wp2_with fail
     refine (Tryz.strings_TrimLeft_one s 91 (by decide) w).mono ?_
     rintro e w1 ⟨rfl, rfl⟩
     rw [HT.out]
     go_wp2_with fail
     refine (index_any T _).mono ?_
     rintro e w2 ⟨rfl, rfl⟩
     rw [HI.out]
     go_wp2_with fail
     go_ret3
     rw [HN.out]
     exact cutBy_no (Below.refl _ _)
    ·obtain ⟨o, ho⟩ : ∃ o : Nat, Lib.indexByte T.data.toList 59 = (o : Int) := ⟨(Lib.indexByte T.data.toList 59).toNat, by omega⟩
     obtain ⟨ho1, _⟩ := Lib.indexByte_some ho
     have ho2 : o < T.size := by rw [← hTs]; exact (List.getElem?_eq_some_iff.1 ho1).1
     have ho0 : 1 ≤ o := by
      rcases Nat.eq_zero_or_pos o with h | h
      ·subst h; rw [hTl] at ho1; simp at ho1
      ·exact h
     have hty := ty_class hr h3n (by rw [← hTl]; exact ho)
     have hnm : (T.extract 1 o).data.toList = ((76 :: r : List UInt8).take o).drop 1 := by rw [Lib.extract_data, hTl, List.drop_take]
     rw [hdn] at hty
     have HO := hid ho
     have hes : (T.extract 1 o).size ≤ 9223372036854775807 := by rw [ByteArray.size_extract]; omega
     cases hb : nameOk (T.extract 1 o).data.toList with
     | false =>
      rw [← hnm, hb] at hty
      have HN : Hid (tyLen s.data.toList = 0) := hid hty
      have HB := hid hb
      have k0 : ¬ (o : Int) + 1 = 0 := by omega
      have k1 : (1 : Int) ≤ (o : Int) := by omega
      have k2 : (o : Int) ≤ (T.size : Int) := by omega
      clear hsz hTl hTs h3 hr h3n hdn hc hc2 hge hi ho ho1 hty hnm hb
      go_enter Tryz.func52, Tryz.ntmps52
      go_wp2_with fail
      refine (Tryz.strings_TrimLeft_one s 91 (by decide) w).mono ?_
      rintro e w1 ⟨rfl, rfl⟩
      rw [HT.out]
      go_wp2_with fail
      refine (index_any T _).mono ?_
      rintro e w2 ⟨rfl, rfl⟩
      rw [HO.out]
      go_wp2_with fail
      refine (check_any (T.extract 1 o) _ hes).mono ?_
      intro e w3 h3
      obtain ⟨rfl, hb3⟩ := checked_false h3 HB.out
      clear h3
      go_wp2_with fail
      go_ret3
      rw [HN.out]
      exact cutBy_no hb3
     | true =>
      rw [← hnm, hb] at hty
      have HN : Hid (tyLen s.data.toList = d + (o + 1)) := hid hty
      have HB := hid hb
      have k0 : ¬ (o : Int) + 1 = 0 := by omega
      have k1 : (1 : Int) ≤ (o : Int) := by omega
      have k2 : (o : Int) ≤ (T.size : Int) := by omega
      clear hsz hTl hTs h3 hr h3n hdn hc hc2 hge hi ho ho1 hty hnm hb
      go_enter Tryz.func52, Tryz.ntmps52
      go_wp2_with fail
      refine (Tryz.strings_TrimLeft_one s 91 (by decide) w).mono ?_
      rintro e w1 ⟨rfl, rfl⟩
      rw [HT.out]
      go_wp2_with fail
      refine (index_any T _).mono ?_
      rintro e w2 ⟨rfl, rfl⟩
      rw [HO.out]
      go_wp2_with fail
      refine (check_any (T.extract 1 o) _ hes).mono ?_
      intro e w3 h3
      obtain ⟨rfl, hb3⟩ := checked_true h3 HB.out
      clear h3
      go_wp2_with fail
      have q1 : IntKind.i64.wrap ((d : Int) + ((o : Int) + 1)) = (d : Int) + ((o : Int) + 1) := IntWalk.i64_in _ (by omega)
      have q2 : 0 ≤ (d : Int) + ((o : Int) + 1) := by omega
      have q3 : ((d : Int) + ((o : Int) + 1)).toNat = d + (o + 1) := by omega
      have q4 : (d : Int) + ((o : Int) + 1) ≤ (s.size : Int) := by omega
      go_quiet (fail)
      clear q1 q2 q3 q4
      go_wp2
      go_ret3
      rw [HN.out]
      exact cutBy_yes (by omega) (below_drewN hb3 _)
   ·have HN : Hid (tyLen s.data.toList = 0) := hid (ty_other hr (by rintro (h | h); exact hc h; exact hc2 h) hcd)
    have u1 : ¬ (c.toNat : Int) = 73 := fun h => hc (UInt8.toNat_inj.1 (by simpa using (by omega : c.toNat = 73)))
    have u2 : ¬ (c.toNat : Int) = 74 := fun h => hc2 (UInt8.toNat_inj.1 (by simpa using (by omega : c.toNat = 74)))
    have u3 : ¬ (c.toNat : Int) = 76 := fun h => hcd (UInt8.toNat_inj.1 (by simpa using (by omega : c.toNat = 76)))
    clear hsz hTl hTs h3 hr h3n hdn hc hc2 hcd
    go_enter Tryz.func52, Tryz.ntmps52
    go_wp2_with fail
    refine (Tryz.strings_TrimLeft_one s 91 (by decide) w).mono ?_
    rintro e w1 ⟨rfl, rfl⟩
    rw [HT.out]
    go_wp2_with fail
    go_ret3
    rw [HN.out]
    exact cutBy_no (Below.refl _ _)
theorem tyLen_le (l : List UInt8) : tyLen l ≤ l.length := by
 have hl := dropWhile_len (· == (91 : UInt8)) l
 by_cases h3 : 3 < l.length - (l.dropWhile (· == 91)).length
 ·rw [ty_deep h3]; omega
 ·cases hr : l.dropWhile (· == 91) with
  | nil => rw [ty_empty hr]; omega
  | cons c r =>
   rw [hr] at h3 hl
   by_cases hc : c = 73 ∨ c = 74
   ·rw [ty_word hr h3 hc]; simp only [List.length_cons] at hl ⊢; omega
   ·by_cases hd : c = 76
    ·subst hd
     have hge := Lib.indexByte_ge (76 :: r) 59
     by_cases hi : Lib.indexByte (76 :: r) 59 = -1
     ·rw [ty_open hr hi]; omega
     ·obtain ⟨o, ho⟩ : ∃ o : Nat, Lib.indexByte (76 :: r) 59 = (o : Int) := ⟨(Lib.indexByte (76 :: r) 59).toNat, by omega⟩
      have ho2 := (List.getElem?_eq_some_iff.1 (Lib.indexByte_some ho).1).1
      rw [ty_class hr h3 ho]
      split <;> omega
    ·rw [ty_other hr hc hd]; omega
def isTy (l : List UInt8) : Bool := decide (tyLen l ≠ 0 ∧ tyLen l = l.length)
def isWd (l : List UInt8) : Bool := decide (l = [73] ∨ l = [74])
theorem size_len (s : ByteArray) : s.data.toList.length = s.size := by rw [Array.length_toList]; rfl
theorem tcheck_any (s : ByteArray) (w : World) (hs : s.size ≤ 9223372036854775807) : Calls Tryz.prog 54 #[.string s] w (names.Checked w (isTy s.data.toList)) := by
 have hle := tyLen_le s.data.toList
 rw [size_len] at hle
 by_cases h0 : tyLen s.data.toList = 0
 ·have HN : Hid (isTy s.data.toList = false) := hid (by simp [isTy, h0])
  have H0 := hid h0
  clear h0 hle
  go_enter Tryz.func54, Tryz.ntmps54
  go_wp2_with fail
  refine (cut_any s _ hs).mono ?_
  intro e w1 h1
  rw [H0.out] at h1
  obtain ⟨rfl, hb1⟩ := h1
  go_wp2
  go_ret
  rw [HN.out]
  exact ⟨rfl, hb1⟩
 ·obtain ⟨R, hR⟩ : ∃ R, s.extract (tyLen s.data.toList) s.size = R := ⟨_, rfl⟩
  have hRs : R.size = s.size - tyLen s.data.toList := by rw [← hR, ByteArray.size_extract]; omega
  have H0 := hid h0
  have HR := hid hR
  by_cases h1 : tyLen s.data.toList = s.size
  ·have HN : Hid (isTy s.data.toList = true) := hid (by simp only [isTy, size_len]; exact decide_eq_true ⟨h0, h1⟩)
   have he' : R.toList = [] := by rw [ByteArray.toList_eq]; exact List.eq_nil_of_length_eq_zero (by rw [size_len]; omega)
   have he : R.toList.isEmpty = true := by rw [he']; rfl
   clear h0 hle h1 hR hRs
   go_enter Tryz.func54, Tryz.ntmps54
   go_wp2_with fail
   refine (cut_any s _ hs).mono ?_
   rintro e w1 ⟨rfl, hb1⟩
   rw [if_neg H0.out, HR.out]
   go_wp2
   go_ret
   rw [HN.out]
   exact ⟨rfl, hb1⟩
  ·have HN : Hid (isTy s.data.toList = false) := hid (by simp only [isTy, size_len]; exact decide_eq_false (fun h => h1 h.2))
   have he' : ¬ R.toList = [] := fun hq => by rw [ByteArray.toList_eq] at hq; have h9 := size_len R; rw [hq, List.length_nil] at h9; omega
   have he : R.toList.isEmpty = false := by cases h : R.toList with
    | nil => exact absurd h he'
    | cons => rfl
   clear h0 hle h1 hR hRs
   go_enter Tryz.func54, Tryz.ntmps54
   go_wp2_with fail
   refine (cut_any s _ hs).mono ?_
   rintro e w1 ⟨rfl, hb1⟩
   rw [if_neg H0.out, HR.out]
   go_wp2
   go_ret
   rw [HN.out]
   exact ⟨rfl, hb1⟩
theorem str_list {s : ByteArray} {l : List UInt8} : s.toList = l ↔ s.data.toList = l := by rw [ByteArray.toList_eq]
theorem number_any (s : ByteArray) (w : World) : Calls Tryz.prog 163 #[.string s] w fun e w' => e = .returned (.bool (isWd s.data.toList)) ∧ w = w' := by
 obtain ⟨B, hB⟩ : ∃ B, isWd s.data.toList = B := ⟨_, rfl⟩
 have HB := hid hB
 by_cases h1 : s.data.toList = [73]
 ·have g1 : s.toList = [73] := str_list.2 h1
  have HT : Hid (B = true) := hid (by rw [← hB]; simp [isWd, h1])
  clear h1 hB
  go_enter Tryz.func163, Tryz.ntmps163
  go_wp2
  go_ret
  rw [HB.out, HT.out]
  exact ⟨rfl, rfl⟩
 ·have g1 : ¬ s.toList = [73] := fun h => h1 (str_list.1 h)
  by_cases h2 : s.data.toList = [74]
  ·have g2 : s.toList = [74] := str_list.2 h2
   have HT : Hid (B = true) := hid (by rw [← hB]; simp [isWd, h2])
   clear h1 hB h2
   go_enter Tryz.func163, Tryz.ntmps163
   go_wp2
   go_ret
   rw [HB.out, HT.out]
   exact ⟨rfl, rfl⟩
  ·have g2 : ¬ s.toList = [74] := fun h => h2 (str_list.1 h)
   have HT : Hid (B = false) := hid (by rw [← hB]; simp [isWd, h1, h2])
   clear h1 hB h2
   go_enter Tryz.func163, Tryz.ntmps163
   go_wp2
   go_ret
   rw [HB.out, HT.out]
   exact ⟨by simp [g1, g2], rfl⟩
theorem index_first {l : List UInt8} {c : UInt8} {o : Nat} (h : ∀ j, j < o → l[j]? ≠ some c) (ho : l[o]? = some c) : Lib.indexByte l c = (o : Int) := by
 have hge := Lib.indexByte_ge l c
 by_cases hi : Lib.indexByte l c = -1
 ·exact absurd ho (Lib.indexByte_none hi o)
 ·obtain ⟨o', ho'⟩ : ∃ o' : Nat, Lib.indexByte l c = (o' : Int) := ⟨(Lib.indexByte l c).toNat, by omega⟩
  obtain ⟨h1, h2⟩ := Lib.indexByte_some ho'
  have : o' = o := by
   rcases Nat.lt_trichotomy o' o with h3 | h3 | h3
   ·exact absurd h1 (h o' h3)
   ·exact h3
   ·exact absurd ho (h2 o h3)
  rw [ho', this]
def bs (l : List UInt8) : ByteArray := ⟨l.toArray⟩
def sv (l : List UInt8) : Value := .string (bs l)
theorem bs_data (l : List UInt8) : (bs l).data.toList = l := rfl
theorem bs_eq (s : ByteArray) : s = bs s.data.toList := rfl
theorem bs_size (l : List UInt8) : (bs l).size = l.length := rfl
theorem bs_of {s : ByteArray} {l : List UInt8} (h : s.data.toList = l) : s = bs l := by subst h; rfl
theorem extract_bs (s : ByteArray) (i j : Nat) : s.extract i j = bs ((s.data.toList.take j).drop i) := by
 apply bs_of
 rw [Lib.extract_data, List.drop_take]
def scan (l : List UInt8) : List (List UInt8) × List UInt8 :=
 if _h : l.head? = some 41 ∨ tyLen l = 0 then ([], l) else (l.take (tyLen l) :: (scan (l.drop (tyLen l))).1, (scan (l.drop (tyLen l))).2)
termination_by l.length
decreasing_by
 all_goals
  have h1 := tyLen_le l
  rw [List.length_drop]
  simp only [not_or] at _h
  omega
theorem scan_stop {l : List UInt8} (h : l.head? = some 41 ∨ tyLen l = 0) : scan l = ([], l) := by rw [scan, dif_pos h]
theorem scan_step {l : List UInt8} (h : ¬ l.head? = some 41) (h2 : tyLen l ≠ 0) : scan l = (l.take (tyLen l) :: (scan (l.drop (tyLen l))).1, (scan (l.drop (tyLen l))).2) := by
 rw [scan, dif_neg (by rintro (h3 | h3); exact h h3; exact h2 h3)]
def methodOf : List UInt8 → Option (List (List UInt8) × List UInt8)
 | c :: l => if c = 40 ∧ (scan l).2.head? = some 41 ∧ (scan l).1.length ≤ 5 ∧ ((scan l).2.drop 1 = [86] ∨ isTy ((scan l).2.drop 1) = true) then some ((scan l).1, (scan l).2.drop 1) else none
 | [] => none
def MethodBy (w : World) (S : List UInt8) (e : Ending) (w' : World) : Prop :=
 match methodOf S with
 | some (ts, g) => ∃ v, e = .returned (.tuple #[v, .string (bs g), .nilIface]) ∧ Out w w' 9 1 v ts.length (ts.map sv)
 | none => e = .returned (.tuple #[.slice none 0 0, .string { data := #[] }, .iface 53 (.int .i64 1)]) ∧ Below w.heap.size w w'
theorem methodBy_no {w w' : World} {S : List UInt8} (h : methodOf S = none) (hb : Below w.heap.size w w') : MethodBy w S (.returned (.tuple #[.slice none 0 0, .string { data := #[] }, .iface 53 (.int .i64 1)])) w' := by
 unfold MethodBy; rw [h]; exact ⟨rfl, hb⟩
theorem methodBy_yes {w w' : World} {S g : List UInt8} {ts : List (List UInt8)} {v : Value} (h : methodOf S = some (ts, g)) (ho : Out w w' 9 1 v ts.length (ts.map sv)) : MethodBy w S (.returned (.tuple #[v, .string (bs g), .nilIface])) w' := by
 unfold MethodBy; rw [h]; exact ⟨v, rfl, ho⟩
theorem prefix_one (l : List UInt8) (c : UInt8) : Lib.hasPrefix l [c] = decide (l.head? = some c) := by
 rw [Bool.eq_iff_iff, decide_eq_true_eq]
 cases l with
 | nil => simp [Lib.hasPrefix]
 | cons b r =>
  simp only [Lib.hasPrefix, List.isPrefixOf, List.head?_cons, Bool.and_true, Option.some.injEq, beq_iff_eq]
  exact eq_comm
theorem cutPrefix_any (s : ByteArray) (w : World) : Calls Tryz.prog 50 #[.string s, .string { data := #[40] }] w fun e w' =>
  e = .returned (if s.data.toList.head? = some 40 then .tuple #[.string (bs (s.data.toList.drop 1)), .bool true] else .tuple #[.string s, .bool false]) ∧ w = w' := by
 refine (Tryz.strings_CutPrefix s { data := #[40] } w).mono ?_
 rintro e w' ⟨rfl, rfl⟩
 have h := prefix_one s.data.toList 40
 refine ⟨?_, rfl⟩
 show Ending.returned (.tuple #[.string ⟨(Lib.trimPrefix s.data.toList [40]).toArray⟩, .bool (Lib.hasPrefix s.data.toList [40])]) = _
 unfold Lib.trimPrefix
 rw [h]
 by_cases h1 : s.data.toList.head? = some 40
 ·rw [if_pos h1, decide_eq_true h1, if_pos rfl]; exact congrArg Ending.returned rfl
 ·rw [if_neg h1, decide_eq_false h1, if_neg (by decide)]
theorem hasPrefix_any (s : ByteArray) (w : World) : Calls Tryz.prog 51 #[.string s, .string { data := #[41] }] w fun e w' =>
  e = .returned (.bool (decide (s.data.toList.head? = some 41))) ∧ w = w' := by
 refine (Tryz.strings_HasPrefix s { data := #[41] } w).mono ?_
 rintro e w' ⟨rfl, rfl⟩
 exact ⟨by rw [← prefix_one], rfl⟩
theorem trimPrefix_any (s : ByteArray) (w : World) : Calls Tryz.prog 53 #[.string s, .string { data := #[41] }] w fun e w' =>
  e = .returned (.string (bs (if s.data.toList.head? = some 41 then s.data.toList.drop 1 else s.data.toList))) ∧ w = w' := by
 refine (Tryz.strings_TrimPrefix s { data := #[41] } w).mono ?_
 rintro e w' ⟨rfl, rfl⟩
 refine ⟨?_, rfl⟩
 show Ending.returned (.string ⟨(Lib.trimPrefix s.data.toList [41]).toArray⟩) = _
 unfold Lib.trimPrefix
 rw [prefix_one]
 by_cases h1 : s.data.toList.head? = some 41
 ·rw [decide_eq_true h1, if_pos rfl, if_pos h1]; rfl
 ·rw [decide_eq_false h1, if_neg (by decide), if_neg h1]; rfl
theorem infoStr : (Tryz.prog.info? 9).map (fun i => (i.zero, i.size, i.bytes)) = some (some (.string { data := #[] }), 1, 16) := by kernel_rfl
def slenS : Value → Nat | .string b => b.size | _ => 0
def bnat : Value → Nat | .bool true => 1 | _ => 0
structure MetRel (w wr : World) (l : List UInt8) (R : ByteArray) (v : Value) (ts : List (List UInt8)) : Prop where
 out : Out w wr 9 1 v ts.length (ts.map sv)
 says : scan l = (ts ++ (scan R.data.toList).1, (scan R.data.toList).2)
 few : ts.length + R.size ≤ l.length
theorem MetRel.step {w wr w' : World} {l : List UInt8} {R : ByteArray} {v v' : Value} {ts : List (List UInt8)} (h : MetRel w wr l R v ts) (h1 : ¬ R.data.toList.head? = some 41) (h2 : tyLen R.data.toList ≠ 0)
  (ho : Out w w' 9 1 v' (ts.length + 1) (ts.map sv ++ [.string (R.extract 0 (tyLen R.data.toList))])) : MetRel w w' l (R.extract (tyLen R.data.toList) R.size) v' (ts ++ [R.data.toList.take (tyLen R.data.toList)]) := by
 have hle := tyLen_le R.data.toList
 rw [size_len] at hle
 refine ⟨?_, ?_, ?_⟩
 ·have : (ts ++ [R.data.toList.take (tyLen R.data.toList)]).map sv = ts.map sv ++ [.string (R.extract 0 (tyLen R.data.toList))] := by
   rw [List.map_append, extract_bs]; rfl
  rw [this, List.length_append]; exact ho
 ·have hd : (R.extract (tyLen R.data.toList) R.size).data.toList = R.data.toList.drop (tyLen R.data.toList) := by
   rw [extract_bs, bs_data, ← size_len, List.take_length]
  rw [hd, h.says, scan_step h1 h2]
  simp
 ·have := h.few
  rw [List.length_append, ByteArray.size_extract]
  simp only [List.length_cons, List.length_nil]; omega
theorem met_end {S l : List UInt8} {w wr : World} {R : ByteArray} {v : Value} {ts : List (List UInt8)} (hS : S = 40 :: l) (h : MetRel w wr l R v ts) (h1 : R.data.toList.head? = some 41) :
  methodOf S = if ts.length ≤ 5 ∧ (R.data.toList.drop 1 = [86] ∨ isTy (R.data.toList.drop 1) = true) then some (ts, R.data.toList.drop 1) else none := by
 have h2 := h.says
 rw [scan_stop (.inl h1)] at h2
 subst hS
 simp only [methodOf, h2, List.append_nil, h1, true_and]
theorem met_stuck {S l : List UInt8} {w wr : World} {R : ByteArray} {v : Value} {ts : List (List UInt8)} (hS : S = 40 :: l) (h : MetRel w wr l R v ts) (h1 : ¬ R.data.toList.head? = some 41) (h0 : tyLen R.data.toList = 0) : methodOf S = none := by
 have h2 := h.says
 rw [scan_stop (.inr h0)] at h2
 subst hS
 simp only [methodOf, h2, h1, false_and, and_false, if_false]
theorem method_any (s : ByteArray) (w : World) (hs : s.size ≤ 10000000) : Calls Tryz.prog 27 #[.string s] w (MethodBy w s.data.toList) := by
 have HL := hid (size_len s)
 by_cases h40 : s.data.toList.head? = some 40
 ·obtain ⟨l, hl⟩ : ∃ l, s.data.toList = 40 :: l := by
   cases h : s.data.toList with
   | nil => rw [h] at h40; cases h40
   | cons b r => rw [h] at h40; cases h40; exact ⟨r, rfl⟩
  have H40 := hid h40; have HS := hid hl
  have hll : l.length + 1 = s.size := by rw [← HL.out, hl]; rfl
  have hl1 : s.data.toList.drop 1 = l := by rw [hl]; rfl
  have HD := hid hl1
  clear h40 hl hl1
  go_enter Tryz.func27, Tryz.ntmps27
  go_wp2_with fail
  refine (cutPrefix_any s _).mono ?_
  rintro e w1 ⟨rfl, rfl⟩
  rw [if_pos H40.out, HD.out]
  go_wp2_with fail
  go_loopw [5, 6, 7] (fun r i v wr => ∃ R ts, r = .string R ∧ ((i = .bool true ∧ Hid (MetRel w wr l R v ts)) ∨ (i = .bool false ∧ Hid (methodOf s.data.toList = none ∧ Below w.heap.size w wr)))) (fun r i _ _ => slenS r + bnat i)
  case atStart => exact ⟨bs l, [], rfl, .inl ⟨rfl, hid ⟨Out.nil _ _ _, by simp [bs_data], by rw [bs_size]; simp⟩⟩⟩
  case round =>
   obtain ⟨R, ts, rfl, ⟨rfl, HR⟩ | ⟨rfl, HN⟩⟩ := hrel
   ·have hfew := HR.out.few
    have hRs : R.size ≤ 10000000 := by omega
    by_cases h41 : R.data.toList.head? = some 41
    ·have HE := hid (met_end HS.out HR.out h41)
     obtain ⟨a, c, rfl⟩ := HR.out.out.sl.val
     obtain ⟨G, hG⟩ : ∃ G, bs (R.data.toList.drop 1) = G := ⟨_, rfl⟩
     have hGs : G.size ≤ 10000000 := by rw [← hG, bs_size, List.length_drop, size_len]; omega
     have hGd : G.data.toList = R.data.toList.drop 1 := by rw [← hG]; rfl
     rw [← hGd] at HE
     have H41 := hid h41; have HG := hid hG
     clear h41 hG hGd
     by_cases h5 : ts.length ≤ 5
     ·have k5 : ¬ (5 : Int) < (ts.length : Int) := by omega
      by_cases hV : G.data.toList = [86]
      ·have g1 : G.toList = [86] := str_list.2 hV
       have HM : Hid (methodOf s.data.toList = some (ts, G.data.toList)) := hid (by rw [HE.out, if_pos ⟨h5, .inl hV⟩])
       clear hV h5
       go_wp2_with fail
       refine (hasPrefix_any R _).mono ?_
       rintro e w2 ⟨rfl, rfl⟩
       rw [decide_eq_true H41.out]
       go_wp2_with fail
       refine (trimPrefix_any R _).mono ?_
       rintro e w2 ⟨rfl, rfl⟩
       rw [if_pos H41.out, HG.out]
       go_wp2_with fail
       go_ret3
       exact methodBy_yes HM.out HR.out.out
      ·have g1 : ¬ G.toList = [86] := fun h => hV (str_list.1 h)
       have g2 : (G.toList == [86]) = false := beq_eq_false_iff_ne.2 g1
       cases hT : isTy G.data.toList with
       | true =>
        have HM : Hid (methodOf s.data.toList = some (ts, G.data.toList)) := hid (by rw [HE.out, if_pos ⟨h5, .inr hT⟩])
        have HT := hid hT
        clear hV h5 hT
        go_wp2_with fail
        refine (hasPrefix_any R _).mono ?_
        rintro e w2 ⟨rfl, rfl⟩
        rw [decide_eq_true H41.out]
        go_wp2_with fail
        refine (trimPrefix_any R _).mono ?_
        rintro e w2 ⟨rfl, rfl⟩
        rw [if_pos H41.out, HG.out]
        go_wp2_with fail
        refine (tcheck_any G _ (by omega)).mono ?_
        intro e w3 h3
        obtain ⟨rfl, hb3⟩ := checked_true h3 HT.out
        clear h3
        go_wp2_with fail
        go_ret3
        exact methodBy_yes HM.out (HR.out.out.later hb3)
       | false =>
        have HM : Hid (methodOf s.data.toList = none) := hid (by rw [HE.out, if_neg]; rintro ⟨_, h | h⟩; exact hV h; rw [hT] at h; cases h)
        have HT := hid hT
        clear hV h5 hT
        go_wp2_with fail
        refine (hasPrefix_any R _).mono ?_
        rintro e w2 ⟨rfl, rfl⟩
        rw [decide_eq_true H41.out]
        go_wp2_with fail
        refine (trimPrefix_any R _).mono ?_
        rintro e w2 ⟨rfl, rfl⟩
        rw [if_pos H41.out, HG.out]
        go_wp2_with fail
        refine (tcheck_any G _ (by omega)).mono ?_
        intro e w3 h3
        obtain ⟨rfl, hb3⟩ := checked_false h3 HT.out
        clear h3
        go_wp2_with fail
        go_ret3
        exact methodBy_no HM.out (HR.out.out.below.trans (hb3.mono HR.out.out.below.size))
     ·have k5 : (5 : Int) < (ts.length : Int) := by omega
      have HM : Hid (methodOf s.data.toList = none) := hid (by rw [HE.out, if_neg]; rintro ⟨h, _⟩; exact h5 h)
      clear h5
      go_wp2_with fail
      refine (hasPrefix_any R _).mono ?_
      rintro e w2 ⟨rfl, rfl⟩
      rw [decide_eq_true H41.out]
      go_wp2_with fail
      refine (trimPrefix_any R _).mono ?_
      rintro e w2 ⟨rfl, rfl⟩
      rw [if_pos H41.out, HG.out]
      go_wp2_with fail
      go_ret3
      exact methodBy_no HM.out HR.out.out.below
    ·have H41 := hid h41
     by_cases h0 : tyLen R.data.toList = 0
     ·have HM := hid (met_stuck HS.out HR.out h41 h0)
      have H0 := hid h0
      clear h41 h0
      go_wp2_with fail
      refine (hasPrefix_any R _).mono ?_
      rintro e w2 ⟨rfl, rfl⟩
      rw [decide_eq_false H41.out]
      go_wp2_with fail
      refine (cut_any R _ (by omega)).mono ?_
      rintro e w3 ⟨rfl, hb3⟩
      rw [if_pos H0.out]
      go_wp2_with fail
      go_roundw
      case rel => exact ⟨R, ts, rfl, .inr ⟨rfl, hid ⟨HM.out, HR.out.out.below.trans (hb3.mono HR.out.out.below.size)⟩⟩⟩
      case measure => simp [slenS, bnat]
     ·have hstep := fun (w' : World) (v' : Value) => MetRel.step (w' := w') (v' := v') HR.out h41 h0
      have HSTEP := hid hstep
      have hle := tyLen_le R.data.toList
      rw [size_len] at hle
      have H0 := hid h0
      have hn : 0 < tyLen R.data.toList := by omega
      clear h41 h0 hstep
      go_wp2_with fail
      refine (hasPrefix_any R _).mono ?_
      rintro e w2 ⟨rfl, rfl⟩
      rw [decide_eq_false H41.out]
      go_wp2_with fail
      refine (cut_any R _ (by omega)).mono ?_
      rintro e w3 ⟨rfl, hb3⟩
      rw [if_neg H0.out]
      have hout := HR.out.out.later hb3
      generalize tyLen R.data.toList = n at hle hn HSTEP ⊢
      go_wp2_with (at_builtin; go_loud (refine wpList_append_lit w _ _ rfl _ _ 24 rfl 9 (.string { data := #[] }) 1 16 _ Tryz.underlying24 infoStr rfl (by decide) _ _ _ hout rfl rfl rfl ?_ ?_ ?_ ?_))
      all_goals first | (intro v' w' hout' _hg) | omega | (simp [Value.oneCell']; done) | skip
      all_goals go_wp2
      all_goals go_roundw
      case rel => exact ⟨_, _, rfl, .inl ⟨rfl, hid (HSTEP.out _ _ hout')⟩⟩
      case measure => simp [slenS, bnat, ByteArray.size_extract]; omega
   ·go_wp2_with fail
    refine (trimPrefix_any R _).mono ?_
    rintro e w2 ⟨rfl, rfl⟩
    generalize bs (if R.data.toList.head? = some 41 then R.data.toList.drop 1 else R.data.toList) = G
    go_wp2_with fail
    go_ret3
    exact methodBy_no HN.out.1 HN.out.2
 ·have HN : Hid (methodOf s.data.toList = none) := hid (by
   cases h : s.data.toList with
   | nil => rfl
   | cons c l => simp only [methodOf]; rw [if_neg]; rintro ⟨rfl, _⟩; rw [h] at h40; exact h40 rfl)
  have H40 := hid h40; clear h40
  go_enter Tryz.func27, Tryz.ntmps27
  go_wp2_with fail
  refine (cutPrefix_any s _).mono ?_
  rintro e w1 ⟨rfl, rfl⟩
  rw [if_neg H40.out]
  go_wp2_with fail
  go_loopw [5, 6, 7] (fun r i v wr => ∃ R, r = .string R ∧ i = .bool false ∧ w = wr) (fun r i _ _ => slenS r + bnat i)
  case atStart => exact ⟨s, rfl, rfl, rfl⟩
  case round =>
   obtain ⟨R, rfl, rfl, rfl⟩ := hrel
   go_wp2_with fail
   refine (trimPrefix_any R _).mono ?_
   rintro e w2 ⟨rfl, rfl⟩
   generalize bs (if R.data.toList.head? = some 41 then R.data.toList.drop 1 else R.data.toList) = G
   go_wp2_with fail
   go_ret3
   exact methodBy_no HN.out (Below.refl _ _)
theorem methodBy_some {w w' : World} {S g : List UInt8} {ts : List (List UInt8)} {e : Ending} (hm : methodOf S = some (ts, g)) (h : MethodBy w S e w') : ∃ v, e = .returned (.tuple #[v, .string (bs g), .nilIface]) ∧ Out w w' 9 1 v ts.length (ts.map sv) := by
 unfold MethodBy at h; rw [hm] at h; exact h
theorem methodBy_none {w w' : World} {S : List UInt8} {e : Ending} (hm : methodOf S = none) (h : MethodBy w S e w') : e = .returned (.tuple #[.slice none 0 0, .string { data := #[] }, .iface 53 (.int .i64 1)]) ∧ Below w.heap.size w w' := by
 unfold MethodBy at h; rw [hm] at h; exact h
def Core (t : List UInt8) : Prop := t = [73] ∨ t = [74] ∨ ∃ nm, t = 76 :: (nm ++ [59]) ∧ nameOk nm = true
theorem dw {p r : List UInt8} {c : UInt8} (hp : ∀ y ∈ p, y = 91) (hc : c ≠ 91) : (p ++ c :: r).dropWhile (· == (91 : UInt8)) = c :: r := by
 induction p with
 | nil => rw [List.nil_append, List.dropWhile_cons, if_neg (by simpa using hc)]
 | cons x p ih =>
  have hx := hp x (List.mem_cons_self ..)
  rw [List.cons_append, List.dropWhile_cons, if_pos (by simpa using hx)]
  exact ih (fun y hy => hp y (List.mem_cons_of_mem _ hy))
theorem nameOk_no59 {nm : List UInt8} (h : nameOk nm = true) : ∀ y ∈ nm, y ≠ 59 := by
 simp only [nameOk, Bool.and_eq_true] at h
 intro y hy he
 have := List.all_eq_true.1 h.1.2 y hy
 subst he
 revert this; decide
theorem core_tail {p t : List UInt8} (hp : ∀ y ∈ p, y = 91) (h3 : p.length ≤ 3) (ht : Core t) (r : List UInt8) : tyLen (p ++ (t ++ r)) = p.length + t.length := by
 have hlen : ∀ (c : UInt8) (r' : List UInt8), (p ++ c :: r').length - (c :: r').length = p.length := fun c r' => by rw [List.length_append]; omega
 rcases ht with rfl | rfl | ⟨nm, rfl, hn⟩
 ·have h := dw (r := r) hp (show (73 : UInt8) ≠ 91 by decide)
  show tyLen (p ++ 73 :: r) = p.length + 1
  rw [ty_word h (by rw [hlen]; omega) (.inl rfl), hlen]
 ·have h := dw (r := r) hp (show (74 : UInt8) ≠ 91 by decide)
  show tyLen (p ++ 74 :: r) = p.length + 1
  rw [ty_word h (by rw [hlen]; omega) (.inr rfl), hlen]
 ·have h := dw (r := nm ++ [59] ++ r) hp (show (76 : UInt8) ≠ 91 by decide)
  show tyLen (p ++ 76 :: (nm ++ [59] ++ r)) = p.length + (76 :: (nm ++ [59])).length
  have hix : Lib.indexByte (76 :: (nm ++ [59] ++ r)) 59 = ((nm.length + 1 : Nat) : Int) := by
   refine index_first (fun j hj => ?_) ?_
   ·cases j with
    | zero => simp
    | succ j =>
     have hj' : j < nm.length := by omega
     rw [List.getElem?_cons_succ, List.append_assoc, List.getElem?_append_left hj', List.getElem?_eq_getElem hj']
     intro hh
     exact nameOk_no59 hn _ (List.getElem_mem hj') (Option.some.inj hh)
   ·rw [List.getElem?_cons_succ, List.append_assoc, List.getElem?_append_right (Nat.le_refl _), Nat.sub_self]; rfl
  rw [ty_class h (by rw [hlen]; omega) hix, hlen]
  have hx : ((76 :: (nm ++ [59] ++ r) : List UInt8).take (nm.length + 1)).drop 1 = nm := by
   rw [List.take_succ_cons, List.drop_succ_cons, List.drop_zero, List.append_assoc, List.take_left']
   rfl
  rw [hx, if_pos hn]
  simp only [List.length_cons, List.length_append, List.length_nil]
theorem takeW {l : List UInt8} : ∀ y ∈ l.takeWhile (· == (91 : UInt8)), y = 91 := by
 intro y hy
 have := List.all_eq_true.1 (List.all_takeWhile (l := l) (p := (· == (91 : UInt8)))) y hy
 simpa using this
theorem parts {l : List UInt8} (h : tyLen l ≠ 0) : ∃ p t r, l = p ++ (t ++ r) ∧ (∀ y ∈ p, y = 91) ∧ p.length ≤ 3 ∧ Core t := by
 have hsplit := List.takeWhile_append_dropWhile (p := (· == (91 : UInt8))) (l := l)
 have hl := congrArg List.length hsplit
 rw [List.length_append] at hl
 by_cases h3 : 3 < l.length - (l.dropWhile (· == 91)).length
 ·exact absurd (ty_deep h3) h
 ·cases hr : l.dropWhile (· == 91) with
  | nil => exact absurd (ty_empty hr) h
  | cons c r =>
   rw [hr] at h3 hsplit hl
   have hp3 : (l.takeWhile (· == (91 : UInt8))).length ≤ 3 := by omega
   by_cases hc : c = 73
   ·subst hc; exact ⟨_, [73], r, hsplit.symm, takeW, hp3, .inl rfl⟩
   ·by_cases hc2 : c = 74
    ·subst hc2; exact ⟨_, [74], r, hsplit.symm, takeW, hp3, .inr (.inl rfl)⟩
    ·by_cases hd : c = 76
     ·subst hd
      have hge := Lib.indexByte_ge (76 :: r) 59
      by_cases hi : Lib.indexByte (76 :: r) 59 = -1
      ·exact absurd (ty_open hr hi) h
      ·obtain ⟨o, ho⟩ : ∃ o : Nat, Lib.indexByte (76 :: r) 59 = (o : Int) := ⟨(Lib.indexByte (76 :: r) 59).toNat, by omega⟩
       have h59 := (Lib.indexByte_some ho).1
       rw [ty_class hr h3 ho] at h
       cases hn : nameOk (((76 :: r).take o).drop 1) with
       | false => rw [hn] at h; exact absurd rfl h
       | true =>
        cases o with
        | zero => simp at h59
        | succ o =>
         rw [List.take_succ_cons, List.drop_succ_cons, List.drop_zero] at hn
         rw [List.getElem?_cons_succ] at h59
         obtain ⟨ho1, ho2⟩ := List.getElem?_eq_some_iff.1 h59
         refine ⟨_, 76 :: (r.take o ++ [59]), r.drop (o + 1), ?_, takeW, hp3, .inr (.inr ⟨r.take o, rfl, hn⟩)⟩
         have hr2 : r = r.take o ++ ([59] ++ r.drop (o + 1)) := by
          have := List.drop_eq_getElem_cons ho1
          rw [ho2] at this
          conv => lhs; rw [← List.take_append_drop o r, this]
          rfl
         conv => lhs; rw [← hsplit, hr2]
         simp
     ·exact absurd (ty_other hr (by rintro (h1 | h1); exact hc h1; exact hc2 h1) hd) h
theorem ty_append {x : List UInt8} (h : isTy x = true) (r : List UInt8) : tyLen (x ++ r) = x.length ∧ x.length ≤ 25 ∧ x.length ≠ 0 ∧ x.head? ≠ some 41 := by
 simp only [isTy, decide_eq_true_eq] at h
 obtain ⟨p, t, r0, rfl, hp, h3, ht⟩ := parts h.1
 have h1 := core_tail hp h3 ht r0
 have h2 := h.2
 rw [h1, List.length_append, List.length_append] at h2
 have hr0 : r0 = [] := List.eq_nil_of_length_eq_zero (by omega)
 subst hr0
 have h4 := core_tail hp h3 ht r
 have htl : 1 ≤ t.length ∧ t.length ≤ 22 ∧ t.head? ≠ some 41 := by
  rcases ht with rfl | rfl | ⟨nm, rfl, hn⟩
  ·exact ⟨by decide, by decide, by decide⟩
  ·exact ⟨by decide, by decide, by decide⟩
  ·simp only [nameOk, Bool.and_eq_true, decide_eq_true_eq] at hn
   simp only [List.length_cons, List.length_append, List.length_nil, List.head?_cons]
   exact ⟨by omega, by omega, by decide⟩
 rw [List.append_nil]
 refine ⟨by rw [List.append_assoc, h4, List.length_append], by rw [List.length_append]; omega, by rw [List.length_append]; omega, ?_⟩
 cases p with
 | nil => rw [List.nil_append]; exact htl.2.2
 | cons b p => have := hp b (List.mem_cons_self ..); subst this; simp
theorem ty_take {l : List UInt8} (h : tyLen l ≠ 0) : isTy (l.take (tyLen l)) = true := by
 obtain ⟨p, t, r, rfl, hp, h3, ht⟩ := parts h
 have h1 := core_tail hp h3 ht r
 have h2 := core_tail hp h3 ht []
 have hx : (p ++ (t ++ r)).take (p.length + t.length) = p ++ (t ++ []) := by
  rw [List.append_nil, ← List.append_assoc, List.take_left' (by rw [List.length_append])]
 rw [h1] at h ⊢
 rw [hx]
 simp only [isTy, decide_eq_true_eq]
 rw [h2]
 exact ⟨h, by simp⟩
def makeFault (xs : List (List UInt8)) (g : List UInt8) : Int := if 5 < xs.length then 4 else if xs.all isTy = true ∧ (g = [86] ∨ isTy g = true) then 0 else 1
def makeText (xs : List (List UInt8)) (g : List UInt8) : List UInt8 := 40 :: (xs.flatten ++ 41 :: g)
theorem scan_back (l : List UInt8) : l = (scan l).1.flatten ++ (scan l).2 ∧ (scan l).1.all isTy = true := by
 by_cases h : l.head? = some 41 ∨ tyLen l = 0
 ·rw [scan_stop h]; simp
 ·have h1 : ¬ l.head? = some 41 := fun e => h (.inl e)
  have h2 : tyLen l ≠ 0 := fun e => h (.inr e)
  have hlt : (l.drop (tyLen l)).length < l.length := by have := tyLen_le l; rw [List.length_drop]; omega
  obtain ⟨i1, i2⟩ := scan_back (l.drop (tyLen l))
  rw [scan_step h1 h2]
  refine ⟨?_, by rw [List.all_cons, ty_take h2, i2]; rfl⟩
  rw [List.flatten_cons, List.append_assoc, ← i1, List.take_append_drop]
termination_by l.length
theorem make_method {S g : List UInt8} {ts : List (List UInt8)} (h : methodOf S = some (ts, g)) : makeFault ts g = 0 ∧ makeText ts g = S := by
 cases S with
 | nil => cases h
 | cons c l =>
  simp only [methodOf] at h
  split at h
  ·rename_i hc
   obtain ⟨rfl, h41, h5, hg⟩ := hc
   simp only [Option.some.injEq, Prod.mk.injEq] at h
   obtain ⟨rfl, rfl⟩ := h
   obtain ⟨i1, i2⟩ := scan_back l
   refine ⟨by unfold makeFault; rw [if_neg (by omega), if_pos ⟨i2, hg⟩], ?_⟩
   unfold makeText
   congr 1
   conv => rhs; rw [i1]
   congr 1
   cases hr : (scan l).2 with
   | nil => rw [hr] at h41; cases h41
   | cons b r => rw [hr] at h41; cases h41; rfl
  ·cases h
theorem flatten_small : ∀ {xs : List (List UInt8)}, xs.all isTy = true → xs.flatten.length ≤ 25 * xs.length
 | [], _ => by simp
 | x :: xs, h => by
  simp only [List.all_cons, Bool.and_eq_true] at h
  have h1 := flatten_small h.2
  have h2 := (ty_append h.1 []).2.1
  rw [List.flatten_cons, List.length_append, List.length_cons]; omega
theorem text_small {xs : List (List UInt8)} {g : List UInt8} (h : makeFault xs g = 0) : xs.length ≤ 5 ∧ xs.all isTy = true ∧ g.length ≤ 25 ∧ (makeText xs g).length ≤ 200 ∧ (g = [86] ∨ isTy g = true) := by
 unfold makeFault at h
 by_cases h5 : 5 < xs.length
 ·rw [if_pos h5] at h; cases h
 ·rw [if_neg h5] at h
  by_cases h2 : xs.all isTy = true ∧ (g = [86] ∨ isTy g = true)
  ·have h3 := flatten_small h2.1
   have h4 : g.length ≤ 25 := by
    rcases h2.2 with rfl | hg
    ·decide
    ·exact (ty_append hg []).2.1
   refine ⟨by omega, h2.1, h4, ?_, h2.2⟩
   simp only [makeText, List.length_cons, List.length_append]; omega
  ·rw [if_neg h2] at h; cases h
open Go.RowKit lib errs names texts
end Go.Proofs.YtloonnfelgokmaaGreatDoor.descs
