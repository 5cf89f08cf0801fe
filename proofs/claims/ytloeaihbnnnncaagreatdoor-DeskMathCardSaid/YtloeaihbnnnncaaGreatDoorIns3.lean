/- Instructions: is its type right? ins.typed. Condition: the text is shorter than ten million bytes. -/
import Derived.Test.YtloeaihbnnnncaaGreatDoorIns1
import Derived.Test.YtloeaihbnnnncaaGreatDoorDesc7
namespace Go.Proofs.YtloeaihbnnnncaaGreatDoor.ins
open Go.RowKit Go.Proofs.YtloeaihbnnnncaaGreatDoor.lib Go.Proofs.YtloeaihbnnnncaaGreatDoor.errs Go.Proofs.YtloeaihbnnnncaaGreatDoor.names Go.Proofs.YtloeaihbnnnncaaGreatDoor.descs

def deepOf (l : List UInt8) : Nat := l.length - (l.dropWhile (· == 91)).length
theorem tyLen_deeper {l : List UInt8} (h : tyLen l ≠ 0) : tyLen (91 :: l) = if deepOf l < 3 then tyLen l + 1 else 0 := by
  have hd : (91 :: l).dropWhile (· == (91 : UInt8)) = l.dropWhile (· == (91 : UInt8)) := by rw [List.dropWhile_cons]; rfl
  have hle := dropWhile_len (· == (91 : UInt8)) l
  by_cases h3 : deepOf l < 3
  · rw [if_pos h3]
    unfold deepOf at h3
    cases hw : l.dropWhile (· == (91 : UInt8)) with
    | nil => exact absurd (ty_empty hw) h
    | cons c r =>
      rw [hw] at hle h3
      have g3 : ¬ 3 < l.length - (c :: r).length := by omega
      have g4 : ¬ 3 < (91 :: l).length - (c :: r).length := by rw [List.length_cons (a := (91 : UInt8))]; omega
      have g5 : (91 :: l).length - (c :: r).length = l.length - (c :: r).length + 1 := by rw [List.length_cons (a := (91 : UInt8))]; omega
      by_cases hc : c = 73 ∨ c = 74
      · rw [ty_word hw g3 hc, ty_word (hd.trans hw) g4 hc, g5]
      · by_cases h7 : c = 76
        · subst h7
          by_cases hi : Lib.indexByte (76 :: r) 59 = -1
          · exact absurd (ty_open hw hi) h
          · have hge := Lib.indexByte_ge (76 :: r) 59
            obtain ⟨o, ho⟩ : ∃ o : Nat, Lib.indexByte (76 :: r) 59 = (o : Int) := ⟨(Lib.indexByte (76 :: r) 59).toNat, by omega⟩
            have h1 := ty_class hw g3 ho
            have h2 := ty_class (hd.trans hw) g4 ho
            rw [h1, h2, g5]
            rw [h1] at h
            split
            · omega
            · rename_i hn; rw [if_neg hn] at h; exact absurd rfl h
        · exact absurd (ty_other hw hc h7) h
  · rw [if_neg h3]
    unfold deepOf at h3
    apply ty_deep
    rw [hd, List.length_cons]; omega
theorem isTy_deeper {l : List UInt8} (h : isTy l = true) : isTy (91 :: l) = decide (deepOf l < 3) := by
  have h2 : tyLen l ≠ 0 ∧ tyLen l = l.length := of_decide_eq_true h
  unfold isTy
  rw [tyLen_deeper h2.1]
  by_cases h3 : deepOf l < 3
  · rw [if_pos h3]; simp [h3, h2.2]
  · rw [if_neg h3]; simp [h3]
theorem bracket (t : ByteArray) : (({ data := #[91] } : ByteArray) ++ t).data.toList = 91 :: t.data.toList := by rw [ByteArray.data_append, Array.toList_append]; rfl
theorem bracket_size (t : ByteArray) : (({ data := #[91] } : ByteArray) ++ t).size = t.size + 1 := by rw [ByteArray.size_append]; show 1 + t.size = _; omega
theorem isTy_size {t : ByteArray} (h : isTy t.data.toList = true) : t.size ≤ 25 := by have := (ty_append h []).2.1; rw [size_len] at this; exact this

set_option maxHeartbeats 1000000 in
theorem typed2 (a b : Int) (t c n : ByteArray) (w : World) (ht : t.size ≤ 9223372036854775807) : Calls Tryz.prog 121 #[.agg #[.int .i64 2, .int .i64 a, .int .i64 b, .string t, .string c, .string n]] w fun e w' => e = .returned (.bool (typedOk ⟨2, a, b, t, c, n⟩)) ∧ Below w.heap.size w w' := by
  have HB := hid (ext_alloc w (.cells #[.int .i64 2, .int .i64 a, .int .i64 b, .string t, .string c, .string n] 61))
  have _ := ht
  have HS : Hid (typedOk ⟨2, a, b, t, c, n⟩ = isWd t.data.toList) := hid rfl
  go_enter Tryz.func121, Tryz.ntmps121
  go_wp2_with fail
  refine (number_any t _).mono ?_
  rintro e w1 ⟨rfl, rfl⟩
  rw [← HS.out]
  go_wp2
  go_ret
  exact ⟨rfl, HB.out⟩

set_option maxHeartbeats 1000000 in
theorem typed9 (a b : Int) (t c n : ByteArray) (w : World) (ht : t.size ≤ 9223372036854775807) : Calls Tryz.prog 121 #[.agg #[.int .i64 9, .int .i64 a, .int .i64 b, .string t, .string c, .string n]] w fun e w' => e = .returned (.bool (typedOk ⟨9, a, b, t, c, n⟩)) ∧ Below w.heap.size w w' := by
  have HB := hid (ext_alloc w (.cells #[.int .i64 9, .int .i64 a, .int .i64 b, .string t, .string c, .string n] 61))
  have _ := ht
  have HS : Hid (typedOk ⟨9, a, b, t, c, n⟩ = isWd t.data.toList) := hid rfl
  go_enter Tryz.func121, Tryz.ntmps121
  go_wp2_with fail
  refine (number_any t _).mono ?_
  rintro e w1 ⟨rfl, rfl⟩
  rw [← HS.out]
  go_wp2
  go_ret
  exact ⟨rfl, HB.out⟩

set_option maxHeartbeats 1000000 in
theorem typed10 (a b : Int) (t c n : ByteArray) (w : World) (ht : t.size ≤ 9223372036854775807) : Calls Tryz.prog 121 #[.agg #[.int .i64 10, .int .i64 a, .int .i64 b, .string t, .string c, .string n]] w fun e w' => e = .returned (.bool (typedOk ⟨10, a, b, t, c, n⟩)) ∧ Below w.heap.size w w' := by
  have HB := hid (ext_alloc w (.cells #[.int .i64 10, .int .i64 a, .int .i64 b, .string t, .string c, .string n] 61))
  have _ := ht
  have HS : Hid (typedOk ⟨10, a, b, t, c, n⟩ = isWd t.data.toList) := hid rfl
  go_enter Tryz.func121, Tryz.ntmps121
  go_wp2_with fail
  refine (number_any t _).mono ?_
  rintro e w1 ⟨rfl, rfl⟩
  rw [← HS.out]
  go_wp2
  go_ret
  exact ⟨rfl, HB.out⟩

set_option maxHeartbeats 1000000 in
theorem typed18 (a b : Int) (t c n : ByteArray) (w : World) (ht : t.size ≤ 9223372036854775807) : Calls Tryz.prog 121 #[.agg #[.int .i64 18, .int .i64 a, .int .i64 b, .string t, .string c, .string n]] w fun e w' => e = .returned (.bool (typedOk ⟨18, a, b, t, c, n⟩)) ∧ Below w.heap.size w w' := by
  have HB := hid (ext_alloc w (.cells #[.int .i64 18, .int .i64 a, .int .i64 b, .string t, .string c, .string n] 61))
  have hS : typedOk ⟨18, a, b, t, c, n⟩ = (isTy t.data.toList && isTy (91 :: t.data.toList)) := rfl
  cases hT : isTy t.data.toList with
  | false =>
    have HS : Hid (typedOk ⟨18, a, b, t, c, n⟩ = false) := hid (by rw [hS, hT]; rfl)
    have HT := hid hT
    clear hT hS
    go_enter Tryz.func121, Tryz.ntmps121
    go_wp2_with fail
    refine (tcheck_any t _ ht).mono ?_
    intro e w1 h1
    obtain ⟨rfl, hb1⟩ := checked_false h1 HT.out
    clear h1
    go_wp2
    go_ret
    rw [HS.out]
    exact ⟨rfl, HB.out.trans (hb1.mono HB.out.size)⟩
  | true =>
    have HT := hid hT
    have hsz := isTy_size hT
    have hl : (({ data := #[91] } : ByteArray) ++ t).size ≤ 9223372036854775807 := by rw [bracket_size]; omega
    have HC := hid (fun w => tcheck_any (({ data := #[91] } : ByteArray) ++ t) w hl)
    cases hU : isTy (91 :: t.data.toList) with
    | false =>
      have HS : Hid (typedOk ⟨18, a, b, t, c, n⟩ = false) := hid (by rw [hS, hT, hU]; rfl)
      have HU : Hid (isTy (({ data := #[91] } : ByteArray) ++ t).data.toList = false) := hid (by rw [bracket]; exact hU)
      clear hT hS hU hl
      go_enter Tryz.func121, Tryz.ntmps121
      go_wp2_with fail
      refine (tcheck_any t _ ht).mono ?_
      intro e w1 h1
      obtain ⟨rfl, hb1⟩ := checked_true h1 HT.out
      clear h1
      have HB1 := hid (HB.out.trans (hb1.mono HB.out.size))
      have hc3 : w1.cell? ⟨w.heap.size, 3, none⟩ = some (.string t) := by rw [hb1.cell (by simp)]; rw [World.cell?_alloc_at _ _ _ _ rfl]; rfl
      go_wp2_with fail
      refine (HC.out _).mono ?_
      intro e w2 h2
      obtain ⟨rfl, hb2⟩ := checked_false h2 HU.out
      clear h2
      go_wp2
      go_ret
      rw [HS.out]
      exact ⟨rfl, HB1.out.trans (hb2.mono HB1.out.size)⟩
    | true =>
      have HS : Hid (typedOk ⟨18, a, b, t, c, n⟩ = true) := hid (by rw [hS, hT, hU]; rfl)
      have HU : Hid (isTy (({ data := #[91] } : ByteArray) ++ t).data.toList = true) := hid (by rw [bracket]; exact hU)
      clear hT hS hU hl
      go_enter Tryz.func121, Tryz.ntmps121
      go_wp2_with fail
      refine (tcheck_any t _ ht).mono ?_
      intro e w1 h1
      obtain ⟨rfl, hb1⟩ := checked_true h1 HT.out
      clear h1
      have HB1 := hid (HB.out.trans (hb1.mono HB.out.size))
      have hc3 : w1.cell? ⟨w.heap.size, 3, none⟩ = some (.string t) := by rw [hb1.cell (by simp)]; rw [World.cell?_alloc_at _ _ _ _ rfl]; rfl
      go_wp2_with fail
      refine (HC.out _).mono ?_
      intro e w2 h2
      obtain ⟨rfl, hb2⟩ := checked_true h2 HU.out
      clear h2
      go_wp2
      go_ret
      rw [HS.out]
      exact ⟨rfl, HB1.out.trans (hb2.mono HB1.out.size)⟩

set_option maxHeartbeats 1000000 in
theorem typed20 (a b : Int) (t c n : ByteArray) (w : World) (ht : t.size ≤ 9223372036854775807) : Calls Tryz.prog 121 #[.agg #[.int .i64 20, .int .i64 a, .int .i64 b, .string t, .string c, .string n]] w fun e w' => e = .returned (.bool (typedOk ⟨20, a, b, t, c, n⟩)) ∧ Below w.heap.size w w' := by
  have HB := hid (ext_alloc w (.cells #[.int .i64 20, .int .i64 a, .int .i64 b, .string t, .string c, .string n] 61))
  have hS : typedOk ⟨20, a, b, t, c, n⟩ = (isTy t.data.toList && isTy (91 :: t.data.toList)) := rfl
  cases hT : isTy t.data.toList with
  | false =>
    have HS : Hid (typedOk ⟨20, a, b, t, c, n⟩ = false) := hid (by rw [hS, hT]; rfl)
    have HT := hid hT
    clear hT hS
    go_enter Tryz.func121, Tryz.ntmps121
    go_wp2_with fail
    refine (tcheck_any t _ ht).mono ?_
    intro e w1 h1
    obtain ⟨rfl, hb1⟩ := checked_false h1 HT.out
    clear h1
    go_wp2
    go_ret
    rw [HS.out]
    exact ⟨rfl, HB.out.trans (hb1.mono HB.out.size)⟩
  | true =>
    have HT := hid hT
    have hsz := isTy_size hT
    have hl : (({ data := #[91] } : ByteArray) ++ t).size ≤ 9223372036854775807 := by rw [bracket_size]; omega
    have HC := hid (fun w => tcheck_any (({ data := #[91] } : ByteArray) ++ t) w hl)
    cases hU : isTy (91 :: t.data.toList) with
    | false =>
      have HS : Hid (typedOk ⟨20, a, b, t, c, n⟩ = false) := hid (by rw [hS, hT, hU]; rfl)
      have HU : Hid (isTy (({ data := #[91] } : ByteArray) ++ t).data.toList = false) := hid (by rw [bracket]; exact hU)
      clear hT hS hU hl
      go_enter Tryz.func121, Tryz.ntmps121
      go_wp2_with fail
      refine (tcheck_any t _ ht).mono ?_
      intro e w1 h1
      obtain ⟨rfl, hb1⟩ := checked_true h1 HT.out
      clear h1
      have HB1 := hid (HB.out.trans (hb1.mono HB.out.size))
      have hc3 : w1.cell? ⟨w.heap.size, 3, none⟩ = some (.string t) := by rw [hb1.cell (by simp)]; rw [World.cell?_alloc_at _ _ _ _ rfl]; rfl
      go_wp2_with fail
      refine (HC.out _).mono ?_
      intro e w2 h2
      obtain ⟨rfl, hb2⟩ := checked_false h2 HU.out
      clear h2
      go_wp2
      go_ret
      rw [HS.out]
      exact ⟨rfl, HB1.out.trans (hb2.mono HB1.out.size)⟩
    | true =>
      have HS : Hid (typedOk ⟨20, a, b, t, c, n⟩ = true) := hid (by rw [hS, hT, hU]; rfl)
      have HU : Hid (isTy (({ data := #[91] } : ByteArray) ++ t).data.toList = true) := hid (by rw [bracket]; exact hU)
      clear hT hS hU hl
      go_enter Tryz.func121, Tryz.ntmps121
      go_wp2_with fail
      refine (tcheck_any t _ ht).mono ?_
      intro e w1 h1
      obtain ⟨rfl, hb1⟩ := checked_true h1 HT.out
      clear h1
      have HB1 := hid (HB.out.trans (hb1.mono HB.out.size))
      have hc3 : w1.cell? ⟨w.heap.size, 3, none⟩ = some (.string t) := by rw [hb1.cell (by simp)]; rw [World.cell?_alloc_at _ _ _ _ rfl]; rfl
      go_wp2_with fail
      refine (HC.out _).mono ?_
      intro e w2 h2
      obtain ⟨rfl, hb2⟩ := checked_true h2 HU.out
      clear h2
      go_wp2
      go_ret
      rw [HS.out]
      exact ⟨rfl, HB1.out.trans (hb2.mono HB1.out.size)⟩

set_option maxHeartbeats 1000000 in
theorem typed21 (a b : Int) (t c n : ByteArray) (w : World) (ht : t.size ≤ 9223372036854775807) : Calls Tryz.prog 121 #[.agg #[.int .i64 21, .int .i64 a, .int .i64 b, .string t, .string c, .string n]] w fun e w' => e = .returned (.bool (typedOk ⟨21, a, b, t, c, n⟩)) ∧ Below w.heap.size w w' := by
  have HB := hid (ext_alloc w (.cells #[.int .i64 21, .int .i64 a, .int .i64 b, .string t, .string c, .string n] 61))
  have hS : typedOk ⟨21, a, b, t, c, n⟩ = (isTy t.data.toList && isTy (91 :: t.data.toList)) := rfl
  cases hT : isTy t.data.toList with
  | false =>
    have HS : Hid (typedOk ⟨21, a, b, t, c, n⟩ = false) := hid (by rw [hS, hT]; rfl)
    have HT := hid hT
    clear hT hS
    go_enter Tryz.func121, Tryz.ntmps121
    go_wp2_with fail
    refine (tcheck_any t _ ht).mono ?_
    intro e w1 h1
    obtain ⟨rfl, hb1⟩ := checked_false h1 HT.out
    clear h1
    go_wp2
    go_ret
    rw [HS.out]
    exact ⟨rfl, HB.out.trans (hb1.mono HB.out.size)⟩
  | true =>
    have HT := hid hT
    have hsz := isTy_size hT
    have hl : (({ data := #[91] } : ByteArray) ++ t).size ≤ 9223372036854775807 := by rw [bracket_size]; omega
    have HC := hid (fun w => tcheck_any (({ data := #[91] } : ByteArray) ++ t) w hl)
    cases hU : isTy (91 :: t.data.toList) with
    | false =>
      have HS : Hid (typedOk ⟨21, a, b, t, c, n⟩ = false) := hid (by rw [hS, hT, hU]; rfl)
      have HU : Hid (isTy (({ data := #[91] } : ByteArray) ++ t).data.toList = false) := hid (by rw [bracket]; exact hU)
      clear hT hS hU hl
      go_enter Tryz.func121, Tryz.ntmps121
      go_wp2_with fail
      refine (tcheck_any t _ ht).mono ?_
      intro e w1 h1
      obtain ⟨rfl, hb1⟩ := checked_true h1 HT.out
      clear h1
      have HB1 := hid (HB.out.trans (hb1.mono HB.out.size))
      have hc3 : w1.cell? ⟨w.heap.size, 3, none⟩ = some (.string t) := by rw [hb1.cell (by simp)]; rw [World.cell?_alloc_at _ _ _ _ rfl]; rfl
      go_wp2_with fail
      refine (HC.out _).mono ?_
      intro e w2 h2
      obtain ⟨rfl, hb2⟩ := checked_false h2 HU.out
      clear h2
      go_wp2
      go_ret
      rw [HS.out]
      exact ⟨rfl, HB1.out.trans (hb2.mono HB1.out.size)⟩
    | true =>
      have HS : Hid (typedOk ⟨21, a, b, t, c, n⟩ = true) := hid (by rw [hS, hT, hU]; rfl)
      have HU : Hid (isTy (({ data := #[91] } : ByteArray) ++ t).data.toList = true) := hid (by rw [bracket]; exact hU)
      clear hT hS hU hl
      go_enter Tryz.func121, Tryz.ntmps121
      go_wp2_with fail
      refine (tcheck_any t _ ht).mono ?_
      intro e w1 h1
      obtain ⟨rfl, hb1⟩ := checked_true h1 HT.out
      clear h1
      have HB1 := hid (HB.out.trans (hb1.mono HB.out.size))
      have hc3 : w1.cell? ⟨w.heap.size, 3, none⟩ = some (.string t) := by rw [hb1.cell (by simp)]; rw [World.cell?_alloc_at _ _ _ _ rfl]; rfl
      go_wp2_with fail
      refine (HC.out _).mono ?_
      intro e w2 h2
      obtain ⟨rfl, hb2⟩ := checked_true h2 HU.out
      clear h2
      go_wp2
      go_ret
      rw [HS.out]
      exact ⟨rfl, HB1.out.trans (hb2.mono HB1.out.size)⟩

set_option maxHeartbeats 1000000 in
theorem typed22 (a b : Int) (t c n : ByteArray) (w : World) (ht : t.size ≤ 9223372036854775807) : Calls Tryz.prog 121 #[.agg #[.int .i64 22, .int .i64 a, .int .i64 b, .string t, .string c, .string n]] w fun e w' => e = .returned (.bool (typedOk ⟨22, a, b, t, c, n⟩)) ∧ Below w.heap.size w w' := by
  have HB := hid (ext_alloc w (.cells #[.int .i64 22, .int .i64 a, .int .i64 b, .string t, .string c, .string n] 61))
  have hS : typedOk ⟨22, a, b, t, c, n⟩ = (isTy t.data.toList && !isWd t.data.toList) := rfl
  cases hT : isTy t.data.toList with
  | false =>
    have HS : Hid (typedOk ⟨22, a, b, t, c, n⟩ = false) := hid (by rw [hS, hT]; rfl)
    have HT := hid hT
    clear hT hS
    go_enter Tryz.func121, Tryz.ntmps121
    go_wp2_with fail
    refine (tcheck_any t _ ht).mono ?_
    intro e w1 h1
    obtain ⟨rfl, hb1⟩ := checked_false h1 HT.out
    clear h1
    go_wp2
    go_ret
    rw [HS.out]
    exact ⟨rfl, HB.out.trans (hb1.mono HB.out.size)⟩
  | true =>
    have HS : Hid (typedOk ⟨22, a, b, t, c, n⟩ = !isWd t.data.toList) := hid (by rw [hS, hT]; rfl)
    have HT := hid hT
    clear hT hS
    go_enter Tryz.func121, Tryz.ntmps121
    go_wp2_with fail
    refine (tcheck_any t _ ht).mono ?_
    intro e w1 h1
    obtain ⟨rfl, hb1⟩ := checked_true h1 HT.out
    clear h1
    have HB1 := hid (HB.out.trans (hb1.mono HB.out.size))
    have hc3 : w1.cell? ⟨w.heap.size, 3, none⟩ = some (.string t) := by rw [hb1.cell (by simp)]; rw [World.cell?_alloc_at _ _ _ _ rfl]; rfl
    go_wp2_with fail
    refine (number_any t _).mono ?_
    rintro e w2 ⟨rfl, rfl⟩
    go_wp2
    go_ret
    rw [HS.out]
    exact ⟨rfl, HB1.out⟩

set_option maxHeartbeats 1000000 in
theorem typed23 (a b : Int) (t c n : ByteArray) (w : World) (ht : t.size ≤ 9223372036854775807) : Calls Tryz.prog 121 #[.agg #[.int .i64 23, .int .i64 a, .int .i64 b, .string t, .string c, .string n]] w fun e w' => e = .returned (.bool (typedOk ⟨23, a, b, t, c, n⟩)) ∧ Below w.heap.size w w' := by
  have HB := hid (ext_alloc w (.cells #[.int .i64 23, .int .i64 a, .int .i64 b, .string t, .string c, .string n] 61))
  have hS : typedOk ⟨23, a, b, t, c, n⟩ = (isTy t.data.toList && !isWd t.data.toList) := rfl
  cases hT : isTy t.data.toList with
  | false =>
    have HS : Hid (typedOk ⟨23, a, b, t, c, n⟩ = false) := hid (by rw [hS, hT]; rfl)
    have HT := hid hT
    clear hT hS
    go_enter Tryz.func121, Tryz.ntmps121
    go_wp2_with fail
    refine (tcheck_any t _ ht).mono ?_
    intro e w1 h1
    obtain ⟨rfl, hb1⟩ := checked_false h1 HT.out
    clear h1
    go_wp2
    go_ret
    rw [HS.out]
    exact ⟨rfl, HB.out.trans (hb1.mono HB.out.size)⟩
  | true =>
    have HS : Hid (typedOk ⟨23, a, b, t, c, n⟩ = !isWd t.data.toList) := hid (by rw [hS, hT]; rfl)
    have HT := hid hT
    clear hT hS
    go_enter Tryz.func121, Tryz.ntmps121
    go_wp2_with fail
    refine (tcheck_any t _ ht).mono ?_
    intro e w1 h1
    obtain ⟨rfl, hb1⟩ := checked_true h1 HT.out
    clear h1
    have HB1 := hid (HB.out.trans (hb1.mono HB.out.size))
    have hc3 : w1.cell? ⟨w.heap.size, 3, none⟩ = some (.string t) := by rw [hb1.cell (by simp)]; rw [World.cell?_alloc_at _ _ _ _ rfl]; rfl
    go_wp2_with fail
    refine (number_any t _).mono ?_
    rintro e w2 ⟨rfl, rfl⟩
    go_wp2
    go_ret
    rw [HS.out]
    exact ⟨rfl, HB1.out⟩

set_option maxHeartbeats 1000000 in
theorem typed24 (a b : Int) (t c n : ByteArray) (w : World) (ht : t.size ≤ 10000000) : Calls Tryz.prog 121 #[.agg #[.int .i64 24, .int .i64 a, .int .i64 b, .string t, .string c, .string n]] w fun e w' => e = .returned (.bool (typedOk ⟨24, a, b, t, c, n⟩)) ∧ Below w.heap.size w w' := by
  have HB := hid (ext_alloc w (.cells #[.int .i64 24, .int .i64 a, .int .i64 b, .string t, .string c, .string n] 61))
  have hS : typedOk ⟨24, a, b, t, c, n⟩ = (methodOf t.data.toList).isSome := rfl
  cases hm : methodOf t.data.toList with
  | none =>
    have HS : Hid (typedOk ⟨24, a, b, t, c, n⟩ = false) := hid (by rw [hS, hm]; rfl)
    have HM := hid hm
    clear hS hm
    go_enter Tryz.func121, Tryz.ntmps121
    go_wp2_with fail
    refine (method_any t _ ht).mono ?_
    intro e w1 h1
    obtain ⟨rfl, hb1⟩ := methodBy_none HM.out h1
    clear h1
    go_wp2
    go_ret
    rw [HS.out]
    exact ⟨rfl, HB.out.trans (hb1.mono HB.out.size)⟩
  | some r =>
    obtain ⟨ts, g⟩ := r
    have HS : Hid (typedOk ⟨24, a, b, t, c, n⟩ = true) := hid (by rw [hS, hm]; rfl)
    have HM := hid hm
    clear hS hm
    go_enter Tryz.func121, Tryz.ntmps121
    go_wp2_with fail
    refine (method_any t _ ht).mono ?_
    intro e w1 h1
    obtain ⟨v, rfl, ho⟩ := methodBy_some HM.out h1
    have hb1 := ho.below
    clear h1 ho
    go_wp2
    go_ret
    rw [HS.out]
    exact ⟨rfl, HB.out.trans (hb1.mono HB.out.size)⟩

set_option maxHeartbeats 1000000 in
theorem typed25 (a b : Int) (t c n : ByteArray) (w : World) (ht : t.size ≤ 10000000) : Calls Tryz.prog 121 #[.agg #[.int .i64 25, .int .i64 a, .int .i64 b, .string t, .string c, .string n]] w fun e w' => e = .returned (.bool (typedOk ⟨25, a, b, t, c, n⟩)) ∧ Below w.heap.size w w' := by
  have HB := hid (ext_alloc w (.cells #[.int .i64 25, .int .i64 a, .int .i64 b, .string t, .string c, .string n] 61))
  have hS : typedOk ⟨25, a, b, t, c, n⟩ = (methodOf t.data.toList).isSome := rfl
  cases hm : methodOf t.data.toList with
  | none =>
    have HS : Hid (typedOk ⟨25, a, b, t, c, n⟩ = false) := hid (by rw [hS, hm]; rfl)
    have HM := hid hm
    clear hS hm
    go_enter Tryz.func121, Tryz.ntmps121
    go_wp2_with fail
    refine (method_any t _ ht).mono ?_
    intro e w1 h1
    obtain ⟨rfl, hb1⟩ := methodBy_none HM.out h1
    clear h1
    go_wp2
    go_ret
    rw [HS.out]
    exact ⟨rfl, HB.out.trans (hb1.mono HB.out.size)⟩
  | some r =>
    obtain ⟨ts, g⟩ := r
    have HS : Hid (typedOk ⟨25, a, b, t, c, n⟩ = true) := hid (by rw [hS, hm]; rfl)
    have HM := hid hm
    clear hS hm
    go_enter Tryz.func121, Tryz.ntmps121
    go_wp2_with fail
    refine (method_any t _ ht).mono ?_
    intro e w1 h1
    obtain ⟨v, rfl, ho⟩ := methodBy_some HM.out h1
    have hb1 := ho.below
    clear h1 ho
    go_wp2
    go_ret
    rw [HS.out]
    exact ⟨rfl, HB.out.trans (hb1.mono HB.out.size)⟩

set_option maxHeartbeats 1000000 in
theorem typedX (op a b : Int) (t c n : ByteArray) (w : World) (h2 : op ≠ 2) (h9 : op ≠ 9) (h10 : op ≠ 10) (h18 : op ≠ 18) (h20 : op ≠ 20) (h21 : op ≠ 21) (h22 : op ≠ 22) (h23 : op ≠ 23) (h24 : op ≠ 24) (h25 : op ≠ 25) : Calls Tryz.prog 121 #[.agg #[.int .i64 op, .int .i64 a, .int .i64 b, .string t, .string c, .string n]] w fun e w' => e = .returned (.bool (typedOk ⟨op, a, b, t, c, n⟩)) ∧ Below w.heap.size w w' := by
  have HB := hid (ext_alloc w (.cells #[.int .i64 op, .int .i64 a, .int .i64 b, .string t, .string c, .string n] 61))
  have k2 : (op == 2) = false := by simp [h2]
  have k9 : (op == 9) = false := by simp [h9]
  have k10 : (op == 10) = false := by simp [h10]
  have k18 : (op == 18) = false := by simp [h18]
  have k20 : (op == 20) = false := by simp [h20]
  have k21 : (op == 21) = false := by simp [h21]
  have k22 : (op == 22) = false := by simp [h22]
  have k23 : (op == 23) = false := by simp [h23]
  have k24 : (op == 24) = false := by simp [h24]
  have k25 : (op == 25) = false := by simp [h25]
  have HS : Hid (typedOk ⟨op, a, b, t, c, n⟩ = true) := hid (by simp [typedOk, isIn, h2, h9, h10, h18, h20, h21, h22, h23, h24, h25])
  clear h2 h9 h10 h18 h20 h21 h22 h23 h24 h25
  go_enter Tryz.func121, Tryz.ntmps121
  go_wp2
  go_ret
  rw [HS.out]
  exact ⟨rfl, HB.out⟩

theorem typed_any (op a b : Int) (t c n : ByteArray) (w : World) (ht : t.size ≤ 10000000) : Calls Tryz.prog 121 #[.agg #[.int .i64 op, .int .i64 a, .int .i64 b, .string t, .string c, .string n]] w fun e w' => e = .returned (.bool (typedOk ⟨op, a, b, t, c, n⟩)) ∧ Below w.heap.size w w' := by
  by_cases h2 : op = 2
  · subst h2; exact typed2 a b t c n w (by omega)
  by_cases h9 : op = 9
  · subst h9; exact typed9 a b t c n w (by omega)
  by_cases h10 : op = 10
  · subst h10; exact typed10 a b t c n w (by omega)
  by_cases h18 : op = 18
  · subst h18; exact typed18 a b t c n w (by omega)
  by_cases h20 : op = 20
  · subst h20; exact typed20 a b t c n w (by omega)
  by_cases h21 : op = 21
  · subst h21; exact typed21 a b t c n w (by omega)
  by_cases h22 : op = 22
  · subst h22; exact typed22 a b t c n w (by omega)
  by_cases h23 : op = 23
  · subst h23; exact typed23 a b t c n w (by omega)
  by_cases h24 : op = 24
  · subst h24; exact typed24 a b t c n w (by omega)
  by_cases h25 : op = 25
  · subst h25; exact typed25 a b t c n w (by omega)
  exact typedX op a b t c n w h2 h9 h10 h18 h20 h21 h22 h23 h24 h25

end Go.Proofs.YtloeaihbnnnncaaGreatDoor.ins
