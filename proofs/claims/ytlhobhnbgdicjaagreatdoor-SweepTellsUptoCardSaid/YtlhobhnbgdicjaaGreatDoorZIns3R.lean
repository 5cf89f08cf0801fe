/- Instructions: is its type right, as the document says? typeMay, Deep, IsRef. Condition: the text is shorter than ten million bytes. -/
import Derived.Test.YtlhobhnbgdicjaaGreatDoorZIns3
import Derived.Test.YtlhobhnbgdicjaaGreatDoorZDescR
namespace Go.Proofs.YtlhobhnbgdicjaaGreatDoor.ins
open Go.RowKit lib errs names descs
set_option maxHeartbeats 1000000 in
theorem may2 (a b : Int) (t c n : ByteArray) (w : World) (ht : t.size ≤ 9223372036854775807) : Calls Tryz.prog 113 #[.agg #[.int .i64 2, .int .i64 a, .int .i64 b, .string t, .string c, .string n]] w fun e w' => e = .returned (.bool (typedOk ⟨2, a, b, t, c, n⟩)) ∧ Below w.heap.size w w' := by
 have HB := hid (ext_alloc w (.cells #[.int .i64 2, .int .i64 a, .int .i64 b, .string t, .string c, .string n] 108))
 have _ := ht
 have HS : Hid (typedOk ⟨2, a, b, t, c, n⟩ = isWd t.data.toList) := hid rfl
 go_enter Tryz.func113, Tryz.ntmps113
 go_wp2_with fail
 refine (isWord_any t _).mono ?_
 rintro e w1 ⟨rfl, rfl⟩
 rw [← HS.out]
 go_wp2
 go_ret
 exact ⟨rfl, HB.out⟩
set_option maxHeartbeats 1000000 in
theorem may9 (a b : Int) (t c n : ByteArray) (w : World) (ht : t.size ≤ 9223372036854775807) : Calls Tryz.prog 113 #[.agg #[.int .i64 9, .int .i64 a, .int .i64 b, .string t, .string c, .string n]] w fun e w' => e = .returned (.bool (typedOk ⟨9, a, b, t, c, n⟩)) ∧ Below w.heap.size w w' := by
 have HB := hid (ext_alloc w (.cells #[.int .i64 9, .int .i64 a, .int .i64 b, .string t, .string c, .string n] 108))
 have _ := ht
 have HS : Hid (typedOk ⟨9, a, b, t, c, n⟩ = isWd t.data.toList) := hid rfl
 go_enter Tryz.func113, Tryz.ntmps113
 go_wp2_with fail
 refine (isWord_any t _).mono ?_
 rintro e w1 ⟨rfl, rfl⟩
 rw [← HS.out]
 go_wp2
 go_ret
 exact ⟨rfl, HB.out⟩
set_option maxHeartbeats 1000000 in
theorem may10 (a b : Int) (t c n : ByteArray) (w : World) (ht : t.size ≤ 9223372036854775807) : Calls Tryz.prog 113 #[.agg #[.int .i64 10, .int .i64 a, .int .i64 b, .string t, .string c, .string n]] w fun e w' => e = .returned (.bool (typedOk ⟨10, a, b, t, c, n⟩)) ∧ Below w.heap.size w w' := by
 have HB := hid (ext_alloc w (.cells #[.int .i64 10, .int .i64 a, .int .i64 b, .string t, .string c, .string n] 108))
 have _ := ht
 have HS : Hid (typedOk ⟨10, a, b, t, c, n⟩ = isWd t.data.toList) := hid rfl
 go_enter Tryz.func113, Tryz.ntmps113
 go_wp2_with fail
 refine (isWord_any t _).mono ?_
 rintro e w1 ⟨rfl, rfl⟩
 rw [← HS.out]
 go_wp2
 go_ret
 exact ⟨rfl, HB.out⟩
set_option maxHeartbeats 1000000 in
theorem deep_any (t : ByteArray) (w : World) (ht : t.size ≤ 9223372036854775807) : Calls Tryz.prog 137 #[.string t] w fun e w' => e = .returned (.int .i64 (deepOf t.data.toList : Nat)) ∧ w = w' := by
 have hl := size_len t
 go_enter Tryz.func137, Tryz.ntmps137
 go_wp2_with fail
 go_loop [3] (fun i => ∃ k : Nat, k ≤ t.size ∧ i = .int .i64 k ∧ Hid (Behind t.data.toList 0 k)) (fun i => t.size - (intOf i).toNat)
 case atStart => exact ⟨0, Nat.zero_le _, rfl, hid rfl⟩
 case round =>
  obtain ⟨k, hk, rfl, HP⟩ := hrel
  by_cases hlt : k < t.size
  ·have hkl : (k : Int) < (t.size : Int) := by omega
   have hi : (0 : Int) ≤ (k : Int) := by omega
   by_cases hc : t[k] = 91
   ·have HP2 := hid (behind_step HP.out hlt hc)
    go_wp2
    go_round
    case rel => exact ⟨k + 1, by omega, by go_num, HP2⟩
    case measure => simp [intOf]; omega
   ·have HE : Hid (deepOf t.data.toList = k) := hid (by
     have h1 := behind_end HP.out hlt hc
     rw [List.drop_zero] at h1
     unfold deepOf
     rw [h1, List.length_cons, List.length_drop, hl]; omega)
    have u91 : ¬ (t[k].toNat : Int) = 91 := fun h => hc (UInt8.toNat_inj.1 (by simpa using (by omega : t[k].toNat = 91)))
    go_wp2
    go_ret
    rw [HE.out]
    exact ⟨rfl, rfl⟩
  ·have HE : Hid (deepOf t.data.toList = k) := hid (by
    have h1 := behind_out HP.out (by omega)
    rw [List.drop_zero] at h1
    unfold deepOf
    rw [h1, hl]; simp; omega)
   go_wp2
   go_ret
   rw [HE.out]
   exact ⟨rfl, rfl⟩
set_option maxHeartbeats 1000000 in
theorem isRef_any (t : ByteArray) (w : World) (ht : t.size ≤ 9223372036854775807) : Calls Tryz.prog 25 #[.string t] w fun e w' => e = .returned (.bool (isTy t.data.toList && !isWd t.data.toList)) ∧ w = w' := by
 cases hT : isTy t.data.toList with
 | false =>
  have HT := hid hT
  clear hT
  go_enter Tryz.func25, Tryz.ntmps25
  go_wp2_with fail
  refine (isType_any t _ ht).mono ?_
  rintro e w1 ⟨rfl, rfl⟩
  rw [HT.out]
  go_wp2
  go_ret
  exact ⟨rfl, rfl⟩
 | true =>
  have HT := hid hT
  clear hT
  go_enter Tryz.func25, Tryz.ntmps25
  go_wp2_with fail
  refine (isType_any t _ ht).mono ?_
  rintro e w1 ⟨rfl, rfl⟩
  rw [HT.out]
  go_wp2_with fail
  refine (isWord_any t _).mono ?_
  rintro e w1 ⟨rfl, rfl⟩
  go_wp2
  go_ret
  exact ⟨rfl, rfl⟩
set_option maxHeartbeats 1000000 in
theorem may18 (a b : Int) (t c n : ByteArray) (w : World) (ht : t.size ≤ 9223372036854775807) : Calls Tryz.prog 113 #[.agg #[.int .i64 18, .int .i64 a, .int .i64 b, .string t, .string c, .string n]] w fun e w' => e = .returned (.bool (typedOk ⟨18, a, b, t, c, n⟩)) ∧ Below w.heap.size w w' := by
 have HB := hid (ext_alloc w (.cells #[.int .i64 18, .int .i64 a, .int .i64 b, .string t, .string c, .string n] 108))
 have hS : typedOk ⟨18, a, b, t, c, n⟩ = (isTy t.data.toList && isTy (91 :: t.data.toList)) := rfl
 cases hT : isTy t.data.toList with
 | false =>
  have HS : Hid (typedOk ⟨18, a, b, t, c, n⟩ = false) := hid (by rw [hS, hT]; rfl)
  have HT := hid hT
  clear hT hS
  go_enter Tryz.func113, Tryz.ntmps113
  go_wp2_with fail
  refine (isType_any t _ ht).mono ?_
  rintro e w1 ⟨rfl, rfl⟩
  rw [HT.out]
  go_wp2
  go_ret
  rw [HS.out]
  exact ⟨rfl, HB.out⟩
 | true =>
  have HT := hid hT
  have HS : Hid (typedOk ⟨18, a, b, t, c, n⟩ = decide ((deepOf t.data.toList : Int) < 3)) := hid (by rw [hS, hT, isTy_deeper hT]; simp; omega)
  clear hT hS
  go_enter Tryz.func113, Tryz.ntmps113
  go_wp2_with fail
  refine (isType_any t _ ht).mono ?_
  rintro e w1 ⟨rfl, rfl⟩
  rw [HT.out]
  go_wp2_with fail
  refine (deep_any t _ ht).mono ?_
  rintro e w1 ⟨rfl, rfl⟩
  go_wp2
  go_ret
  rw [HS.out]
  exact ⟨rfl, HB.out⟩
set_option maxHeartbeats 1000000 in
theorem may20 (a b : Int) (t c n : ByteArray) (w : World) (ht : t.size ≤ 9223372036854775807) : Calls Tryz.prog 113 #[.agg #[.int .i64 20, .int .i64 a, .int .i64 b, .string t, .string c, .string n]] w fun e w' => e = .returned (.bool (typedOk ⟨20, a, b, t, c, n⟩)) ∧ Below w.heap.size w w' := by
 have HB := hid (ext_alloc w (.cells #[.int .i64 20, .int .i64 a, .int .i64 b, .string t, .string c, .string n] 108))
 have hS : typedOk ⟨20, a, b, t, c, n⟩ = (isTy t.data.toList && isTy (91 :: t.data.toList)) := rfl
 cases hT : isTy t.data.toList with
 | false =>
  have HS : Hid (typedOk ⟨20, a, b, t, c, n⟩ = false) := hid (by rw [hS, hT]; rfl)
  have HT := hid hT
  clear hT hS
  go_enter Tryz.func113, Tryz.ntmps113
  go_wp2_with fail
  refine (isType_any t _ ht).mono ?_
  rintro e w1 ⟨rfl, rfl⟩
  rw [HT.out]
  go_wp2
  go_ret
  rw [HS.out]
  exact ⟨rfl, HB.out⟩
 | true =>
  have HT := hid hT
  have HS : Hid (typedOk ⟨20, a, b, t, c, n⟩ = decide ((deepOf t.data.toList : Int) < 3)) := hid (by rw [hS, hT, isTy_deeper hT]; simp; omega)
  clear hT hS
  go_enter Tryz.func113, Tryz.ntmps113
  go_wp2_with fail
  refine (isType_any t _ ht).mono ?_
  rintro e w1 ⟨rfl, rfl⟩
  rw [HT.out]
  go_wp2_with fail
  refine (deep_any t _ ht).mono ?_
  rintro e w1 ⟨rfl, rfl⟩
  go_wp2
  go_ret
  rw [HS.out]
  exact ⟨rfl, HB.out⟩
set_option maxHeartbeats 1000000 in
theorem may21 (a b : Int) (t c n : ByteArray) (w : World) (ht : t.size ≤ 9223372036854775807) : Calls Tryz.prog 113 #[.agg #[.int .i64 21, .int .i64 a, .int .i64 b, .string t, .string c, .string n]] w fun e w' => e = .returned (.bool (typedOk ⟨21, a, b, t, c, n⟩)) ∧ Below w.heap.size w w' := by
 have HB := hid (ext_alloc w (.cells #[.int .i64 21, .int .i64 a, .int .i64 b, .string t, .string c, .string n] 108))
 have hS : typedOk ⟨21, a, b, t, c, n⟩ = (isTy t.data.toList && isTy (91 :: t.data.toList)) := rfl
 cases hT : isTy t.data.toList with
 | false =>
  have HS : Hid (typedOk ⟨21, a, b, t, c, n⟩ = false) := hid (by rw [hS, hT]; rfl)
  have HT := hid hT
  clear hT hS
  go_enter Tryz.func113, Tryz.ntmps113
  go_wp2_with fail
  refine (isType_any t _ ht).mono ?_
  rintro e w1 ⟨rfl, rfl⟩
  rw [HT.out]
  go_wp2
  go_ret
  rw [HS.out]
  exact ⟨rfl, HB.out⟩
 | true =>
  have HT := hid hT
  have HS : Hid (typedOk ⟨21, a, b, t, c, n⟩ = decide ((deepOf t.data.toList : Int) < 3)) := hid (by rw [hS, hT, isTy_deeper hT]; simp; omega)
  clear hT hS
  go_enter Tryz.func113, Tryz.ntmps113
  go_wp2_with fail
  refine (isType_any t _ ht).mono ?_
  rintro e w1 ⟨rfl, rfl⟩
  rw [HT.out]
  go_wp2_with fail
  refine (deep_any t _ ht).mono ?_
  rintro e w1 ⟨rfl, rfl⟩
  go_wp2
  go_ret
  rw [HS.out]
  exact ⟨rfl, HB.out⟩
set_option maxHeartbeats 1000000 in
theorem may22 (a b : Int) (t c n : ByteArray) (w : World) (ht : t.size ≤ 9223372036854775807) : Calls Tryz.prog 113 #[.agg #[.int .i64 22, .int .i64 a, .int .i64 b, .string t, .string c, .string n]] w fun e w' => e = .returned (.bool (typedOk ⟨22, a, b, t, c, n⟩)) ∧ Below w.heap.size w w' := by
 have HB := hid (ext_alloc w (.cells #[.int .i64 22, .int .i64 a, .int .i64 b, .string t, .string c, .string n] 108))
 have HS : Hid (typedOk ⟨22, a, b, t, c, n⟩ = (isTy t.data.toList && !isWd t.data.toList)) := hid rfl
 go_enter Tryz.func113, Tryz.ntmps113
 go_wp2_with fail
 refine (isRef_any t _ ht).mono ?_
 rintro e w1 ⟨rfl, rfl⟩
 rw [← HS.out]
 go_wp2
 go_ret
 exact ⟨rfl, HB.out⟩
set_option maxHeartbeats 1000000 in
theorem may23 (a b : Int) (t c n : ByteArray) (w : World) (ht : t.size ≤ 9223372036854775807) : Calls Tryz.prog 113 #[.agg #[.int .i64 23, .int .i64 a, .int .i64 b, .string t, .string c, .string n]] w fun e w' => e = .returned (.bool (typedOk ⟨23, a, b, t, c, n⟩)) ∧ Below w.heap.size w w' := by
 have HB := hid (ext_alloc w (.cells #[.int .i64 23, .int .i64 a, .int .i64 b, .string t, .string c, .string n] 108))
 have HS : Hid (typedOk ⟨23, a, b, t, c, n⟩ = (isTy t.data.toList && !isWd t.data.toList)) := hid rfl
 go_enter Tryz.func113, Tryz.ntmps113
 go_wp2_with fail
 refine (isRef_any t _ ht).mono ?_
 rintro e w1 ⟨rfl, rfl⟩
 rw [← HS.out]
 go_wp2
 go_ret
 exact ⟨rfl, HB.out⟩
set_option maxHeartbeats 1000000 in
theorem may24 (a b : Int) (t c n : ByteArray) (w : World) (ht : t.size ≤ 10000000) : Calls Tryz.prog 113 #[.agg #[.int .i64 24, .int .i64 a, .int .i64 b, .string t, .string c, .string n]] w fun e w' => e = .returned (.bool (typedOk ⟨24, a, b, t, c, n⟩)) ∧ Below w.heap.size w w' := by
 have HB := hid (ext_alloc w (.cells #[.int .i64 24, .int .i64 a, .int .i64 b, .string t, .string c, .string n] 108))
 have hS : typedOk ⟨24, a, b, t, c, n⟩ = (methodOf t.data.toList).isSome := rfl
 cases hm : methodOf t.data.toList with
 | none =>
  have HS : Hid (typedOk ⟨24, a, b, t, c, n⟩ = false) := hid (by rw [hS, hm]; rfl)
  have HM := hid hm
  clear hS hm
  go_enter Tryz.func113, Tryz.ntmps113
  go_wp2_with fail
  refine (methodOf_any t _ ht).mono ?_
  intro e w1 h1
  obtain ⟨rfl, hb1⟩ := methodSaid_none HM.out h1
  clear h1
  go_wp2
  go_ret
  rw [HS.out]
  exact ⟨rfl, HB.out.trans (hb1.mono HB.out.size)⟩
 | some r =>
  obtain ⟨ts, g⟩ := r
  have HS : Hid (typedOk ⟨24, a, b, t, c, n⟩ = true) := hid (by rw [hS, hm]; rfl)
  have HM := hid hm
  clear hS hm
  go_enter Tryz.func113, Tryz.ntmps113
  go_wp2_with fail
  refine (methodOf_any t _ ht).mono ?_
  intro e w1 h1
  obtain ⟨v, rfl, ho⟩ := methodSaid_some HM.out h1
  have hb1 := ho.below
  clear h1 ho
  go_wp2
  go_ret
  rw [HS.out]
  exact ⟨rfl, HB.out.trans (hb1.mono HB.out.size)⟩
set_option maxHeartbeats 1000000 in
theorem may25 (a b : Int) (t c n : ByteArray) (w : World) (ht : t.size ≤ 10000000) : Calls Tryz.prog 113 #[.agg #[.int .i64 25, .int .i64 a, .int .i64 b, .string t, .string c, .string n]] w fun e w' => e = .returned (.bool (typedOk ⟨25, a, b, t, c, n⟩)) ∧ Below w.heap.size w w' := by
 have HB := hid (ext_alloc w (.cells #[.int .i64 25, .int .i64 a, .int .i64 b, .string t, .string c, .string n] 108))
 have hS : typedOk ⟨25, a, b, t, c, n⟩ = (methodOf t.data.toList).isSome := rfl
 cases hm : methodOf t.data.toList with
 | none =>
  have HS : Hid (typedOk ⟨25, a, b, t, c, n⟩ = false) := hid (by rw [hS, hm]; rfl)
  have HM := hid hm
  clear hS hm
  go_enter Tryz.func113, Tryz.ntmps113
  go_wp2_with fail
  refine (methodOf_any t _ ht).mono ?_
  intro e w1 h1
  obtain ⟨rfl, hb1⟩ := methodSaid_none HM.out h1
  clear h1
  go_wp2
  go_ret
  rw [HS.out]
  exact ⟨rfl, HB.out.trans (hb1.mono HB.out.size)⟩
 | some r =>
  obtain ⟨ts, g⟩ := r
  have HS : Hid (typedOk ⟨25, a, b, t, c, n⟩ = true) := hid (by rw [hS, hm]; rfl)
  have HM := hid hm
  clear hS hm
  go_enter Tryz.func113, Tryz.ntmps113
  go_wp2_with fail
  refine (methodOf_any t _ ht).mono ?_
  intro e w1 h1
  obtain ⟨v, rfl, ho⟩ := methodSaid_some HM.out h1
  have hb1 := ho.below
  clear h1 ho
  go_wp2
  go_ret
  rw [HS.out]
  exact ⟨rfl, HB.out.trans (hb1.mono HB.out.size)⟩
set_option maxHeartbeats 1000000 in
theorem mayX (op a b : Int) (t c n : ByteArray) (w : World) (h2 : op ≠ 2) (h9 : op ≠ 9) (h10 : op ≠ 10) (h18 : op ≠ 18) (h20 : op ≠ 20) (h21 : op ≠ 21) (h22 : op ≠ 22) (h23 : op ≠ 23) (h24 : op ≠ 24) (h25 : op ≠ 25) : Calls Tryz.prog 113 #[.agg #[.int .i64 op, .int .i64 a, .int .i64 b, .string t, .string c, .string n]] w fun e w' => e = .returned (.bool (typedOk ⟨op, a, b, t, c, n⟩)) ∧ Below w.heap.size w w' := by
 have HB := hid (ext_alloc w (.cells #[.int .i64 op, .int .i64 a, .int .i64 b, .string t, .string c, .string n] 108))
 have k2 : (op == 2) = false := by simp [h2]
 have k9 : (op == 9) = false := by simp [h9]
 have k10 : (op == 10) = false := by simp [h10]
 have k18 : (op == 18) = false := by simp [h18]
 have k20 : (op == 20) = false := by simp [h20]
 have k21 : (op == 21) = false := by simp [h21]
 have k22 : (op == 22) = false := by simp [h22]
 have k23 : (op == 23) = false := by simp [h23]
 have k24 : (op == 24) = false := by simp [h24]
 have k25 : (op == 25) = false := by simp [h25]
 have HS : Hid (typedOk ⟨op, a, b, t, c, n⟩ = true) := hid (by simp [typedOk, isIn, h2, h9, h10, h18, h20, h21, h22, h23, h24, h25])
 clear h2 h9 h10 h18 h20 h21 h22 h23 h24 h25
 go_enter Tryz.func113, Tryz.ntmps113
 go_wp2
 go_ret
 rw [HS.out]
 exact ⟨rfl, HB.out⟩
theorem may_any (op a b : Int) (t c n : ByteArray) (w : World) (ht : t.size ≤ 10000000) : Calls Tryz.prog 113 #[.agg #[.int .i64 op, .int .i64 a, .int .i64 b, .string t, .string c, .string n]] w fun e w' => e = .returned (.bool (typedOk ⟨op, a, b, t, c, n⟩)) ∧ Below w.heap.size w w' := by
 by_cases h2 : op = 2
 ·subst h2; exact may2 a b t c n w (by omega)
 by_cases h9 : op = 9
 ·subst h9; exact may9 a b t c n w (by omega)
 by_cases h10 : op = 10
 ·subst h10; exact may10 a b t c n w (by omega)
 by_cases h18 : op = 18
 ·subst h18; exact may18 a b t c n w (by omega)
 by_cases h20 : op = 20
 ·subst h20; exact may20 a b t c n w (by omega)
 by_cases h21 : op = 21
 ·subst h21; exact may21 a b t c n w (by omega)
 by_cases h22 : op = 22
 ·subst h22; exact may22 a b t c n w (by omega)
 by_cases h23 : op = 23
 ·subst h23; exact may23 a b t c n w (by omega)
 by_cases h24 : op = 24
 ·subst h24; exact may24 a b t c n w (by omega)
 by_cases h25 : op = 25
 ·subst h25; exact may25 a b t c n w (by omega)
 exact mayX op a b t c n w h2 h9 h10 h18 h20 h21 h22 h23 h24 h25
end Go.Proofs.YtlhobhnbgdicjaaGreatDoor.ins
