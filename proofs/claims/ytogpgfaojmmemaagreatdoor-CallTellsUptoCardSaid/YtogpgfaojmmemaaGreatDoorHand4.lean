/- Handles: the document's subsOf and leafType. Condition: the kind is one of a leaf's. -/
import Derived.Test.YtogpgfaojmmemaaGreatDoorDescR
import Derived.Test.YtogpgfaojmmemaaGreatDoorHand3
set_option linter.unusedSimpArgs false
set_option linter.unusedVariables false
namespace Go.Proofs.YtogpgfaojmmemaaGreatDoor.hands
open Go.RowKit Go.Proofs.YtogpgfaojmmemaaGreatDoor.lib Go.Proofs.YtogpgfaojmmemaaGreatDoor.errs Go.Proofs.YtogpgfaojmmemaaGreatDoor.names Go.Proofs.YtogpgfaojmmemaaGreatDoor.descs Go.Proofs.YtogpgfaojmmemaaGreatDoor.ins

theorem rsubs_any (k : Int) (w : World) : Calls Tryz.prog 58 #[.int .i64 k] w fun e w' => e = .returned (.int .i64 (subsN k)) ∧ w = w' := by
  obtain ⟨R, hR⟩ : ∃ R, subsN k = R := ⟨_, rfl⟩
  rw [hR]
  have HR := hid hR
  clear hR
  by_cases h4 : k = 4
  · subst h4
    go_enter Tryz.func58, Tryz.ntmps58
    go_wp2
    go_ret
    rw [← HR.out]; exact ⟨rfl, rfl⟩
  by_cases h5 : k = 5
  · subst h5
    go_enter Tryz.func58, Tryz.ntmps58
    go_wp2
    go_ret
    rw [← HR.out]; exact ⟨rfl, rfl⟩
  by_cases h6 : k = 6
  · subst h6
    go_enter Tryz.func58, Tryz.ntmps58
    go_wp2
    go_ret
    rw [← HR.out]; exact ⟨rfl, rfl⟩
  by_cases h7 : k = 7
  · subst h7
    go_enter Tryz.func58, Tryz.ntmps58
    go_wp2
    go_ret
    rw [← HR.out]; exact ⟨rfl, rfl⟩
  have HZ : Hid (R = 0) := hid (by rw [← HR.out]; unfold subsN; simp [h4, h5, h6, h7])
  have n4 : (k == 4) = false := by simpa using h4
  have n5 : (k == 5) = false := by simpa using h5
  have n6 : (k == 6) = false := by simpa using h6
  have n7 : (k == 7) = false := by simpa using h7
  clear h4 h5 h6 h7
  go_enter Tryz.func58, Tryz.ntmps58
  go_wp2
  go_ret
  rw [HZ.out]; exact ⟨rfl, rfl⟩

theorem lf1I (a : Int) (va vs : Value) (w : World) (h : -2147483648 ≤ a ∧ a ≤ 2147483647) :
    Calls Tryz.prog 59 #[.agg #[.int .i64 1, .string ({ data := #[73] } : ByteArray), .int .i64 a, va, vs]] w fun e w' => e = .returned (.tuple #[.string (bs (leafS 1 [73] a)), .int .i64 (leafF 1 [73] a)]) ∧ Below w.heap.size w w' := by
  have HF : Hid (leafF 1 [73] a = 0) := hid (by unfold leafF; simp [isWd, h])
  have HS : Hid (bs (leafS 1 [73] a) = { data := #[40, 41, 73] }) := hid (by unfold leafS; rw [HF.out]; rfl)
  have HB := hid (ext_alloc w (.cells #[.int .i64 1, .string ({ data := #[73] } : ByteArray), .int .i64 a, va, vs] 25))
  have HW := hid (isWord_any ({ data := #[73] } : ByteArray))
  rw [show isWd ({ data := #[73] } : ByteArray).data.toList = true from rfl] at HW
  rw [HS.out, HF.out]
  have HWV : Hid ((decide (-2147483648 ≤ a) && decide (a ≤ 2147483647)) = true) := hid (by simp [h])
  clear h
  go_enter Tryz.func59, Tryz.ntmps59
  go_wp2_with fail
  refine (HW.out _).mono ?_
  rintro e w1 ⟨rfl, hww⟩
  obtain rfl := hww.symm
  go_wp2_with fail
  refine (word32_any a _).mono ?_
  rintro e w2 ⟨rfl, hww⟩
  obtain rfl := hww.symm
  rw [HWV.out]
  go_wp2
  go_ret2
  exact ⟨rfl, HB.out⟩

theorem lf1O (a : Int) (va vs : Value) (w : World) (h : ¬ (-2147483648 ≤ a ∧ a ≤ 2147483647)) :
    Calls Tryz.prog 59 #[.agg #[.int .i64 1, .string ({ data := #[73] } : ByteArray), .int .i64 a, va, vs]] w fun e w' => e = .returned (.tuple #[.string (bs (leafS 1 [73] a)), .int .i64 (leafF 1 [73] a)]) ∧ Below w.heap.size w w' := by
  have HF : Hid (leafF 1 [73] a = 2) := hid (by unfold leafF; rw [if_neg (by simp [isWd]), if_pos ⟨rfl, rfl, h⟩])
  have HS : Hid (bs (leafS 1 [73] a) = { data := #[] }) := hid (by unfold leafS; rw [HF.out]; rfl)
  have HB := hid (ext_alloc w (.cells #[.int .i64 1, .string ({ data := #[73] } : ByteArray), .int .i64 a, va, vs] 25))
  have HW := hid (isWord_any ({ data := #[73] } : ByteArray))
  rw [show isWd ({ data := #[73] } : ByteArray).data.toList = true from rfl] at HW
  rw [HS.out, HF.out]
  have HWV : Hid ((decide (-2147483648 ≤ a) && decide (a ≤ 2147483647)) = false) := hid (by simp; omega)
  clear h
  go_enter Tryz.func59, Tryz.ntmps59
  go_wp2_with fail
  refine (HW.out _).mono ?_
  rintro e w1 ⟨rfl, hww⟩
  obtain rfl := hww.symm
  go_wp2_with fail
  refine (word32_any a _).mono ?_
  rintro e w2 ⟨rfl, hww⟩
  obtain rfl := hww.symm
  rw [HWV.out]
  go_wp2
  go_ret2
  exact ⟨rfl, HB.out⟩

theorem lf1J (a : Int) (va vs : Value) (w : World)  :
    Calls Tryz.prog 59 #[.agg #[.int .i64 1, .string ({ data := #[74] } : ByteArray), .int .i64 a, va, vs]] w fun e w' => e = .returned (.tuple #[.string (bs (leafS 1 [74] a)), .int .i64 (leafF 1 [74] a)]) ∧ Below w.heap.size w w' := by
  have HF : Hid (leafF 1 [74] a = 0) := hid (by unfold leafF; simp [isWd])
  have HS : Hid (bs (leafS 1 [74] a) = { data := #[40, 41, 74] }) := hid (by unfold leafS; rw [HF.out]; rfl)
  have HB := hid (ext_alloc w (.cells #[.int .i64 1, .string ({ data := #[74] } : ByteArray), .int .i64 a, va, vs] 25))
  have HW := hid (isWord_any ({ data := #[74] } : ByteArray))
  rw [show isWd ({ data := #[74] } : ByteArray).data.toList = true from rfl] at HW
  rw [HS.out, HF.out]
  go_enter Tryz.func59, Tryz.ntmps59
  go_wp2_with fail
  refine (HW.out _).mono ?_
  rintro e w1 ⟨rfl, hww⟩
  obtain rfl := hww.symm
  go_wp2
  go_ret2
  exact ⟨rfl, HB.out⟩

theorem lf2I (a : Int) (va vs : Value) (w : World)  :
    Calls Tryz.prog 59 #[.agg #[.int .i64 2, .string ({ data := #[73] } : ByteArray), .int .i64 a, va, vs]] w fun e w' => e = .returned (.tuple #[.string (bs (leafS 2 [73] a)), .int .i64 (leafF 2 [73] a)]) ∧ Below w.heap.size w w' := by
  have HF : Hid (leafF 2 [73] a = 0) := hid (by unfold leafF; simp [isWd])
  have HS : Hid (bs (leafS 2 [73] a) = { data := #[40, 73, 41, 73] }) := hid (by unfold leafS; rw [HF.out]; rfl)
  have HB := hid (ext_alloc w (.cells #[.int .i64 2, .string ({ data := #[73] } : ByteArray), .int .i64 a, va, vs] 25))
  have HW := hid (isWord_any ({ data := #[73] } : ByteArray))
  rw [show isWd ({ data := #[73] } : ByteArray).data.toList = true from rfl] at HW
  rw [HS.out, HF.out]
  go_enter Tryz.func59, Tryz.ntmps59
  go_wp2_with fail
  refine (HW.out _).mono ?_
  rintro e w1 ⟨rfl, hww⟩
  obtain rfl := hww.symm
  go_wp2
  go_ret2
  exact ⟨rfl, HB.out⟩

theorem lfLoI (a : Int) (va vs : Value) (w : World) (h : a < 1) :
    Calls Tryz.prog 59 #[.agg #[.int .i64 3, .string ({ data := #[73] } : ByteArray), .int .i64 a, va, vs]] w fun e w' => e = .returned (.tuple #[.string (bs (leafS 3 [73] a)), .int .i64 (leafF 3 [73] a)]) ∧ Below w.heap.size w w' := by
  have HF : Hid (leafF 3 [73] a = 1) := hid (by unfold leafF; rw [if_pos (.inr ⟨rfl, .inl h⟩)])
  have HS : Hid (bs (leafS 3 [73] a) = { data := #[] }) := hid (by unfold leafS; rw [HF.out]; rfl)
  have HB := hid (ext_alloc w (.cells #[.int .i64 3, .string ({ data := #[73] } : ByteArray), .int .i64 a, va, vs] 25))
  have HW := hid (isWord_any ({ data := #[73] } : ByteArray))
  rw [show isWd ({ data := #[73] } : ByteArray).data.toList = true from rfl] at HW
  rw [HS.out, HF.out]
  go_enter Tryz.func59, Tryz.ntmps59
  go_wp2_with fail
  refine (HW.out _).mono ?_
  rintro e w1 ⟨rfl, hww⟩
  obtain rfl := hww.symm
  go_wp2
  go_ret2
  exact ⟨rfl, HB.out⟩

theorem lfHiI (a : Int) (va vs : Value) (w : World) (h : 12 < a) :
    Calls Tryz.prog 59 #[.agg #[.int .i64 3, .string ({ data := #[73] } : ByteArray), .int .i64 a, va, vs]] w fun e w' => e = .returned (.tuple #[.string (bs (leafS 3 [73] a)), .int .i64 (leafF 3 [73] a)]) ∧ Below w.heap.size w w' := by
  have HF : Hid (leafF 3 [73] a = 1) := hid (by unfold leafF; rw [if_pos (.inr ⟨rfl, .inr h⟩)])
  have HS : Hid (bs (leafS 3 [73] a) = { data := #[] }) := hid (by unfold leafS; rw [HF.out]; rfl)
  have HB := hid (ext_alloc w (.cells #[.int .i64 3, .string ({ data := #[73] } : ByteArray), .int .i64 a, va, vs] 25))
  have HW := hid (isWord_any ({ data := #[73] } : ByteArray))
  rw [show isWd ({ data := #[73] } : ByteArray).data.toList = true from rfl] at HW
  rw [HS.out, HF.out]
  have h1 : ¬ a < 1 := by omega
  go_enter Tryz.func59, Tryz.ntmps59
  go_wp2_with fail
  refine (HW.out _).mono ?_
  rintro e w1 ⟨rfl, hww⟩
  obtain rfl := hww.symm
  go_wp2
  go_ret2
  exact ⟨rfl, HB.out⟩

theorem lf12I (a : Int) (va vs : Value) (w : World) (h : a = 12) :
    Calls Tryz.prog 59 #[.agg #[.int .i64 3, .string ({ data := #[73] } : ByteArray), .int .i64 a, va, vs]] w fun e w' => e = .returned (.tuple #[.string (bs (leafS 3 [73] a)), .int .i64 (leafF 3 [73] a)]) ∧ Below w.heap.size w w' := by
  have HF : Hid (leafF 3 [73] a = 0) := hid (by rw [h]; unfold leafF; simp [isWd])
  have HS : Hid (bs (leafS 3 [73] a) = { data := #[40, 73, 41, 73] }) := hid (by unfold leafS; rw [HF.out]; rw [h]; rfl)
  have HB := hid (ext_alloc w (.cells #[.int .i64 3, .string ({ data := #[73] } : ByteArray), .int .i64 a, va, vs] 25))
  have HW := hid (isWord_any ({ data := #[73] } : ByteArray))
  rw [show isWd ({ data := #[73] } : ByteArray).data.toList = true from rfl] at HW
  rw [HS.out, HF.out]
  subst h
  go_enter Tryz.func59, Tryz.ntmps59
  go_wp2_with fail
  refine (HW.out _).mono ?_
  rintro e w1 ⟨rfl, hww⟩
  obtain rfl := hww.symm
  go_wp2
  go_ret2
  exact ⟨rfl, HB.out⟩

theorem lf9I (a : Int) (va vs : Value) (w : World) (h : a = 9) :
    Calls Tryz.prog 59 #[.agg #[.int .i64 3, .string ({ data := #[73] } : ByteArray), .int .i64 a, va, vs]] w fun e w' => e = .returned (.tuple #[.string (bs (leafS 3 [73] a)), .int .i64 (leafF 3 [73] a)]) ∧ Below w.heap.size w w' := by
  have HF : Hid (leafF 3 [73] a = 0) := hid (by rw [h]; unfold leafF; simp [isWd])
  have HS : Hid (bs (leafS 3 [73] a) = { data := #[40, 73, 73, 41, 73] }) := hid (by unfold leafS; rw [HF.out]; rw [h]; rfl)
  have HB := hid (ext_alloc w (.cells #[.int .i64 3, .string ({ data := #[73] } : ByteArray), .int .i64 a, va, vs] 25))
  have HW := hid (isWord_any ({ data := #[73] } : ByteArray))
  rw [show isWd ({ data := #[73] } : ByteArray).data.toList = true from rfl] at HW
  rw [HS.out, HF.out]
  subst h
  go_enter Tryz.func59, Tryz.ntmps59
  go_wp2_with fail
  refine (HW.out _).mono ?_
  rintro e w1 ⟨rfl, hww⟩
  obtain rfl := hww.symm
  go_wp2
  go_ret2
  exact ⟨rfl, HB.out⟩

theorem lf10I (a : Int) (va vs : Value) (w : World) (h : a = 10) :
    Calls Tryz.prog 59 #[.agg #[.int .i64 3, .string ({ data := #[73] } : ByteArray), .int .i64 a, va, vs]] w fun e w' => e = .returned (.tuple #[.string (bs (leafS 3 [73] a)), .int .i64 (leafF 3 [73] a)]) ∧ Below w.heap.size w w' := by
  have HF : Hid (leafF 3 [73] a = 0) := hid (by rw [h]; unfold leafF; simp [isWd])
  have HS : Hid (bs (leafS 3 [73] a) = { data := #[40, 73, 73, 41, 73] }) := hid (by unfold leafS; rw [HF.out]; rw [h]; rfl)
  have HB := hid (ext_alloc w (.cells #[.int .i64 3, .string ({ data := #[73] } : ByteArray), .int .i64 a, va, vs] 25))
  have HW := hid (isWord_any ({ data := #[73] } : ByteArray))
  rw [show isWd ({ data := #[73] } : ByteArray).data.toList = true from rfl] at HW
  rw [HS.out, HF.out]
  subst h
  go_enter Tryz.func59, Tryz.ntmps59
  go_wp2_with fail
  refine (HW.out _).mono ?_
  rintro e w1 ⟨rfl, hww⟩
  obtain rfl := hww.symm
  go_wp2
  go_ret2
  exact ⟨rfl, HB.out⟩

theorem lf11I (a : Int) (va vs : Value) (w : World) (h : a = 11) :
    Calls Tryz.prog 59 #[.agg #[.int .i64 3, .string ({ data := #[73] } : ByteArray), .int .i64 a, va, vs]] w fun e w' => e = .returned (.tuple #[.string (bs (leafS 3 [73] a)), .int .i64 (leafF 3 [73] a)]) ∧ Below w.heap.size w w' := by
  have HF : Hid (leafF 3 [73] a = 0) := hid (by rw [h]; unfold leafF; simp [isWd])
  have HS : Hid (bs (leafS 3 [73] a) = { data := #[40, 73, 73, 41, 73] }) := hid (by unfold leafS; rw [HF.out]; rw [h]; rfl)
  have HB := hid (ext_alloc w (.cells #[.int .i64 3, .string ({ data := #[73] } : ByteArray), .int .i64 a, va, vs] 25))
  have HW := hid (isWord_any ({ data := #[73] } : ByteArray))
  rw [show isWd ({ data := #[73] } : ByteArray).data.toList = true from rfl] at HW
  rw [HS.out, HF.out]
  subst h
  go_enter Tryz.func59, Tryz.ntmps59
  go_wp2_with fail
  refine (HW.out _).mono ?_
  rintro e w1 ⟨rfl, hww⟩
  obtain rfl := hww.symm
  go_wp2
  go_ret2
  exact ⟨rfl, HB.out⟩

theorem lfElI (a : Int) (va vs : Value) (w : World) (h1 : 1 ≤ a) (h2 : a ≤ 8) :
    Calls Tryz.prog 59 #[.agg #[.int .i64 3, .string ({ data := #[73] } : ByteArray), .int .i64 a, va, vs]] w fun e w' => e = .returned (.tuple #[.string (bs (leafS 3 [73] a)), .int .i64 (leafF 3 [73] a)]) ∧ Below w.heap.size w w' := by
  have HF : Hid (leafF 3 [73] a = 0) := hid (by unfold leafF; rw [if_neg (by simp [isWd]; omega), if_neg (by simp)])
  have HS : Hid (bs (leafS 3 [73] a) = { data := #[40, 73, 73, 41, 73] }) := hid (by unfold leafS; rw [HF.out]; rw [if_pos rfl]; unfold leafT; rw [if_neg (by decide), if_neg (by omega), if_neg (by omega)]; rfl)
  have HB := hid (ext_alloc w (.cells #[.int .i64 3, .string ({ data := #[73] } : ByteArray), .int .i64 a, va, vs] 25))
  have HW := hid (isWord_any ({ data := #[73] } : ByteArray))
  rw [show isWd ({ data := #[73] } : ByteArray).data.toList = true from rfl] at HW
  rw [HS.out, HF.out]
  have n1 : ¬ a < 1 := by omega
  have n2 : ¬ 12 < a := by omega
  have n3 : (a == 12) = false := by simp; omega
  have n4 : (a == 9) = false := by simp; omega
  have n5 : (a == 10) = false := by simp; omega
  have n6 : (a == 11) = false := by simp; omega
  go_enter Tryz.func59, Tryz.ntmps59
  go_wp2_with fail
  refine (HW.out _).mono ?_
  rintro e w1 ⟨rfl, hww⟩
  obtain rfl := hww.symm
  go_wp2
  go_ret2
  exact ⟨rfl, HB.out⟩

theorem lf2J (a : Int) (va vs : Value) (w : World)  :
    Calls Tryz.prog 59 #[.agg #[.int .i64 2, .string ({ data := #[74] } : ByteArray), .int .i64 a, va, vs]] w fun e w' => e = .returned (.tuple #[.string (bs (leafS 2 [74] a)), .int .i64 (leafF 2 [74] a)]) ∧ Below w.heap.size w w' := by
  have HF : Hid (leafF 2 [74] a = 0) := hid (by unfold leafF; simp [isWd])
  have HS : Hid (bs (leafS 2 [74] a) = { data := #[40, 74, 41, 74] }) := hid (by unfold leafS; rw [HF.out]; rfl)
  have HB := hid (ext_alloc w (.cells #[.int .i64 2, .string ({ data := #[74] } : ByteArray), .int .i64 a, va, vs] 25))
  have HW := hid (isWord_any ({ data := #[74] } : ByteArray))
  rw [show isWd ({ data := #[74] } : ByteArray).data.toList = true from rfl] at HW
  rw [HS.out, HF.out]
  go_enter Tryz.func59, Tryz.ntmps59
  go_wp2_with fail
  refine (HW.out _).mono ?_
  rintro e w1 ⟨rfl, hww⟩
  obtain rfl := hww.symm
  go_wp2
  go_ret2
  exact ⟨rfl, HB.out⟩

theorem lfLoJ (a : Int) (va vs : Value) (w : World) (h : a < 1) :
    Calls Tryz.prog 59 #[.agg #[.int .i64 3, .string ({ data := #[74] } : ByteArray), .int .i64 a, va, vs]] w fun e w' => e = .returned (.tuple #[.string (bs (leafS 3 [74] a)), .int .i64 (leafF 3 [74] a)]) ∧ Below w.heap.size w w' := by
  have HF : Hid (leafF 3 [74] a = 1) := hid (by unfold leafF; rw [if_pos (.inr ⟨rfl, .inl h⟩)])
  have HS : Hid (bs (leafS 3 [74] a) = { data := #[] }) := hid (by unfold leafS; rw [HF.out]; rfl)
  have HB := hid (ext_alloc w (.cells #[.int .i64 3, .string ({ data := #[74] } : ByteArray), .int .i64 a, va, vs] 25))
  have HW := hid (isWord_any ({ data := #[74] } : ByteArray))
  rw [show isWd ({ data := #[74] } : ByteArray).data.toList = true from rfl] at HW
  rw [HS.out, HF.out]
  go_enter Tryz.func59, Tryz.ntmps59
  go_wp2_with fail
  refine (HW.out _).mono ?_
  rintro e w1 ⟨rfl, hww⟩
  obtain rfl := hww.symm
  go_wp2
  go_ret2
  exact ⟨rfl, HB.out⟩

theorem lfHiJ (a : Int) (va vs : Value) (w : World) (h : 12 < a) :
    Calls Tryz.prog 59 #[.agg #[.int .i64 3, .string ({ data := #[74] } : ByteArray), .int .i64 a, va, vs]] w fun e w' => e = .returned (.tuple #[.string (bs (leafS 3 [74] a)), .int .i64 (leafF 3 [74] a)]) ∧ Below w.heap.size w w' := by
  have HF : Hid (leafF 3 [74] a = 1) := hid (by unfold leafF; rw [if_pos (.inr ⟨rfl, .inr h⟩)])
  have HS : Hid (bs (leafS 3 [74] a) = { data := #[] }) := hid (by unfold leafS; rw [HF.out]; rfl)
  have HB := hid (ext_alloc w (.cells #[.int .i64 3, .string ({ data := #[74] } : ByteArray), .int .i64 a, va, vs] 25))
  have HW := hid (isWord_any ({ data := #[74] } : ByteArray))
  rw [show isWd ({ data := #[74] } : ByteArray).data.toList = true from rfl] at HW
  rw [HS.out, HF.out]
  have h1 : ¬ a < 1 := by omega
  go_enter Tryz.func59, Tryz.ntmps59
  go_wp2_with fail
  refine (HW.out _).mono ?_
  rintro e w1 ⟨rfl, hww⟩
  obtain rfl := hww.symm
  go_wp2
  go_ret2
  exact ⟨rfl, HB.out⟩

theorem lf12J (a : Int) (va vs : Value) (w : World) (h : a = 12) :
    Calls Tryz.prog 59 #[.agg #[.int .i64 3, .string ({ data := #[74] } : ByteArray), .int .i64 a, va, vs]] w fun e w' => e = .returned (.tuple #[.string (bs (leafS 3 [74] a)), .int .i64 (leafF 3 [74] a)]) ∧ Below w.heap.size w w' := by
  have HF : Hid (leafF 3 [74] a = 0) := hid (by rw [h]; unfold leafF; simp [isWd])
  have HS : Hid (bs (leafS 3 [74] a) = { data := #[40, 74, 41, 74] }) := hid (by unfold leafS; rw [HF.out]; rw [h]; rfl)
  have HB := hid (ext_alloc w (.cells #[.int .i64 3, .string ({ data := #[74] } : ByteArray), .int .i64 a, va, vs] 25))
  have HW := hid (isWord_any ({ data := #[74] } : ByteArray))
  rw [show isWd ({ data := #[74] } : ByteArray).data.toList = true from rfl] at HW
  rw [HS.out, HF.out]
  subst h
  go_enter Tryz.func59, Tryz.ntmps59
  go_wp2_with fail
  refine (HW.out _).mono ?_
  rintro e w1 ⟨rfl, hww⟩
  obtain rfl := hww.symm
  go_wp2
  go_ret2
  exact ⟨rfl, HB.out⟩

theorem lf9J (a : Int) (va vs : Value) (w : World) (h : a = 9) :
    Calls Tryz.prog 59 #[.agg #[.int .i64 3, .string ({ data := #[74] } : ByteArray), .int .i64 a, va, vs]] w fun e w' => e = .returned (.tuple #[.string (bs (leafS 3 [74] a)), .int .i64 (leafF 3 [74] a)]) ∧ Below w.heap.size w w' := by
  have HF : Hid (leafF 3 [74] a = 0) := hid (by rw [h]; unfold leafF; simp [isWd])
  have HS : Hid (bs (leafS 3 [74] a) = { data := #[40, 74, 73, 41, 74] }) := hid (by unfold leafS; rw [HF.out]; rw [h]; rfl)
  have HB := hid (ext_alloc w (.cells #[.int .i64 3, .string ({ data := #[74] } : ByteArray), .int .i64 a, va, vs] 25))
  have HW := hid (isWord_any ({ data := #[74] } : ByteArray))
  rw [show isWd ({ data := #[74] } : ByteArray).data.toList = true from rfl] at HW
  rw [HS.out, HF.out]
  subst h
  go_enter Tryz.func59, Tryz.ntmps59
  go_wp2_with fail
  refine (HW.out _).mono ?_
  rintro e w1 ⟨rfl, hww⟩
  obtain rfl := hww.symm
  go_wp2
  go_ret2
  exact ⟨rfl, HB.out⟩

theorem lf10J (a : Int) (va vs : Value) (w : World) (h : a = 10) :
    Calls Tryz.prog 59 #[.agg #[.int .i64 3, .string ({ data := #[74] } : ByteArray), .int .i64 a, va, vs]] w fun e w' => e = .returned (.tuple #[.string (bs (leafS 3 [74] a)), .int .i64 (leafF 3 [74] a)]) ∧ Below w.heap.size w w' := by
  have HF : Hid (leafF 3 [74] a = 0) := hid (by rw [h]; unfold leafF; simp [isWd])
  have HS : Hid (bs (leafS 3 [74] a) = { data := #[40, 74, 73, 41, 74] }) := hid (by unfold leafS; rw [HF.out]; rw [h]; rfl)
  have HB := hid (ext_alloc w (.cells #[.int .i64 3, .string ({ data := #[74] } : ByteArray), .int .i64 a, va, vs] 25))
  have HW := hid (isWord_any ({ data := #[74] } : ByteArray))
  rw [show isWd ({ data := #[74] } : ByteArray).data.toList = true from rfl] at HW
  rw [HS.out, HF.out]
  subst h
  go_enter Tryz.func59, Tryz.ntmps59
  go_wp2_with fail
  refine (HW.out _).mono ?_
  rintro e w1 ⟨rfl, hww⟩
  obtain rfl := hww.symm
  go_wp2
  go_ret2
  exact ⟨rfl, HB.out⟩

theorem lf11J (a : Int) (va vs : Value) (w : World) (h : a = 11) :
    Calls Tryz.prog 59 #[.agg #[.int .i64 3, .string ({ data := #[74] } : ByteArray), .int .i64 a, va, vs]] w fun e w' => e = .returned (.tuple #[.string (bs (leafS 3 [74] a)), .int .i64 (leafF 3 [74] a)]) ∧ Below w.heap.size w w' := by
  have HF : Hid (leafF 3 [74] a = 0) := hid (by rw [h]; unfold leafF; simp [isWd])
  have HS : Hid (bs (leafS 3 [74] a) = { data := #[40, 74, 73, 41, 74] }) := hid (by unfold leafS; rw [HF.out]; rw [h]; rfl)
  have HB := hid (ext_alloc w (.cells #[.int .i64 3, .string ({ data := #[74] } : ByteArray), .int .i64 a, va, vs] 25))
  have HW := hid (isWord_any ({ data := #[74] } : ByteArray))
  rw [show isWd ({ data := #[74] } : ByteArray).data.toList = true from rfl] at HW
  rw [HS.out, HF.out]
  subst h
  go_enter Tryz.func59, Tryz.ntmps59
  go_wp2_with fail
  refine (HW.out _).mono ?_
  rintro e w1 ⟨rfl, hww⟩
  obtain rfl := hww.symm
  go_wp2
  go_ret2
  exact ⟨rfl, HB.out⟩

theorem lfElJ (a : Int) (va vs : Value) (w : World) (h1 : 1 ≤ a) (h2 : a ≤ 8) :
    Calls Tryz.prog 59 #[.agg #[.int .i64 3, .string ({ data := #[74] } : ByteArray), .int .i64 a, va, vs]] w fun e w' => e = .returned (.tuple #[.string (bs (leafS 3 [74] a)), .int .i64 (leafF 3 [74] a)]) ∧ Below w.heap.size w w' := by
  have HF : Hid (leafF 3 [74] a = 0) := hid (by unfold leafF; rw [if_neg (by simp [isWd]; omega), if_neg (by simp)])
  have HS : Hid (bs (leafS 3 [74] a) = { data := #[40, 74, 74, 41, 74] }) := hid (by unfold leafS; rw [HF.out]; rw [if_pos rfl]; unfold leafT; rw [if_neg (by decide), if_neg (by omega), if_neg (by omega)]; rfl)
  have HB := hid (ext_alloc w (.cells #[.int .i64 3, .string ({ data := #[74] } : ByteArray), .int .i64 a, va, vs] 25))
  have HW := hid (isWord_any ({ data := #[74] } : ByteArray))
  rw [show isWd ({ data := #[74] } : ByteArray).data.toList = true from rfl] at HW
  rw [HS.out, HF.out]
  have n1 : ¬ a < 1 := by omega
  have n2 : ¬ 12 < a := by omega
  have n3 : (a == 12) = false := by simp; omega
  have n4 : (a == 9) = false := by simp; omega
  have n5 : (a == 10) = false := by simp; omega
  have n6 : (a == 11) = false := by simp; omega
  go_enter Tryz.func59, Tryz.ntmps59
  go_wp2_with fail
  refine (HW.out _).mono ?_
  rintro e w1 ⟨rfl, hww⟩
  obtain rfl := hww.symm
  go_wp2
  go_ret2
  exact ⟨rfl, HB.out⟩

end Go.Proofs.YtogpgfaojmmemaaGreatDoor.hands

/- Handles: the document's leafType, all of it. Condition: the kind is one of a leaf's. -/
set_option linter.unusedSimpArgs false
set_option linter.unusedVariables false
namespace Go.Proofs.YtogpgfaojmmemaaGreatDoor.hands
open Go.RowKit Go.Proofs.YtogpgfaojmmemaaGreatDoor.lib Go.Proofs.YtogpgfaojmmemaaGreatDoor.errs Go.Proofs.YtogpgfaojmmemaaGreatDoor.names Go.Proofs.YtogpgfaojmmemaaGreatDoor.descs Go.Proofs.YtogpgfaojmmemaaGreatDoor.ins

theorem rleaf_bad (k : Int) (t : ByteArray) (a : Int) (va vs : Value) (w : World) (h : isWd t.data.toList = false) :
    Calls Tryz.prog 59 #[.agg #[.int .i64 k, .string t, .int .i64 a, va, vs]] w fun e w' => e = .returned (.tuple #[.string (bs (leafS k t.data.toList a)), .int .i64 (leafF k t.data.toList a)]) ∧ Below w.heap.size w w' := by
  have HF : Hid (leafF k t.data.toList a = 1) := hid (if_pos (.inl h))
  have HS : Hid (bs (leafS k t.data.toList a) = { data := #[] }) := hid (by unfold leafS; rw [HF.out]; rfl)
  have HB := hid (ext_alloc w (.cells #[.int .i64 k, .string t, .int .i64 a, va, vs] 25))
  have HW := hid (isWord_any t)
  rw [h] at HW
  rw [HS.out, HF.out]
  clear h
  go_enter Tryz.func59, Tryz.ntmps59
  go_wp2_with fail
  refine (HW.out _).mono ?_
  rintro e w1 ⟨rfl, hww⟩
  obtain rfl := hww.symm
  go_wp2
  go_ret2
  exact ⟨rfl, HB.out⟩

theorem rleaf_any (k : Int) (t : ByteArray) (a : Int) (va vs : Value) (w : World) (hk : k = 1 ∨ k = 2 ∨ k = 3) :
    Calls Tryz.prog 59 #[.agg #[.int .i64 k, .string t, .int .i64 a, va, vs]] w fun e w' => e = .returned (.tuple #[.string (bs (leafS k t.data.toList a)), .int .i64 (leafF k t.data.toList a)]) ∧ Below w.heap.size w w' := by
  cases hw : isWd t.data.toList with
  | false => exact rleaf_bad k t a va vs w hw
  | true =>
    have h2 : t.data.toList = [73] ∨ t.data.toList = [74] := by unfold isWd at hw; simpa using hw
    rcases h2 with h2 | h2
    · obtain rfl : t = { data := #[73] } := bs_of h2
      rcases hk with rfl | rfl | rfl
      · by_cases h : -2147483648 ≤ a ∧ a ≤ 2147483647
        · exact lf1I a va vs w h
        · exact lf1O a va vs w h
      · exact lf2I a va vs w
      · by_cases c1 : a < 1
        · exact lfLoI a va vs w c1
        by_cases c2 : 12 < a
        · exact lfHiI a va vs w c2
        by_cases c3 : a = 12
        · exact lf12I a va vs w c3
        by_cases c4 : a = 9
        · exact lf9I a va vs w c4
        by_cases c5 : a = 10
        · exact lf10I a va vs w c5
        by_cases c6 : a = 11
        · exact lf11I a va vs w c6
        exact lfElI a va vs w (by omega) (by omega)
    · obtain rfl : t = { data := #[74] } := bs_of h2
      rcases hk with rfl | rfl | rfl
      · exact lf1J a va vs w
      · exact lf2J a va vs w
      · by_cases c1 : a < 1
        · exact lfLoJ a va vs w c1
        by_cases c2 : 12 < a
        · exact lfHiJ a va vs w c2
        by_cases c3 : a = 12
        · exact lf12J a va vs w c3
        by_cases c4 : a = 9
        · exact lf9J a va vs w c4
        by_cases c5 : a = 10
        · exact lf10J a va vs w c5
        by_cases c6 : a = 11
        · exact lf11J a va vs w c6
        exact lfElJ a va vs w (by omega) (by omega)
end Go.Proofs.YtogpgfaojmmemaaGreatDoor.hands
