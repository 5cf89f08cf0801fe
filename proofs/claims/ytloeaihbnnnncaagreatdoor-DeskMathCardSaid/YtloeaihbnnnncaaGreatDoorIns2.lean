/- Instructions: ins.ranged. No condition. -/
import Derived.Test.YtloeaihbnnnncaaGreatDoorIns1
namespace Go.Proofs.YtloeaihbnnnncaaGreatDoor.ins
open Go.RowKit Go.Proofs.YtloeaihbnnnncaaGreatDoor.lib Go.Proofs.YtloeaihbnnnncaaGreatDoor.errs Go.Proofs.YtloeaihbnnnncaaGreatDoor.names Go.Proofs.YtloeaihbnnnncaaGreatDoor.descs

theorem i32_in {a : Int} (h : -2147483648 ≤ a ∧ a ≤ 2147483647) : wrap64 (wrap32 a) = a := by
  unfold wrap64 wrap32; omega
theorem i32_out {a : Int} (h : ¬ (-2147483648 ≤ a ∧ a ≤ 2147483647)) : ¬ a = wrap64 (wrap32 a) := by
  unfold wrap64 wrap32; omega

set_option maxHeartbeats 1000000 in
theorem ranged2 (a b : Int) (t c n : ByteArray) (w : World) : Calls Tryz.prog 120 #[.agg #[.int .i64 2, .int .i64 a, .int .i64 b, .string t, .string c, .string n]] w fun e w' => e = .returned (.bool (rangedOk ⟨2, a, b, t, c, n⟩)) ∧ Below w.heap.size w w' := by
  have HB := hid (ext_alloc w (.cells #[.int .i64 2, .int .i64 a, .int .i64 b, .string t, .string c, .string n] 61))
  have hS : rangedOk ⟨2, a, b, t, c, n⟩ = ((t.data.toList != [73]) || decide (-2147483648 ≤ a ∧ a ≤ 2147483647)) := rfl
  by_cases h1 : t.data.toList = [73]
  · have g1 : t.toList = [73] := str_list.2 h1
    by_cases h2 : -2147483648 ≤ a ∧ a ≤ 2147483647
    · have HS : Hid (rangedOk ⟨2, a, b, t, c, n⟩ = true) := hid (by rw [hS]; simp [h2])
      have g2 := i32_in h2
      clear hS h1 h2
      go_enter Tryz.func120, Tryz.ntmps120
      go_wp2
      go_ret
      rw [HS.out]
      exact ⟨by simp, HB.out⟩
    · have HS : Hid (rangedOk ⟨2, a, b, t, c, n⟩ = false) := hid (by rw [hS, h1]; simp; omega)
      have g2 := i32_out h2
      clear hS h1 h2
      go_enter Tryz.func120, Tryz.ntmps120
      go_wp2
      go_ret
      rw [HS.out]
      exact ⟨by simp; exact g2, HB.out⟩
  · have g1 : ¬ t.toList = [73] := fun h => h1 (str_list.1 h)
    have HS : Hid (rangedOk ⟨2, a, b, t, c, n⟩ = true) := hid (by rw [hS]; simp [h1])
    clear hS h1
    go_enter Tryz.func120, Tryz.ntmps120
    go_wp2
    go_ret
    rw [HS.out]
    exact ⟨by simp, HB.out⟩

set_option maxHeartbeats 1000000 in
theorem ranged4 (a b : Int) (t c n : ByteArray) (w : World) : Calls Tryz.prog 120 #[.agg #[.int .i64 4, .int .i64 a, .int .i64 b, .string t, .string c, .string n]] w fun e w' => e = .returned (.bool (rangedOk ⟨4, a, b, t, c, n⟩)) ∧ Below w.heap.size w w' := by
  have HB := hid (ext_alloc w (.cells #[.int .i64 4, .int .i64 a, .int .i64 b, .string t, .string c, .string n] 61))
  have hS : rangedOk ⟨4, a, b, t, c, n⟩ = decide (0 ≤ a ∧ a < 8) := rfl
  by_cases h1 : 0 ≤ a
  · have HS : Hid (rangedOk ⟨4, a, b, t, c, n⟩ = decide (a < 8)) := hid (by rw [hS]; simp [h1])
    clear hS
    go_enter Tryz.func120, Tryz.ntmps120
    go_wp2
    go_ret
    rw [HS.out]
    exact ⟨rfl, HB.out⟩
  · have HS : Hid (rangedOk ⟨4, a, b, t, c, n⟩ = false) := hid (by rw [hS]; simp [h1])
    clear hS
    go_enter Tryz.func120, Tryz.ntmps120
    go_wp2
    go_ret
    rw [HS.out]
    exact ⟨rfl, HB.out⟩

set_option maxHeartbeats 1000000 in
theorem ranged5 (a b : Int) (t c n : ByteArray) (w : World) : Calls Tryz.prog 120 #[.agg #[.int .i64 5, .int .i64 a, .int .i64 b, .string t, .string c, .string n]] w fun e w' => e = .returned (.bool (rangedOk ⟨5, a, b, t, c, n⟩)) ∧ Below w.heap.size w w' := by
  have HB := hid (ext_alloc w (.cells #[.int .i64 5, .int .i64 a, .int .i64 b, .string t, .string c, .string n] 61))
  have hS : rangedOk ⟨5, a, b, t, c, n⟩ = decide (0 ≤ a ∧ a < 8) := rfl
  by_cases h1 : 0 ≤ a
  · have HS : Hid (rangedOk ⟨5, a, b, t, c, n⟩ = decide (a < 8)) := hid (by rw [hS]; simp [h1])
    clear hS
    go_enter Tryz.func120, Tryz.ntmps120
    go_wp2
    go_ret
    rw [HS.out]
    exact ⟨rfl, HB.out⟩
  · have HS : Hid (rangedOk ⟨5, a, b, t, c, n⟩ = false) := hid (by rw [hS]; simp [h1])
    clear hS
    go_enter Tryz.func120, Tryz.ntmps120
    go_wp2
    go_ret
    rw [HS.out]
    exact ⟨rfl, HB.out⟩

set_option maxHeartbeats 1000000 in
theorem ranged9 (a b : Int) (t c n : ByteArray) (w : World) : Calls Tryz.prog 120 #[.agg #[.int .i64 9, .int .i64 a, .int .i64 b, .string t, .string c, .string n]] w fun e w' => e = .returned (.bool (rangedOk ⟨9, a, b, t, c, n⟩)) ∧ Below w.heap.size w w' := by
  have HB := hid (ext_alloc w (.cells #[.int .i64 9, .int .i64 a, .int .i64 b, .string t, .string c, .string n] 61))
  have hS : rangedOk ⟨9, a, b, t, c, n⟩ = decide (1 ≤ a ∧ a ≤ 12) := rfl
  by_cases h1 : 1 ≤ a
  · have HS : Hid (rangedOk ⟨9, a, b, t, c, n⟩ = decide (a ≤ 12)) := hid (by rw [hS]; simp [h1])
    clear hS
    go_enter Tryz.func120, Tryz.ntmps120
    go_wp2
    go_ret
    rw [HS.out]
    exact ⟨rfl, HB.out⟩
  · have HS : Hid (rangedOk ⟨9, a, b, t, c, n⟩ = false) := hid (by rw [hS]; simp [h1])
    clear hS
    go_enter Tryz.func120, Tryz.ntmps120
    go_wp2
    go_ret
    rw [HS.out]
    exact ⟨rfl, HB.out⟩

set_option maxHeartbeats 1000000 in
theorem rangedJ (op a b : Int) (t c n : ByteArray) (w : World) (hJ : jumpsOp op = true) : Calls Tryz.prog 120 #[.agg #[.int .i64 op, .int .i64 a, .int .i64 b, .string t, .string c, .string n]] w fun e w' => e = .returned (.bool (rangedOk ⟨op, a, b, t, c, n⟩)) ∧ Below w.heap.size w w' := by
  have HB := hid (ext_alloc w (.cells #[.int .i64 op, .int .i64 a, .int .i64 b, .string t, .string c, .string n] 61))
  have ho : op = 12 ∨ op = 13 ∨ op = 14 := by simpa [jumpsOp, or_assoc] using hJ
  have k2 : (op == 2) = false := by simp; omega
  have k4 : (op == 4) = false := by simp; omega
  have k5 : (op == 5) = false := by simp; omega
  have k9 : (op == 9) = false := by simp; omega
  have hS : rangedOk ⟨op, a, b, t, c, n⟩ = decide (0 ≤ a ∧ a ≤ 40 ∧ 0 ≤ b ∧ b ≤ 5) := by
    unfold rangedOk
    simp only
    rw [if_neg (by omega), if_neg (by omega), if_neg (by omega), if_pos hJ]
  have HJ := hid hJ
  clear hJ ho
  by_cases h1 : 0 ≤ a
  · by_cases h2 : a ≤ 40
    · by_cases h3 : 0 ≤ b
      · have HS : Hid (rangedOk ⟨op, a, b, t, c, n⟩ = decide (b ≤ 5)) := hid (by rw [hS]; simp [h1, h2, h3])
        clear hS
        go_enter Tryz.func120, Tryz.ntmps120
        go_wp2_with fail
        refine (jumps_any op _).mono ?_
        rintro e w1 ⟨rfl, rfl⟩
        rw [HJ.out]
        go_wp2
        go_ret
        rw [HS.out]
        exact ⟨rfl, HB.out⟩
      · have HS : Hid (rangedOk ⟨op, a, b, t, c, n⟩ = false) := hid (by rw [hS]; simp [h3])
        clear hS
        go_enter Tryz.func120, Tryz.ntmps120
        go_wp2_with fail
        refine (jumps_any op _).mono ?_
        rintro e w1 ⟨rfl, rfl⟩
        rw [HJ.out]
        go_wp2
        go_ret
        rw [HS.out]
        exact ⟨rfl, HB.out⟩
    · have HS : Hid (rangedOk ⟨op, a, b, t, c, n⟩ = false) := hid (by rw [hS]; simp [h2])
      clear hS
      go_enter Tryz.func120, Tryz.ntmps120
      go_wp2_with fail
      refine (jumps_any op _).mono ?_
      rintro e w1 ⟨rfl, rfl⟩
      rw [HJ.out]
      go_wp2
      go_ret
      rw [HS.out]
      exact ⟨rfl, HB.out⟩
  · have HS : Hid (rangedOk ⟨op, a, b, t, c, n⟩ = false) := hid (by rw [hS]; simp [h1])
    clear hS
    go_enter Tryz.func120, Tryz.ntmps120
    go_wp2_with fail
    refine (jumps_any op _).mono ?_
    rintro e w1 ⟨rfl, rfl⟩
    rw [HJ.out]
    go_wp2
    go_ret
    rw [HS.out]
    exact ⟨rfl, HB.out⟩

set_option maxHeartbeats 1000000 in
theorem rangedX (op a b : Int) (t c n : ByteArray) (w : World) (hJ : jumpsOp op = false) (h2 : op ≠ 2) (h4 : op ≠ 4) (h5 : op ≠ 5) (h9 : op ≠ 9) : Calls Tryz.prog 120 #[.agg #[.int .i64 op, .int .i64 a, .int .i64 b, .string t, .string c, .string n]] w fun e w' => e = .returned (.bool (rangedOk ⟨op, a, b, t, c, n⟩)) ∧ Below w.heap.size w w' := by
  have HB := hid (ext_alloc w (.cells #[.int .i64 op, .int .i64 a, .int .i64 b, .string t, .string c, .string n] 61))
  have k2 : (op == 2) = false := by simp [h2]
  have k4 : (op == 4) = false := by simp [h4]
  have k5 : (op == 5) = false := by simp [h5]
  have k9 : (op == 9) = false := by simp [h9]
  have HS : Hid (rangedOk ⟨op, a, b, t, c, n⟩ = true) := hid (by
    unfold rangedOk
    simp only
    rw [if_neg h2, if_neg (by omega), if_neg h9, if_neg (by rw [hJ]; decide)])
  have HJ := hid hJ
  clear hJ
  go_enter Tryz.func120, Tryz.ntmps120
  go_wp2_with fail
  refine (jumps_any op _).mono ?_
  rintro e w1 ⟨rfl, rfl⟩
  rw [HJ.out]
  go_wp2
  go_ret
  rw [HS.out]
  exact ⟨rfl, HB.out⟩

theorem ranged_any (op a b : Int) (t c n : ByteArray) (w : World) : Calls Tryz.prog 120 #[.agg #[.int .i64 op, .int .i64 a, .int .i64 b, .string t, .string c, .string n]] w fun e w' => e = .returned (.bool (rangedOk ⟨op, a, b, t, c, n⟩)) ∧ Below w.heap.size w w' := by
  by_cases h2 : op = 2
  · subst h2; exact ranged2 a b t c n w
  by_cases h4 : op = 4
  · subst h4; exact ranged4 a b t c n w
  by_cases h5 : op = 5
  · subst h5; exact ranged5 a b t c n w
  by_cases h9 : op = 9
  · subst h9; exact ranged9 a b t c n w
  cases hJ : jumpsOp op with
  | true => exact rangedJ op a b t c n w hJ
  | false => exact rangedX op a b t c n w hJ h2 h4 h5 h9

end Go.Proofs.YtloeaihbnnnncaaGreatDoor.ins
