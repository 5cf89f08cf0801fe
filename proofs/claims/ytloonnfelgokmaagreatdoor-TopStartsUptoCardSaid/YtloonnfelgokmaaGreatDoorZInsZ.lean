/- Instructions: what they are, and what is wrong with one; ins.Jumps, flow.Ends and the reference's. No condition. -/
import Derived.Test.YtloonnfelgokmaaGreatDoorZDescZ
set_option maxRecDepth 100000
set_option maxHeartbeats 16000000
set_option linter.unusedSimpArgs false
set_option linter.unusedVariables false
namespace Go.Proofs.YtloonnfelgokmaaGreatDoor.ins
open Go.RowKit lib errs names descs
structure I where
 op : Int
 a : Int
 b : Int
 t : ByteArray
 c : ByteArray
 n : ByteArray
def I.cells (x : I) : List Value := [.int .i64 x.op, .int .i64 x.a, .int .i64 x.b, .string x.t, .string x.c, .string x.n]
def jumpsOp (op : Int) : Bool := op == 12 || op == 13 || op == 14
def endsOp (op : Int) : Bool := op == 14 || op == 26 || op == 27 || op == 28
def isIn (op : Int) (l : List Int) : Bool := l.contains op
def needA (op : Int) : Bool := isIn op [2, 4, 5, 9, 12, 13, 14]
def needB (op : Int) : Bool := isIn op [12]
def needT (op : Int) : Bool := isIn op [2, 9, 10, 18, 20, 21, 22, 23, 24, 25]
def needC (op : Int) : Bool := isIn op [15, 16, 17, 24, 25]
def needN (op : Int) : Bool := isIn op [16, 17, 24, 25]
def rangedOk (x : I) : Bool :=
 if x.op = 2 then (x.t.data.toList != [73]) || decide (-2147483648 ≤ x.a ∧ x.a ≤ 2147483647)
 else if x.op = 4 ∨ x.op = 5 then decide (0 ≤ x.a ∧ x.a < 8)
 else if x.op = 9 then decide (1 ≤ x.a ∧ x.a ≤ 12)
 else if jumpsOp x.op = true then decide (0 ≤ x.a ∧ x.a ≤ 40 ∧ 0 ≤ x.b ∧ x.b ≤ 5)
 else true
def typedOk (x : I) : Bool :=
 if isIn x.op [2, 9, 10] = true then isWd x.t.data.toList
 else if isIn x.op [18, 20, 21] = true then isTy x.t.data.toList && isTy (91 :: x.t.data.toList)
 else if isIn x.op [22, 23] = true then isTy x.t.data.toList && !isWd x.t.data.toList
 else if isIn x.op [24, 25] = true then (methodOf x.t.data.toList).isSome
 else true
def bareOk (x : I) : Bool :=
 (needA x.op || x.a == 0) && (needB x.op || x.b == 0) && (needT x.op || x.t.data.toList == []) && (needC x.op || x.c.data.toList == []) && (needN x.op || x.n.data.toList == [])
def insFault (x : I) : Int :=
 if x.op < 1 ∨ 28 < x.op then 1
 else if bareOk x = false then 1
 else if rangedOk x = false then 2
 else if typedOk x = false ∨ (needC x.op = true ∧ nameOk x.c.data.toList = false) ∨ (needN x.op = true ∧ nameOk x.n.data.toList = false) then 1
 else 0
theorem jumps_any (op : Int) (w : World) : Calls Tryz.prog 61 #[.int .i64 op] w fun e w' => e = .returned (.bool (jumpsOp op)) ∧ w = w' := by
 go_enter Tryz.func61, Tryz.ntmps61
 go_wp2
 all_goals go_ret
 all_goals exact ⟨by first | rfl | simp_all [jumpsOp], rfl⟩
theorem i32_in {a : Int} (h : -2147483648 ≤ a ∧ a ≤ 2147483647) : wrap64 (wrap32 a) = a := by
 unfold wrap64 wrap32; omega
theorem i32_out {a : Int} (h : ¬ (-2147483648 ≤ a ∧ a ≤ 2147483647)) : ¬ a = wrap64 (wrap32 a) := by
 unfold wrap64 wrap32; omega
theorem ranged2 (a b : Int) (t c n : ByteArray) (w : World) : Calls Tryz.prog 114 #[.agg #[.int .i64 2, .int .i64 a, .int .i64 b, .string t, .string c, .string n]] w fun e w' => e = .returned (.bool (rangedOk ⟨2, a, b, t, c, n⟩)) ∧ Below w.heap.size w w' := by
 have HB := hid (ext_alloc w (.cells #[.int .i64 2, .int .i64 a, .int .i64 b, .string t, .string c, .string n] 56))
 have hS : rangedOk ⟨2, a, b, t, c, n⟩ = ((t.data.toList != [73]) || decide (-2147483648 ≤ a ∧ a ≤ 2147483647)) := rfl
 by_cases h1 : t.data.toList = [73]
 ·have g1 : t.toList = [73] := str_list.2 h1
  by_cases h2 : -2147483648 ≤ a ∧ a ≤ 2147483647
  ·have HS : Hid (rangedOk ⟨2, a, b, t, c, n⟩ = true) := hid (by rw [hS]; simp [h2])
   have g2 := i32_in h2
   clear hS h1 h2
   go_enter Tryz.func114, Tryz.ntmps114
   go_wp2
   go_ret
   rw [HS.out]
   exact ⟨by simp, HB.out⟩
  ·have HS : Hid (rangedOk ⟨2, a, b, t, c, n⟩ = false) := hid (by rw [hS, h1]; simp; omega)
   have g2 := i32_out h2
   clear hS h1 h2
   go_enter Tryz.func114, Tryz.ntmps114
   go_wp2
   go_ret
   rw [HS.out]
   exact ⟨by simp; exact g2, HB.out⟩
 ·have g1 : ¬ t.toList = [73] := fun h => h1 (str_list.1 h)
  have HS : Hid (rangedOk ⟨2, a, b, t, c, n⟩ = true) := hid (by rw [hS]; simp [h1])
  clear hS h1
  go_enter Tryz.func114, Tryz.ntmps114
  go_wp2
  go_ret
  rw [HS.out]
  exact ⟨by simp, HB.out⟩
theorem ranged4 (a b : Int) (t c n : ByteArray) (w : World) : Calls Tryz.prog 114 #[.agg #[.int .i64 4, .int .i64 a, .int .i64 b, .string t, .string c, .string n]] w fun e w' => e = .returned (.bool (rangedOk ⟨4, a, b, t, c, n⟩)) ∧ Below w.heap.size w w' := by
 have HB := hid (ext_alloc w (.cells #[.int .i64 4, .int .i64 a, .int .i64 b, .string t, .string c, .string n] 56))
 have hS : rangedOk ⟨4, a, b, t, c, n⟩ = decide (0 ≤ a ∧ a < 8) := rfl
 by_cases h1 : 0 ≤ a
 ·have HS : Hid (rangedOk ⟨4, a, b, t, c, n⟩ = decide (a < 8)) := hid (by rw [hS]; simp [h1])
  clear hS
  go_enter Tryz.func114, Tryz.ntmps114
  go_wp2
  go_ret
  rw [HS.out]
  exact ⟨rfl, HB.out⟩
 ·have HS : Hid (rangedOk ⟨4, a, b, t, c, n⟩ = false) := hid (by rw [hS]; simp [h1])
  clear hS
  go_enter Tryz.func114, Tryz.ntmps114
  go_wp2
  go_ret
  rw [HS.out]
  exact ⟨rfl, HB.out⟩
theorem ranged5 (a b : Int) (t c n : ByteArray) (w : World) : Calls Tryz.prog 114 #[.agg #[.int .i64 5, .int .i64 a, .int .i64 b, .string t, .string c, .string n]] w fun e w' => e = .returned (.bool (rangedOk ⟨5, a, b, t, c, n⟩)) ∧ Below w.heap.size w w' := by
 have HB := hid (ext_alloc w (.cells #[.int .i64 5, .int .i64 a, .int .i64 b, .string t, .string c, .string n] 56))
 have hS : rangedOk ⟨5, a, b, t, c, n⟩ = decide (0 ≤ a ∧ a < 8) := rfl
 by_cases h1 : 0 ≤ a
 ·have HS : Hid (rangedOk ⟨5, a, b, t, c, n⟩ = decide (a < 8)) := hid (by rw [hS]; simp [h1])
  clear hS
  go_enter Tryz.func114, Tryz.ntmps114
  go_wp2
  go_ret
  rw [HS.out]
  exact ⟨rfl, HB.out⟩
 ·have HS : Hid (rangedOk ⟨5, a, b, t, c, n⟩ = false) := hid (by rw [hS]; simp [h1])
  clear hS
  go_enter Tryz.func114, Tryz.ntmps114
  go_wp2
  go_ret
  rw [HS.out]
  exact ⟨rfl, HB.out⟩
theorem ranged9 (a b : Int) (t c n : ByteArray) (w : World) : Calls Tryz.prog 114 #[.agg #[.int .i64 9, .int .i64 a, .int .i64 b, .string t, .string c, .string n]] w fun e w' => e = .returned (.bool (rangedOk ⟨9, a, b, t, c, n⟩)) ∧ Below w.heap.size w w' := by
 have HB := hid (ext_alloc w (.cells #[.int .i64 9, .int .i64 a, .int .i64 b, .string t, .string c, .string n] 56))
 have hS : rangedOk ⟨9, a, b, t, c, n⟩ = decide (1 ≤ a ∧ a ≤ 12) := rfl
 by_cases h1 : 1 ≤ a
 ·have HS : Hid (rangedOk ⟨9, a, b, t, c, n⟩ = decide (a ≤ 12)) := hid (by rw [hS]; simp [h1])
  clear hS
  go_enter Tryz.func114, Tryz.ntmps114
  go_wp2
  go_ret
  rw [HS.out]
  exact ⟨rfl, HB.out⟩
 ·have HS : Hid (rangedOk ⟨9, a, b, t, c, n⟩ = false) := hid (by rw [hS]; simp [h1])
  clear hS
  go_enter Tryz.func114, Tryz.ntmps114
  go_wp2
  go_ret
  rw [HS.out]
  exact ⟨rfl, HB.out⟩
theorem rangedJ (op a b : Int) (t c n : ByteArray) (w : World) (hJ : jumpsOp op = true) : Calls Tryz.prog 114 #[.agg #[.int .i64 op, .int .i64 a, .int .i64 b, .string t, .string c, .string n]] w fun e w' => e = .returned (.bool (rangedOk ⟨op, a, b, t, c, n⟩)) ∧ Below w.heap.size w w' := by
 have HB := hid (ext_alloc w (.cells #[.int .i64 op, .int .i64 a, .int .i64 b, .string t, .string c, .string n] 56))
 have ho : op = 12 ∨ op = 13 ∨ op = 14 := by simpa [jumpsOp, or_assoc] using hJ
 have k2 : (op == 2) = false := by simp; omega
 have k4 : (op == 4) = false := by simp; omega
 have k5 : (op == 5) = false := by simp; omega
 have k9 : (op == 9) = false := by simp; omega
 have hS : rangedOk ⟨op, a, b, t, c, n⟩ = decide (0 ≤ a ∧ a ≤ 40 ∧ 0 ≤ b ∧ b ≤ 5) := by
  unfold rangedOk
  simp only
  rw [if_neg (by omega), if_neg (by omega), if_neg (by omega), if_pos hJ]
 have HJ := hid hJ
 clear hJ ho
 by_cases h1 : 0 ≤ a
 ·by_cases h2 : a ≤ 40
  ·by_cases h3 : 0 ≤ b
   ·have HS : Hid (rangedOk ⟨op, a, b, t, c, n⟩ = decide (b ≤ 5)) := hid (by rw [hS]; simp [h1, h2, h3])
    clear hS
    go_enter Tryz.func114, Tryz.ntmps114
    go_wp2_with fail
    refine (jumps_any op _).mono ?_
    rintro e w1 ⟨rfl, rfl⟩
    rw [HJ.out]
    go_wp2
    go_ret
    rw [HS.out]
    exact ⟨rfl, HB.out⟩
   ·have HS : Hid (rangedOk ⟨op, a, b, t, c, n⟩ = false) := hid (by rw [hS]; simp [h3])
    clear hS
    go_enter Tryz.func114, Tryz.ntmps114
    go_wp2_with fail
    refine (jumps_any op _).mono ?_
    rintro e w1 ⟨rfl, rfl⟩
    rw [HJ.out]
    go_wp2
    go_ret
    rw [HS.out]
    exact ⟨rfl, HB.out⟩
  ·have HS : Hid (rangedOk ⟨op, a, b, t, c, n⟩ = false) := hid (by rw [hS]; simp [h2])
   clear hS
   go_enter Tryz.func114, Tryz.ntmps114
   go_wp2_with fail
   refine (jumps_any op _).mono ?_
   rintro e w1 ⟨rfl, rfl⟩
   rw [HJ.out]
   go_wp2
   go_ret
   rw [HS.out]
   exact ⟨rfl, HB.out⟩
 ·have HS : Hid (rangedOk ⟨op, a, b, t, c, n⟩ = false) := hid (by rw [hS]; simp [h1])
  clear hS
  go_enter Tryz.func114, Tryz.ntmps114
  go_wp2_with fail
  refine (jumps_any op _).mono ?_
  rintro e w1 ⟨rfl, rfl⟩
  rw [HJ.out]
  go_wp2
  go_ret
  rw [HS.out]
  exact ⟨rfl, HB.out⟩
theorem rangedX (op a b : Int) (t c n : ByteArray) (w : World) (hJ : jumpsOp op = false) (h2 : op ≠ 2) (h4 : op ≠ 4) (h5 : op ≠ 5) (h9 : op ≠ 9) : Calls Tryz.prog 114 #[.agg #[.int .i64 op, .int .i64 a, .int .i64 b, .string t, .string c, .string n]] w fun e w' => e = .returned (.bool (rangedOk ⟨op, a, b, t, c, n⟩)) ∧ Below w.heap.size w w' := by
 have HB := hid (ext_alloc w (.cells #[.int .i64 op, .int .i64 a, .int .i64 b, .string t, .string c, .string n] 56))
 have k2 : (op == 2) = false := by simp [h2]
 have k4 : (op == 4) = false := by simp [h4]
 have k5 : (op == 5) = false := by simp [h5]
 have k9 : (op == 9) = false := by simp [h9]
 have HS : Hid (rangedOk ⟨op, a, b, t, c, n⟩ = true) := hid (by
  unfold rangedOk
  simp only
  rw [if_neg h2, if_neg (by omega), if_neg h9, if_neg (by rw [hJ]; decide)])
 have HJ := hid hJ
 clear hJ
 go_enter Tryz.func114, Tryz.ntmps114
 go_wp2_with fail
 refine (jumps_any op _).mono ?_
 rintro e w1 ⟨rfl, rfl⟩
 rw [HJ.out]
 go_wp2
 go_ret
 rw [HS.out]
 exact ⟨rfl, HB.out⟩
theorem ranged_any (op a b : Int) (t c n : ByteArray) (w : World) : Calls Tryz.prog 114 #[.agg #[.int .i64 op, .int .i64 a, .int .i64 b, .string t, .string c, .string n]] w fun e w' => e = .returned (.bool (rangedOk ⟨op, a, b, t, c, n⟩)) ∧ Below w.heap.size w w' := by
 by_cases h2 : op = 2
 ·subst h2; exact ranged2 a b t c n w
 by_cases h4 : op = 4
 ·subst h4; exact ranged4 a b t c n w
 by_cases h5 : op = 5
 ·subst h5; exact ranged5 a b t c n w
 by_cases h9 : op = 9
 ·subst h9; exact ranged9 a b t c n w
 cases hJ : jumpsOp op with
 | true => exact rangedJ op a b t c n w hJ
 | false => exact rangedX op a b t c n w hJ h2 h4 h5 h9
theorem bracket (t : ByteArray) : (({ data := #[91] } : ByteArray) ++ t).data.toList = 91 :: t.data.toList := by rw [ByteArray.data_append, Array.toList_append]; rfl
theorem bracket_size (t : ByteArray) : (({ data := #[91] } : ByteArray) ++ t).size = t.size + 1 := by rw [ByteArray.size_append]; show 1 + t.size = _; omega
theorem isTy_size {t : ByteArray} (h : isTy t.data.toList = true) : t.size ≤ 25 := by have := (ty_append h []).2.1; rw [size_len] at this; exact this
theorem typed2 (a b : Int) (t c n : ByteArray) (w : World) (ht : t.size ≤ 9223372036854775807) : Calls Tryz.prog 115 #[.agg #[.int .i64 2, .int .i64 a, .int .i64 b, .string t, .string c, .string n]] w fun e w' => e = .returned (.bool (typedOk ⟨2, a, b, t, c, n⟩)) ∧ Below w.heap.size w w' := by
 have HB := hid (ext_alloc w (.cells #[.int .i64 2, .int .i64 a, .int .i64 b, .string t, .string c, .string n] 56))
 have _ := ht
 have HS : Hid (typedOk ⟨2, a, b, t, c, n⟩ = isWd t.data.toList) := hid rfl
 go_enter Tryz.func115, Tryz.ntmps115
 go_wp2_with fail
 refine (number_any t _).mono ?_
 rintro e w1 ⟨rfl, rfl⟩
 rw [← HS.out]
 go_wp2
 go_ret
 exact ⟨rfl, HB.out⟩
theorem typed9 (a b : Int) (t c n : ByteArray) (w : World) (ht : t.size ≤ 9223372036854775807) : Calls Tryz.prog 115 #[.agg #[.int .i64 9, .int .i64 a, .int .i64 b, .string t, .string c, .string n]] w fun e w' => e = .returned (.bool (typedOk ⟨9, a, b, t, c, n⟩)) ∧ Below w.heap.size w w' := by
 have HB := hid (ext_alloc w (.cells #[.int .i64 9, .int .i64 a, .int .i64 b, .string t, .string c, .string n] 56))
 have _ := ht
 have HS : Hid (typedOk ⟨9, a, b, t, c, n⟩ = isWd t.data.toList) := hid rfl
 go_enter Tryz.func115, Tryz.ntmps115
 go_wp2_with fail
 refine (number_any t _).mono ?_
 rintro e w1 ⟨rfl, rfl⟩
 rw [← HS.out]
 go_wp2
 go_ret
 exact ⟨rfl, HB.out⟩
theorem typed10 (a b : Int) (t c n : ByteArray) (w : World) (ht : t.size ≤ 9223372036854775807) : Calls Tryz.prog 115 #[.agg #[.int .i64 10, .int .i64 a, .int .i64 b, .string t, .string c, .string n]] w fun e w' => e = .returned (.bool (typedOk ⟨10, a, b, t, c, n⟩)) ∧ Below w.heap.size w w' := by
 have HB := hid (ext_alloc w (.cells #[.int .i64 10, .int .i64 a, .int .i64 b, .string t, .string c, .string n] 56))
 have _ := ht
 have HS : Hid (typedOk ⟨10, a, b, t, c, n⟩ = isWd t.data.toList) := hid rfl
 go_enter Tryz.func115, Tryz.ntmps115
 go_wp2_with fail
 refine (number_any t _).mono ?_
 rintro e w1 ⟨rfl, rfl⟩
 rw [← HS.out]
 go_wp2
 go_ret
 exact ⟨rfl, HB.out⟩
theorem typed18 (a b : Int) (t c n : ByteArray) (w : World) (ht : t.size ≤ 9223372036854775807) : Calls Tryz.prog 115 #[.agg #[.int .i64 18, .int .i64 a, .int .i64 b, .string t, .string c, .string n]] w fun e w' => e = .returned (.bool (typedOk ⟨18, a, b, t, c, n⟩)) ∧ Below w.heap.size w w' := by
 have HB := hid (ext_alloc w (.cells #[.int .i64 18, .int .i64 a, .int .i64 b, .string t, .string c, .string n] 56))
 have hS : typedOk ⟨18, a, b, t, c, n⟩ = (isTy t.data.toList && isTy (91 :: t.data.toList)) := rfl
 cases hT : isTy t.data.toList with
 | false =>
  have HS : Hid (typedOk ⟨18, a, b, t, c, n⟩ = false) := hid (by rw [hS, hT]; rfl)
  have HT := hid hT
  clear hT hS
  go_enter Tryz.func115, Tryz.ntmps115
  go_wp2_with fail
  refine (tcheck_any t _ ht).mono ?_
  intro e w1 h1
  obtain ⟨rfl, hb1⟩ := checked_false h1 HT.out
  clear h1
  go_wp2
  go_ret
  rw [HS.out]
  exact ⟨rfl, HB.out.trans (hb1.mono HB.out.size)⟩
 | true =>
  have HT := hid hT
  have hsz := isTy_size hT
  have hl : (({ data := #[91] } : ByteArray) ++ t).size ≤ 9223372036854775807 := by rw [bracket_size]; omega
  have HC := hid (fun w => tcheck_any (({ data := #[91] } : ByteArray) ++ t) w hl)
  cases hU : isTy (91 :: t.data.toList) with
  | false =>
   have HS : Hid (typedOk ⟨18, a, b, t, c, n⟩ = false) := hid (by rw [hS, hT, hU]; rfl)
   have HU : Hid (isTy (({ data := #[91] } : ByteArray) ++ t).data.toList = false) := hid (by rw [bracket]; exact hU)
   clear hT hS hU hl
   go_enter Tryz.func115, Tryz.ntmps115
   go_wp2_with fail
   refine (tcheck_any t _ ht).mono ?_
   intro e w1 h1
   obtain ⟨rfl, hb1⟩ := checked_true h1 HT.out
   clear h1
   have HB1 := hid (HB.out.trans (hb1.mono HB.out.size))
   have hc3 : w1.cell? ⟨w.heap.size, 3, none⟩ = some (.string t) := by rw [hb1.cell (by simp)]; rw [World.cell?_alloc_at _ _ _ _ rfl]; rfl
   go_wp2_with fail
   refine (HC.out _).mono ?_
   intro e w2 h2
   obtain ⟨rfl, hb2⟩ := checked_false h2 HU.out
   clear h2
   go_wp2
   go_ret
   rw [HS.out]
   exact ⟨rfl, HB1.out.trans (hb2.mono HB1.out.size)⟩
  | true =>
   have HS : Hid (typedOk ⟨18, a, b, t, c, n⟩ = true) := hid (by rw [hS, hT, hU]; rfl)
   have HU : Hid (isTy (({ data := #[91] } : ByteArray) ++ t).data.toList = true) := hid (by rw [bracket]; exact hU)
   clear hT hS hU hl
   go_enter Tryz.func115, Tryz.ntmps115
   go_wp2_with fail
   refine (tcheck_any t _ ht).mono ?_
   intro e w1 h1
   obtain ⟨rfl, hb1⟩ := checked_true h1 HT.out
   clear h1
   have HB1 := hid (HB.out.trans (hb1.mono HB.out.size))
   have hc3 : w1.cell? ⟨w.heap.size, 3, none⟩ = some (.string t) := by rw [hb1.cell (by simp)]; rw [World.cell?_alloc_at _ _ _ _ rfl]; rfl
   go_wp2_with fail
   refine (HC.out _).mono ?_
   intro e w2 h2
   obtain ⟨rfl, hb2⟩ := checked_true h2 HU.out
   clear h2
   go_wp2
   go_ret
   rw [HS.out]
   exact ⟨rfl, HB1.out.trans (hb2.mono HB1.out.size)⟩
theorem typed20 (a b : Int) (t c n : ByteArray) (w : World) (ht : t.size ≤ 9223372036854775807) : Calls Tryz.prog 115 #[.agg #[.int .i64 20, .int .i64 a, .int .i64 b, .string t, .string c, .string n]] w fun e w' => e = .returned (.bool (typedOk ⟨20, a, b, t, c, n⟩)) ∧ Below w.heap.size w w' := by
 have HB := hid (ext_alloc w (.cells #[.int .i64 20, .int .i64 a, .int .i64 b, .string t, .string c, .string n] 56))
 have hS : typedOk ⟨20, a, b, t, c, n⟩ = (isTy t.data.toList && isTy (91 :: t.data.toList)) := rfl
 cases hT : isTy t.data.toList with
 | false =>
  have HS : Hid (typedOk ⟨20, a, b, t, c, n⟩ = false) := hid (by rw [hS, hT]; rfl)
  have HT := hid hT
  clear hT hS
  go_enter Tryz.func115, Tryz.ntmps115
  go_wp2_with fail
  refine (tcheck_any t _ ht).mono ?_
  intro e w1 h1
  obtain ⟨rfl, hb1⟩ := checked_false h1 HT.out
  clear h1
  go_wp2
  go_ret
  rw [HS.out]
  exact ⟨rfl, HB.out.trans (hb1.mono HB.out.size)⟩
 | true =>
  have HT := hid hT
  have hsz := isTy_size hT
  have hl : (({ data := #[91] } : ByteArray) ++ t).size ≤ 9223372036854775807 := by rw [bracket_size]; omega
  have HC := hid (fun w => tcheck_any (({ data := #[91] } : ByteArray) ++ t) w hl)
  cases hU : isTy (91 :: t.data.toList) with
  | false =>
   have HS : Hid (typedOk ⟨20, a, b, t, c, n⟩ = false) := hid (by rw [hS, hT, hU]; rfl)
   have HU : Hid (isTy (({ data := #[91] } : ByteArray) ++ t).data.toList = false) := hid (by rw [bracket]; exact hU)
   clear hT hS hU hl
   go_enter Tryz.func115, Tryz.ntmps115
   go_wp2_with fail
   refine (tcheck_any t _ ht).mono ?_
   intro e w1 h1
   obtain ⟨rfl, hb1⟩ := checked_true h1 HT.out
   clear h1
   have HB1 := hid (HB.out.trans (hb1.mono HB.out.size))
   have hc3 : w1.cell? ⟨w.heap.size, 3, none⟩ = some (.string t) := by rw [hb1.cell (by simp)]; rw [World.cell?_alloc_at _ _ _ _ rfl]; rfl
   go_wp2_with fail
   refine (HC.out _).mono ?_
   intro e w2 h2
   obtain ⟨rfl, hb2⟩ := checked_false h2 HU.out
   clear h2
   go_wp2
   go_ret
   rw [HS.out]
   exact ⟨rfl, HB1.out.trans (hb2.mono HB1.out.size)⟩
  | true =>
   have HS : Hid (typedOk ⟨20, a, b, t, c, n⟩ = true) := hid (by rw [hS, hT, hU]; rfl)
   have HU : Hid (isTy (({ data := #[91] } : ByteArray) ++ t).data.toList = true) := hid (by rw [bracket]; exact hU)
   clear hT hS hU hl
   go_enter Tryz.func115, Tryz.ntmps115
   go_wp2_with fail
   refine (tcheck_any t _ ht).mono ?_
   intro e w1 h1
   obtain ⟨rfl, hb1⟩ := checked_true h1 HT.out
   clear h1
   have HB1 := hid (HB.out.trans (hb1.mono HB.out.size))
   have hc3 : w1.cell? ⟨w.heap.size, 3, none⟩ = some (.string t) := by rw [hb1.cell (by simp)]; rw [World.cell?_alloc_at _ _ _ _ rfl]; rfl
   go_wp2_with fail
   refine (HC.out _).mono ?_
   intro e w2 h2
   obtain ⟨rfl, hb2⟩ := checked_true h2 HU.out
   clear h2
   go_wp2
   go_ret
   rw [HS.out]
   exact ⟨rfl, HB1.out.trans (hb2.mono HB1.out.size)⟩
theorem typed21 (a b : Int) (t c n : ByteArray) (w : World) (ht : t.size ≤ 9223372036854775807) : Calls Tryz.prog 115 #[.agg #[.int .i64 21, .int .i64 a, .int .i64 b, .string t, .string c, .string n]] w fun e w' => e = .returned (.bool (typedOk ⟨21, a, b, t, c, n⟩)) ∧ Below w.heap.size w w' := by
 have HB := hid (ext_alloc w (.cells #[.int .i64 21, .int .i64 a, .int .i64 b, .string t, .string c, .string n] 56))
 have hS : typedOk ⟨21, a, b, t, c, n⟩ = (isTy t.data.toList && isTy (91 :: t.data.toList)) := rfl
 cases hT : isTy t.data.toList with
 | false =>
  have HS : Hid (typedOk ⟨21, a, b, t, c, n⟩ = false) := hid (by rw [hS, hT]; rfl)
  have HT := hid hT
  clear hT hS
  go_enter Tryz.func115, Tryz.ntmps115
  go_wp2_with fail
  refine (tcheck_any t _ ht).mono ?_
  intro e w1 h1
  obtain ⟨rfl, hb1⟩ := checked_false h1 HT.out
  clear h1
  go_wp2
  go_ret
  rw [HS.out]
  exact ⟨rfl, HB.out.trans (hb1.mono HB.out.size)⟩
 | true =>
  have HT := hid hT
  have hsz := isTy_size hT
  have hl : (({ data := #[91] } : ByteArray) ++ t).size ≤ 9223372036854775807 := by rw [bracket_size]; omega
  have HC := hid (fun w => tcheck_any (({ data := #[91] } : ByteArray) ++ t) w hl)
  cases hU : isTy (91 :: t.data.toList) with
  | false =>
   have HS : Hid (typedOk ⟨21, a, b, t, c, n⟩ = false) := hid (by rw [hS, hT, hU]; rfl)
   have HU : Hid (isTy (({ data := #[91] } : ByteArray) ++ t).data.toList = false) := hid (by rw [bracket]; exact hU)
   clear hT hS hU hl
   go_enter Tryz.func115, Tryz.ntmps115
   go_wp2_with fail
   refine (tcheck_any t _ ht).mono ?_
   intro e w1 h1
   obtain ⟨rfl, hb1⟩ := checked_true h1 HT.out
   clear h1
   have HB1 := hid (HB.out.trans (hb1.mono HB.out.size))
   have hc3 : w1.cell? ⟨w.heap.size, 3, none⟩ = some (.string t) := by rw [hb1.cell (by simp)]; rw [World.cell?_alloc_at _ _ _ _ rfl]; rfl
   go_wp2_with fail
   refine (HC.out _).mono ?_
   intro e w2 h2
   obtain ⟨rfl, hb2⟩ := checked_false h2 HU.out
   clear h2
   go_wp2
   go_ret
   rw [HS.out]
   exact ⟨rfl, HB1.out.trans (hb2.mono HB1.out.size)⟩
  | true =>
   have HS : Hid (typedOk ⟨21, a, b, t, c, n⟩ = true) := hid (by rw [hS, hT, hU]; rfl)
   have HU : Hid (isTy (({ data := #[91] } : ByteArray) ++ t).data.toList = true) := hid (by rw [bracket]; exact hU)
   clear hT hS hU hl
   go_enter Tryz.func115, Tryz.ntmps115
   go_wp2_with fail
   refine (tcheck_any t _ ht).mono ?_
   intro e w1 h1
   obtain ⟨rfl, hb1⟩ := checked_true h1 HT.out
   clear h1
   have HB1 := hid (HB.out.trans (hb1.mono HB.out.size))
   have hc3 : w1.cell? ⟨w.heap.size, 3, none⟩ = some (.string t) := by rw [hb1.cell (by simp)]; rw [World.cell?_alloc_at _ _ _ _ rfl]; rfl
   go_wp2_with fail
   refine (HC.out _).mono ?_
   intro e w2 h2
   obtain ⟨rfl, hb2⟩ := checked_true h2 HU.out
   clear h2
   go_wp2
   go_ret
   rw [HS.out]
   exact ⟨rfl, HB1.out.trans (hb2.mono HB1.out.size)⟩
theorem typed22 (a b : Int) (t c n : ByteArray) (w : World) (ht : t.size ≤ 9223372036854775807) : Calls Tryz.prog 115 #[.agg #[.int .i64 22, .int .i64 a, .int .i64 b, .string t, .string c, .string n]] w fun e w' => e = .returned (.bool (typedOk ⟨22, a, b, t, c, n⟩)) ∧ Below w.heap.size w w' := by
 have HB := hid (ext_alloc w (.cells #[.int .i64 22, .int .i64 a, .int .i64 b, .string t, .string c, .string n] 56))
 have hS : typedOk ⟨22, a, b, t, c, n⟩ = (isTy t.data.toList && !isWd t.data.toList) := rfl
 cases hT : isTy t.data.toList with
 | false =>
  have HS : Hid (typedOk ⟨22, a, b, t, c, n⟩ = false) := hid (by rw [hS, hT]; rfl)
  have HT := hid hT
  clear hT hS
  go_enter Tryz.func115, Tryz.ntmps115
  go_wp2_with fail
  refine (tcheck_any t _ ht).mono ?_
  intro e w1 h1
  obtain ⟨rfl, hb1⟩ := checked_false h1 HT.out
  clear h1
  go_wp2
  go_ret
  rw [HS.out]
  exact ⟨rfl, HB.out.trans (hb1.mono HB.out.size)⟩
 | true =>
  have HS : Hid (typedOk ⟨22, a, b, t, c, n⟩ = !isWd t.data.toList) := hid (by rw [hS, hT]; rfl)
  have HT := hid hT
  clear hT hS
  go_enter Tryz.func115, Tryz.ntmps115
  go_wp2_with fail
  refine (tcheck_any t _ ht).mono ?_
  intro e w1 h1
  obtain ⟨rfl, hb1⟩ := checked_true h1 HT.out
  clear h1
  have HB1 := hid (HB.out.trans (hb1.mono HB.out.size))
  have hc3 : w1.cell? ⟨w.heap.size, 3, none⟩ = some (.string t) := by rw [hb1.cell (by simp)]; rw [World.cell?_alloc_at _ _ _ _ rfl]; rfl
  go_wp2_with fail
  refine (number_any t _).mono ?_
  rintro e w2 ⟨rfl, rfl⟩
  go_wp2
  go_ret
  rw [HS.out]
  exact ⟨rfl, HB1.out⟩
theorem typed23 (a b : Int) (t c n : ByteArray) (w : World) (ht : t.size ≤ 9223372036854775807) : Calls Tryz.prog 115 #[.agg #[.int .i64 23, .int .i64 a, .int .i64 b, .string t, .string c, .string n]] w fun e w' => e = .returned (.bool (typedOk ⟨23, a, b, t, c, n⟩)) ∧ Below w.heap.size w w' := by
 have HB := hid (ext_alloc w (.cells #[.int .i64 23, .int .i64 a, .int .i64 b, .string t, .string c, .string n] 56))
 have hS : typedOk ⟨23, a, b, t, c, n⟩ = (isTy t.data.toList && !isWd t.data.toList) := rfl
 cases hT : isTy t.data.toList with
 | false =>
  have HS : Hid (typedOk ⟨23, a, b, t, c, n⟩ = false) := hid (by rw [hS, hT]; rfl)
  have HT := hid hT
  clear hT hS
  go_enter Tryz.func115, Tryz.ntmps115
  go_wp2_with fail
  refine (tcheck_any t _ ht).mono ?_
  intro e w1 h1
  obtain ⟨rfl, hb1⟩ := checked_false h1 HT.out
  clear h1
  go_wp2
  go_ret
  rw [HS.out]
  exact ⟨rfl, HB.out.trans (hb1.mono HB.out.size)⟩
 | true =>
  have HS : Hid (typedOk ⟨23, a, b, t, c, n⟩ = !isWd t.data.toList) := hid (by rw [hS, hT]; rfl)
  have HT := hid hT
  clear hT hS
  go_enter Tryz.func115, Tryz.ntmps115
  go_wp2_with fail
  refine (tcheck_any t _ ht).mono ?_
  intro e w1 h1
  obtain ⟨rfl, hb1⟩ := checked_true h1 HT.out
  clear h1
  have HB1 := hid (HB.out.trans (hb1.mono HB.out.size))
  have hc3 : w1.cell? ⟨w.heap.size, 3, none⟩ = some (.string t) := by rw [hb1.cell (by simp)]; rw [World.cell?_alloc_at _ _ _ _ rfl]; rfl
  go_wp2_with fail
  refine (number_any t _).mono ?_
  rintro e w2 ⟨rfl, rfl⟩
  go_wp2
  go_ret
  rw [HS.out]
  exact ⟨rfl, HB1.out⟩
theorem typed24 (a b : Int) (t c n : ByteArray) (w : World) (ht : t.size ≤ 10000000) : Calls Tryz.prog 115 #[.agg #[.int .i64 24, .int .i64 a, .int .i64 b, .string t, .string c, .string n]] w fun e w' => e = .returned (.bool (typedOk ⟨24, a, b, t, c, n⟩)) ∧ Below w.heap.size w w' := by
 have HB := hid (ext_alloc w (.cells #[.int .i64 24, .int .i64 a, .int .i64 b, .string t, .string c, .string n] 56))
 have hS : typedOk ⟨24, a, b, t, c, n⟩ = (methodOf t.data.toList).isSome := rfl
 cases hm : methodOf t.data.toList with
 | none =>
  have HS : Hid (typedOk ⟨24, a, b, t, c, n⟩ = false) := hid (by rw [hS, hm]; rfl)
  have HM := hid hm
  clear hS hm
  go_enter Tryz.func115, Tryz.ntmps115
  go_wp2_with fail
  refine (method_any t _ ht).mono ?_
  intro e w1 h1
  obtain ⟨rfl, hb1⟩ := methodBy_none HM.out h1
  clear h1
  go_wp2
  go_ret
  rw [HS.out]
  exact ⟨rfl, HB.out.trans (hb1.mono HB.out.size)⟩
 | some r =>
  obtain ⟨ts, g⟩ := r
  have HS : Hid (typedOk ⟨24, a, b, t, c, n⟩ = true) := hid (by rw [hS, hm]; rfl)
  have HM := hid hm
  clear hS hm
  go_enter Tryz.func115, Tryz.ntmps115
  go_wp2_with fail
  refine (method_any t _ ht).mono ?_
  intro e w1 h1
  obtain ⟨v, rfl, ho⟩ := methodBy_some HM.out h1
  have hb1 := ho.below
  clear h1 ho
  go_wp2
  go_ret
  rw [HS.out]
  exact ⟨rfl, HB.out.trans (hb1.mono HB.out.size)⟩
theorem typed25 (a b : Int) (t c n : ByteArray) (w : World) (ht : t.size ≤ 10000000) : Calls Tryz.prog 115 #[.agg #[.int .i64 25, .int .i64 a, .int .i64 b, .string t, .string c, .string n]] w fun e w' => e = .returned (.bool (typedOk ⟨25, a, b, t, c, n⟩)) ∧ Below w.heap.size w w' := by
 have HB := hid (ext_alloc w (.cells #[.int .i64 25, .int .i64 a, .int .i64 b, .string t, .string c, .string n] 56))
 have hS : typedOk ⟨25, a, b, t, c, n⟩ = (methodOf t.data.toList).isSome := rfl
 cases hm : methodOf t.data.toList with
 | none =>
  have HS : Hid (typedOk ⟨25, a, b, t, c, n⟩ = false) := hid (by rw [hS, hm]; rfl)
  have HM := hid hm
  clear hS hm
  go_enter Tryz.func115, Tryz.ntmps115
  go_wp2_with fail
  refine (method_any t _ ht).mono ?_
  intro e w1 h1
  obtain ⟨rfl, hb1⟩ := methodBy_none HM.out h1
  clear h1
  go_wp2
  go_ret
  rw [HS.out]
  exact ⟨rfl, HB.out.trans (hb1.mono HB.out.size)⟩
 | some r =>
  obtain ⟨ts, g⟩ := r
  have HS : Hid (typedOk ⟨25, a, b, t, c, n⟩ = true) := hid (by rw [hS, hm]; rfl)
  have HM := hid hm
  clear hS hm
  go_enter Tryz.func115, Tryz.ntmps115
  go_wp2_with fail
  refine (method_any t _ ht).mono ?_
  intro e w1 h1
  obtain ⟨v, rfl, ho⟩ := methodBy_some HM.out h1
  have hb1 := ho.below
  clear h1 ho
  go_wp2
  go_ret
  rw [HS.out]
  exact ⟨rfl, HB.out.trans (hb1.mono HB.out.size)⟩
theorem typedX (op a b : Int) (t c n : ByteArray) (w : World) (h2 : op ≠ 2) (h9 : op ≠ 9) (h10 : op ≠ 10) (h18 : op ≠ 18) (h20 : op ≠ 20) (h21 : op ≠ 21) (h22 : op ≠ 22) (h23 : op ≠ 23) (h24 : op ≠ 24) (h25 : op ≠ 25) : Calls Tryz.prog 115 #[.agg #[.int .i64 op, .int .i64 a, .int .i64 b, .string t, .string c, .string n]] w fun e w' => e = .returned (.bool (typedOk ⟨op, a, b, t, c, n⟩)) ∧ Below w.heap.size w w' := by
 have HB := hid (ext_alloc w (.cells #[.int .i64 op, .int .i64 a, .int .i64 b, .string t, .string c, .string n] 56))
 have k2 : (op == 2) = false := by simp [h2]
 have k9 : (op == 9) = false := by simp [h9]
 have k10 : (op == 10) = false := by simp [h10]
 have k18 : (op == 18) = false := by simp [h18]
 have k20 : (op == 20) = false := by simp [h20]
 have k21 : (op == 21) = false := by simp [h21]
 have k22 : (op == 22) = false := by simp [h22]
 have k23 : (op == 23) = false := by simp [h23]
 have k24 : (op == 24) = false := by simp [h24]
 have k25 : (op == 25) = false := by simp [h25]
 have HS : Hid (typedOk ⟨op, a, b, t, c, n⟩ = true) := hid (by simp [typedOk, isIn, h2, h9, h10, h18, h20, h21, h22, h23, h24, h25])
 clear h2 h9 h10 h18 h20 h21 h22 h23 h24 h25
 go_enter Tryz.func115, Tryz.ntmps115
 go_wp2
 go_ret
 rw [HS.out]
 exact ⟨rfl, HB.out⟩
theorem typed_any (op a b : Int) (t c n : ByteArray) (w : World) (ht : t.size ≤ 10000000) : Calls Tryz.prog 115 #[.agg #[.int .i64 op, .int .i64 a, .int .i64 b, .string t, .string c, .string n]] w fun e w' => e = .returned (.bool (typedOk ⟨op, a, b, t, c, n⟩)) ∧ Below w.heap.size w w' := by
 by_cases h2 : op = 2
 ·subst h2; exact typed2 a b t c n w (by omega)
 by_cases h9 : op = 9
 ·subst h9; exact typed9 a b t c n w (by omega)
 by_cases h10 : op = 10
 ·subst h10; exact typed10 a b t c n w (by omega)
 by_cases h18 : op = 18
 ·subst h18; exact typed18 a b t c n w (by omega)
 by_cases h20 : op = 20
 ·subst h20; exact typed20 a b t c n w (by omega)
 by_cases h21 : op = 21
 ·subst h21; exact typed21 a b t c n w (by omega)
 by_cases h22 : op = 22
 ·subst h22; exact typed22 a b t c n w (by omega)
 by_cases h23 : op = 23
 ·subst h23; exact typed23 a b t c n w (by omega)
 by_cases h24 : op = 24
 ·subst h24; exact typed24 a b t c n w (by omega)
 by_cases h25 : op = 25
 ·subst h25; exact typed25 a b t c n w (by omega)
 exact typedX op a b t c n w h2 h9 h10 h18 h20 h21 h22 h23 h24 h25
end Go.Proofs.YtloonnfelgokmaaGreatDoor.ins
