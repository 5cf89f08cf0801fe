/- Instructions: what they are, and what is wrong with one; ins.Jumps, flow.Ends and the reference's. No condition. -/
import Derived.Test.YtloeaihbnnnncaaGreatDoorDesc2
import Derived.Test.YtloeaihbnnnncaaGreatDoorDesc3
namespace Go.Proofs.YtloeaihbnnnncaaGreatDoor.ins
open Go.RowKit Go.Proofs.YtloeaihbnnnncaaGreatDoor.lib Go.Proofs.YtloeaihbnnnncaaGreatDoor.errs Go.Proofs.YtloeaihbnnnncaaGreatDoor.names Go.Proofs.YtloeaihbnnnncaaGreatDoor.descs

/-- an instruction -/
structure I where
  op : Int
  a : Int
  b : Int
  t : ByteArray
  c : ByteArray
  n : ByteArray

def I.cells (x : I) : List Value := [.int .i64 x.op, .int .i64 x.a, .int .i64 x.b, .string x.t, .string x.c, .string x.n]
abbrev I.val (x : I) : Value := .agg #[.int .i64 x.op, .int .i64 x.a, .int .i64 x.b, .string x.t, .string x.c, .string x.n]

def jumpsOp (op : Int) : Bool := op == 12 || op == 13 || op == 14
def endsOp (op : Int) : Bool := op == 14 || op == 26 || op == 27 || op == 28
def isIn (op : Int) (l : List Int) : Bool := l.contains op
def needA (op : Int) : Bool := isIn op [2, 4, 5, 9, 12, 13, 14]
def needB (op : Int) : Bool := isIn op [12]
def needT (op : Int) : Bool := isIn op [2, 9, 10, 18, 20, 21, 22, 23, 24, 25]
def needC (op : Int) : Bool := isIn op [15, 16, 17, 24, 25]
def needN (op : Int) : Bool := isIn op [16, 17, 24, 25]

/-- its numbers are right -/
def rangedOk (x : I) : Bool :=
  if x.op = 2 then (x.t.data.toList != [73]) || decide (-2147483648 ≤ x.a ∧ x.a ≤ 2147483647)
  else if x.op = 4 ∨ x.op = 5 then decide (0 ≤ x.a ∧ x.a < 8)
  else if x.op = 9 then decide (1 ≤ x.a ∧ x.a ≤ 12)
  else if jumpsOp x.op = true then decide (0 ≤ x.a ∧ x.a ≤ 40 ∧ 0 ≤ x.b ∧ x.b ≤ 5)
  else true
/-- its type is right -/
def typedOk (x : I) : Bool :=
  if isIn x.op [2, 9, 10] = true then isWd x.t.data.toList
  else if isIn x.op [18, 20, 21] = true then isTy x.t.data.toList && isTy (91 :: x.t.data.toList)
  else if isIn x.op [22, 23] = true then isTy x.t.data.toList && !isWd x.t.data.toList
  else if isIn x.op [24, 25] = true then (methodOf x.t.data.toList).isSome
  else true
/-- nothing is there that the kind does not need -/
def bareOk (x : I) : Bool :=
  (needA x.op || x.a == 0) && (needB x.op || x.b == 0) && (needT x.op || x.t.data.toList == []) && (needC x.op || x.c.data.toList == []) && (needN x.op || x.n.data.toList == [])
/-- what is wrong with an instruction; 0: nothing -/
def insFault (x : I) : Int :=
  if x.op < 1 ∨ 28 < x.op then 1
  else if bareOk x = false then 1
  else if rangedOk x = false then 2
  else if typedOk x = false ∨ (needC x.op = true ∧ nameOk x.c.data.toList = false) ∨ (needN x.op = true ∧ nameOk x.n.data.toList = false) then 1
  else 0

theorem jumps_cases (op : Int) : (op = 12 ∨ op = 13 ∨ op = 14) ∨ (op ≠ 12 ∧ op ≠ 13 ∧ op ≠ 14) := by omega
theorem jumpsOp_eq (op : Int) : jumpsOp op = (op == 12 || op == 13 || op == 14) := rfl

set_option maxHeartbeats 400000 in
theorem jumps_any (op : Int) (w : World) : Calls Tryz.prog 65 #[.int .i64 op] w fun e w' => e = .returned (.bool (jumpsOp op)) ∧ w = w' := by
  go_enter Tryz.func65, Tryz.ntmps65
  go_wp2
  all_goals go_ret
  all_goals exact ⟨by first | rfl | simp_all [jumpsOp], rfl⟩

set_option maxHeartbeats 400000 in
theorem word32_any (n : Int) (w : World) : Calls Tryz.prog 45 #[.int .i64 n] w fun e w' => e = .returned (.bool (decide (-2147483648 ≤ n) && decide (n ≤ 2147483647))) ∧ w = w' := by
  go_enter Tryz.func45, Tryz.ntmps45
  go_wp2
  all_goals go_ret
  all_goals exact ⟨by first | rfl | (simp; omega), rfl⟩

end Go.Proofs.YtloeaihbnnnncaaGreatDoor.ins
