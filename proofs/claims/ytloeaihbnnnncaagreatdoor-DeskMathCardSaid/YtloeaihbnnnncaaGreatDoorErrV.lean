/- Error values, by their codes. No condition. -/
import Derived.Test.YtloeaihbnnnncaaGreatDoorLib
import Derived.Test.YtloeaihbnnnncaaGreatDoorRows
import Derived.LaidEql
namespace Go.Proofs.YtloeaihbnnnncaaGreatDoor.errs
open Go.RowKit Go.Proofs.YtloeaihbnnnncaaGreatDoor.lib

section
variable {P : Program} (w : World)
theorem run_equalIn_iface_int (d : Nat) {ti tn : TypeId} {ms : Array (String × TypeId)} {i : TypeInfo} {k : IntKind} (a b : Int)
    (hi : P.underlying ti = some (.interface ms)) (hn : P.underlying tn = some (.int k)) (hinfo : P.info? tn = some i) (hcomp : i.comparable = true) :
    (Op.equalIn (d + 2) ti (.iface tn (.int k a)) (.iface tn (.int k b))).run P w = .ok (a == b) w := by
  simp [Op.equalIn, run_underlying hi, run_underlying hn, typeInfo, hinfo, hcomp]
/-- two error values of one integer type -/
theorem run_eql_iface_int {ti tn : TypeId} {ms : Array (String × TypeId)} {i : TypeInfo} {k : IntKind} (a b : Int)
    (hi : P.underlying ti = some (.interface ms)) (hn : P.underlying tn = some (.int k)) (hinfo : P.info? tn = some i) (hcomp : i.comparable = true) :
    (binOp .eql ti (.iface tn (.int k a)) (.iface tn (.int k b))).run P w = .ok (.bool (a == b)) w := by
  simp only [binOp]
  simp [Op.equal, Op.maxDepth, run_equalIn_iface_int w 9998 a b hi hn hinfo hcomp]
end

/-- an error value, by its code; 0: nil -/
def errVal (e : Int) : Value := if e = 0 then .nilIface else .iface 58 (.int .i64 e)

theorem errno_info : ∃ i, Tryz.prog.info? 58 = some i ∧ i.comparable = true := by
  have h : (Tryz.prog.info? 58).map (fun i => i.comparable) = some true := by kernel_rfl
  obtain ⟨i, hi, hc⟩ := Option.map_eq_some_iff.1 h
  exact ⟨i, hi, hc⟩
theorem error_iface : ∃ ms, Tryz.prog.underlying 30 = some (.interface ms) := ⟨_, Tryz.underlying30⟩
end Go.Proofs.YtloeaihbnnnncaaGreatDoor.errs
