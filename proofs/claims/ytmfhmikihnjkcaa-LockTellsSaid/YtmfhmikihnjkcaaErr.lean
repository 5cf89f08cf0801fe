/- coffeehousesame.Error: an error value against a code. No condition. -/
import Derived.Test.YtmfhmikihnjkcaaLib
import Derived.Test.YtmfhmikihnjkcaaRows
import Derived.LaidEql
namespace Go.Proofs.Ytmfhmikihnjkcaa.errs
open Go.RowKit Go.Proofs.Ytmfhmikihnjkcaa.lib

section
variable {P : Program} (w : World)
theorem run_equalIn_iface_int (d : Nat) {ti tn : TypeId} {ms : Array (String × TypeId)} {i : TypeInfo} {k : IntKind} (a b : Int)
    (hi : P.underlying ti = some (.interface ms)) (hn : P.underlying tn = some (.int k)) (hinfo : P.info? tn = some i) (hcomp : i.comparable = true) :
    (Op.equalIn (d + 2) ti (.iface tn (.int k a)) (.iface tn (.int k b))).run P w = .ok (a == b) w := by
  simp [Op.equalIn, run_underlying hi, run_underlying hn, typeInfo, hinfo, hcomp]
/-- two error values of one integer type -/
theorem run_eql_iface_int {ti tn : TypeId} {ms : Array (String × TypeId)} {i : TypeInfo} {k : IntKind} (a b : Int)
    (hi : P.underlying ti = some (.interface ms)) (hn : P.underlying tn = some (.int k)) (hinfo : P.info? tn = some i) (hcomp : i.comparable = true) :
    (binOp .eql ti (.iface tn (.int k a)) (.iface tn (.int k b))).run P w = .ok (.bool (a == b)) w := by
  simp only [binOp]
  simp [Op.equal, Op.maxDepth, run_equalIn_iface_int w 9998 a b hi hn hinfo hcomp]
end

/-- an error value, by its code; 0: nil -/
def errVal (e : Int) : Value := if e = 0 then .nilIface else .iface 33 (.int .i64 e)

set_option maxHeartbeats 400000 in
theorem error_ok (w : World) : Calls Try.prog 15 #[.nilIface, .int .i64 0] w fun e w' => e = .returned (.bool true) ∧ w = w' := by
  go_enter Try.func15, Try.ntmps15
  go_wp2
  go_ret
  exact ⟨rfl, rfl⟩

theorem errno_info : ∃ i, Try.prog.info? 33 = some i ∧ i.comparable = true := by
  have h : (Try.prog.info? 33).map (fun i => i.comparable) = some true := by kernel_rfl
  obtain ⟨i, hi, hc⟩ := Option.map_eq_some_iff.1 h
  exact ⟨i, hi, hc⟩
theorem error_iface : ∃ ms, Try.prog.underlying 27 = some (.interface ms) := ⟨_, Try.underlying27⟩

set_option maxHeartbeats 400000 in
/-- an error that is there, against a code that is not OK -/
theorem error_some (x y : Int) (w : World) (hy : ¬ y = 0) : Calls Try.prog 15 #[.iface 33 (.int .i64 x), .int .i64 y] w fun e w' => e = .returned (.bool (x == y)) ∧ w = w' := by
  obtain ⟨i, hi, hc⟩ := errno_info
  have he := fun w : World => run_eql_iface_int (P := Try.prog) w x y Try.underlying27 Try.underlying33 hi hc
  have hyb : (y == 0) = false := by simpa using hy
  clear hi hc
  go_enter Try.func15, Try.ntmps15
  go_wp2
  go_ret
  exact ⟨rfl, rfl⟩
theorem error_form (w : World) : Calls Try.prog 15 #[.iface 33 (.int .i64 1), .int .i64 1] w fun e w' => e = .returned (.bool true) ∧ w = w' :=
  (error_some 1 1 w (by omega)).mono fun _ _ ⟨h1, h2⟩ => ⟨by rw [h1]; rfl, h2⟩

end Go.Proofs.Ytmfhmikihnjkcaa.errs
