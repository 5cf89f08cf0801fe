/- coffeehousesame.Error: an error value against a code. No condition. -/
import Derived.Test.YtcbefaaipggakaaGreatDoorErrV
namespace Go.Proofs.YtcbefaaipggakaaGreatDoor.errs
open Go.RowKit Go.Proofs.YtcbefaaipggakaaGreatDoor.lib

set_option maxHeartbeats 400000 in
theorem error_ok (w : World) : Calls Tryz.prog 7 #[.nilIface, .int .i64 0] w fun e w' => e = .returned (.bool true) ∧ w = w' := by
  go_enter Tryz.func7, Tryz.ntmps7
  go_wp2
  go_ret
  exact ⟨rfl, rfl⟩


set_option maxHeartbeats 400000 in
/-- an error that is there, against a code that is not OK -/
theorem error_some (x y : Int) (w : World) (hy : ¬ y = 0) : Calls Tryz.prog 7 #[.iface 28 (.int .i64 x), .int .i64 y] w fun e w' => e = .returned (.bool (x == y)) ∧ w = w' := by
  obtain ⟨i, hi, hc⟩ := errno_info
  have he := fun w : World => run_eql_iface_int (P := Tryz.prog) w x y Tryz.underlying32 Tryz.underlying28 hi hc
  have hyb : (y == 0) = false := by simpa using hy
  clear hi hc
  go_enter Tryz.func7, Tryz.ntmps7
  go_wp2
  go_ret
  exact ⟨rfl, rfl⟩
theorem error_form (w : World) : Calls Tryz.prog 7 #[.iface 28 (.int .i64 1), .int .i64 1] w fun e w' => e = .returned (.bool true) ∧ w = w' :=
  (error_some 1 1 w (by omega)).mono fun _ _ ⟨h1, h2⟩ => ⟨by rw [h1]; rfl, h2⟩

end Go.Proofs.YtcbefaaipggakaaGreatDoor.errs

/- coffeehousesame.Error of an error and its own code. No condition. -/
namespace Go.Proofs.YtcbefaaipggakaaGreatDoor.errs
open Go.RowKit Go.Proofs.YtcbefaaipggakaaGreatDoor.lib

theorem error_same (z : Int) (w : World) : Calls Tryz.prog 7 #[errVal z, .int .i64 z] w fun e w' => e = .returned (.bool true) ∧ w = w' := by
  by_cases h : z = 0
  · subst h; exact error_ok w
  · unfold errVal
    rw [if_neg h]
    exact (error_some z z w h).mono fun e w' ⟨h1, h2⟩ => ⟨by rw [h1]; simp, h2⟩
end Go.Proofs.YtcbefaaipggakaaGreatDoor.errs
