/- coffeehouselaw5.named. No condition. -/
import Derived.Test.YtnhhaefoilhlhaaGreatDoorName
namespace Go.Proofs.YtnhhaefoilhlhaaGreatDoor.names
open Go.RowKit Go.Proofs.YtnhhaefoilhlhaaGreatDoor.lib Go.Proofs.YtnhhaefoilhlhaaGreatDoor.errs

set_option maxHeartbeats 400000 in
theorem named_any (w : World) : Calls Tryz.prog 10 #[] w fun e w' => e = .returned (.bool true) ∧ Below w.heap.size w w' := by
  obtain ⟨i, hi, hc⟩ := errno_info
  have he := fun w : World => run_eql_iface_int (P := Tryz.prog) w 1 1 Tryz.underlying30 Tryz.underlying36 hi hc
  clear hi hc
  go_enter Tryz.func10, Tryz.ntmps10
  go_wp2_with fail
  refine (check_any _ _ (by decide)).mono ?_
  intro e w1 h1
  obtain ⟨rfl, hb1⟩ := checked_true h1 (by decide +kernel)
  go_wp2_with fail
  refine (check_any _ _ (by decide)).mono ?_
  intro e w2 h2
  obtain ⟨rfl, hb2⟩ := checked_false h2 (by decide +kernel)
  clear h1 h2
  go_wp2
  go_ret
  exact ⟨rfl, hb1.trans (hb2.mono hb1.size)⟩
end Go.Proofs.YtnhhaefoilhlhaaGreatDoor.names
