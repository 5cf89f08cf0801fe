/- coffeehouselaw5.named. No condition. -/
import Derived.Test.YtkfkdbmgmifopaaGreatDoorName
namespace Go.Proofs.YtkfkdbmgmifopaaGreatDoor.names
open Go.RowKit Go.Proofs.YtkfkdbmgmifopaaGreatDoor.lib Go.Proofs.YtkfkdbmgmifopaaGreatDoor.errs

set_option maxHeartbeats 400000 in
theorem named_any (w : World) : Calls Tryz.prog 8 #[] w fun e w' => e = .returned (.bool true) ∧ Below w.heap.size w w' := by
  obtain ⟨i, hi, hc⟩ := errno_info
  have he := fun w : World => run_eql_iface_int (P := Tryz.prog) w 1 1 Tryz.underlying31 Tryz.underlying45 hi hc
  clear hi hc
  go_enter Tryz.func8, Tryz.ntmps8
  go_wp2_with fail
  refine (check_any _ _ (by decide)).mono ?_
  intro e w1 h1
  obtain ⟨rfl, hb1⟩ := checked_true h1 (by decide +kernel)
  go_wp2_with fail
  refine (check_any _ _ (by decide)).mono ?_
  intro e w2 h2
  obtain ⟨rfl, hb2⟩ := checked_false h2 (by decide +kernel)
  clear h1 h2
  go_wp2
  go_ret
  exact ⟨rfl, hb1.trans (hb2.mono hb1.size)⟩
end Go.Proofs.YtkfkdbmgmifopaaGreatDoor.names
