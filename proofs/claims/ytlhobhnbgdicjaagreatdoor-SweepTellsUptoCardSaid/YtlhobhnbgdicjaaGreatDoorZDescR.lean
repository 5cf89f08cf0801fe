/- Types as texts: the reference's IsWord. No condition. -/
import Derived.Test.YtlhobhnbgdicjaaGreatDoorZDesc2
namespace Go.Proofs.YtlhobhnbgdicjaaGreatDoor.descs
open Go.RowKit lib errs names
set_option maxHeartbeats 400000 in
theorem isWord_any (s : ByteArray) (w : World) : Calls Tryz.prog 41 #[.string s] w fun e w' => e = .returned (.bool (isWd s.data.toList)) ∧ w = w' := by
 have HB := hid (isWd_eq s)
 by_cases h1 : s.data.toList = [73]
 ·have g1 : s.toList = [73] := str_list.2 h1
  clear h1
  go_enter Tryz.func41, Tryz.ntmps41
  go_wp2
  go_ret
  rw [HB.out]
  exact ⟨by simp [g1], rfl⟩
 ·have g1 : ¬ s.toList = [73] := fun h => h1 (str_list.1 h)
  clear h1
  go_enter Tryz.func41, Tryz.ntmps41
  go_wp2
  go_ret
  rw [HB.out]
  exact ⟨rfl, rfl⟩
end Go.Proofs.YtlhobhnbgdicjaaGreatDoor.descs
