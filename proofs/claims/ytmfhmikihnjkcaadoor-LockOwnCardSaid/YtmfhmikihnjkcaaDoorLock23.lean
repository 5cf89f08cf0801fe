/- Locks: the walk of the law LockOwn. No condition. -/
import Derived.Test.YtmfhmikihnjkcaaDoorLock22
import Derived.Test.YtmfhmikihnjkcaaDoorNamed
import Derived.Test.YtmfhmikihnjkcaaDoorSet
namespace Go.Proofs.YtmfhmikihnjkcaaDoor.locks
open Go.RowKit Go.Proofs.YtmfhmikihnjkcaaDoor.lib Go.Proofs.YtmfhmikihnjkcaaDoor.maps Go.Proofs.YtmfhmikihnjkcaaDoor.errs

theorem own_ring : ring (enterSt (enterSt (enterSt St.new 1 0) 2 0) 1 1) = [] := by decide +kernel

set_option maxRecDepth 100000 in
set_option maxHeartbeats 4000000 in
theorem own_any (n : Int) (w : World) : Calls Tryd.prog 3 #[.int .i64 n] w fun e w' => e = .returned (.bool true) ∧ Below w.heap.size w w' := by
  go_enter Tryd.func3, Tryd.ntmps3
  go_wp2_with fail
  refine (names.named_any w).mono ?_
  rintro e w1 ⟨rfl, hb1⟩
  have HB1 := hid hb1
  clear hb1
  go_wp2_with fail
  refine (new_us w _ HB1.out).mono ?_
  rintro e w2 ⟨p, rfl, h2⟩
  have H2 := hid h2
  clear h2
  go_wp2_with fail
  refine (new_pw H2.out).mono ?_
  rintro e w3 ⟨q, rfl, h3⟩
  have H3 := hid h3
  clear h3
  go_wp2_with fail
  refine (enter_pw H3.out (by omega) 1 0).mono ?_
  rintro e w4 ⟨rfl, h4⟩
  rw [show enterOk St.new 1 0 = true from by decide, show fault St.new 1 0 = 0 from by decide, errVal_zero rfl]
  have H4 := hid h4
  clear h4
  go_wp2_with fail
  refine (enter_pw H4.out (by omega) 2 0).mono ?_
  rintro e w5 ⟨rfl, h5⟩
  rw [show enterOk (enterSt St.new 1 0) 2 0 = false from by decide, show fault (enterSt St.new 1 0) 2 0 = 0 from by decide, errVal_zero rfl]
  have H5 := hid h5.swap
  clear h5
  go_wp2_with fail
  refine (enter_pw H5.out (by omega) 2 0).mono ?_
  rintro e w6 ⟨rfl, h6⟩
  rw [show enterOk St.new 2 0 = true from by decide, show fault St.new 2 0 = 0 from by decide, errVal_zero rfl]
  have H6 := hid h6.swap
  clear h6
  go_wp2_with fail
  refine (waiting_pw H6.out (by omega) 0).mono ?_
  rintro e w7 ⟨v7, rfl, ho7⟩
  rw [show waiting (enterSt (enterSt St.new 1 0) 2 0) 0 = [2] from by decide] at ho7
  obtain ⟨g, cap, u, hv, hg, hcu, hfz, hset⟩ := Out.store ho7 (i := 0) (by decide)
  have H7 := hid (H6.out.below ho7.below)
  subst hv
  have HS := hid ((hset (.int .i64 n)).below)
  have H8 := hid (H6.out.below HS.out)
  clear hset ho7
  go_wp2_with fail
  refine (enter_pw H8.out (by omega) 1 1).mono ?_
  rintro e w8 ⟨rfl, h8⟩
  rw [show enterOk (enterSt (enterSt St.new 1 0) 2 0) 1 1 = true from by decide, show fault (enterSt (enterSt St.new 1 0) 2 0) 1 1 = 0 from by decide, errVal_zero rfl]
  have H9 := hid h8
  clear h8
  go_wp2_with fail
  refine (waiting_pw H9.out (by omega) 0).mono ?_
  rintro e w9 ⟨v9, rfl, ho9⟩
  rw [show waiting (enterSt (enterSt (enterSt St.new 1 0) 2 0) 1 1) 0 = [2] from by decide] at ho9
  have H10 := hid (H9.out.below ho9.below)
  obtain ⟨g9, cap9, hv9, _, hc9⟩ := Out.shape ho9 (by decide)
  have hc9' := hc9 0 _ rfl
  have HC9 := hid hc9'
  subst hv9
  clear hc9 ho9 hcu hfz
  go_wp2_with fail
  refine (waiting_pw H10.out.swap (by omega) 0).mono ?_
  rintro e w10 ⟨v10, rfl, ho10⟩
  rw [show waiting (enterSt St.new 2 0) 0 = [] from by decide] at ho10
  have H11 := hid (H10.out.below ho10.below)
  obtain ⟨a10, c10, hv10⟩ := ho10.sl.val
  subst hv10
  clear ho10
  go_wp2_with fail
  refine (ring_pw H11.out).mono ?_
  rintro e w11 ⟨v11, rfl, ho11⟩
  rw [own_ring] at ho11
  have H12 := hid (H11.out.below ho11.below)
  obtain ⟨a11, c11, hv11⟩ := ho11.sl.val
  subst hv11
  clear ho11
  go_wp2
  go_ret
  exact ⟨rfl, H12.out.out⟩
end Go.Proofs.YtmfhmikihnjkcaaDoor.locks
