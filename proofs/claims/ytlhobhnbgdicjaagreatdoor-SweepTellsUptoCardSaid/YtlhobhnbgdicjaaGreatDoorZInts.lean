/- coffeehousesame.Ints: two lists of numbers. No condition. -/
import Derived.Test.YtlhobhnbgdicjaaGreatDoorZStrs
import Derived.Test.YtlhobhnbgdicjaaGreatDoorRows
import Derived.BigQuiet
import Derived.Test.YtlhobhnbgdicjaaGreatDoorZErrV
import Derived.Test.YtlhobhnbgdicjaaGreatDoorZLib
namespace Go.Proofs.YtlhobhnbgdicjaaGreatDoor.errs
open Go.RowKit lib
set_option maxHeartbeats 400000 in
theorem error_ok (w : World) : Calls Tryz.prog 8 #[.nilIface, .int .i64 0] w fun e w' => e = .returned (.bool true) ∧ w = w' := by
 go_enter Tryz.func8, Tryz.ntmps8
 go_wp2
 go_ret
 exact ⟨rfl, rfl⟩
set_option maxHeartbeats 400000 in
theorem error_some (x y : Int) (w : World) (hy : ¬ y = 0) : Calls Tryz.prog 8 #[.iface 28 (.int .i64 x), .int .i64 y] w fun e w' => e = .returned (.bool (x == y)) ∧ w = w' := by
 obtain ⟨i, hi, hc⟩ := errno_info
 have he := fun w : World => run_eql_iface_int (P := Tryz.prog) w x y Tryz.underlying32 Tryz.underlying28 hi hc
 have hyb : (y == 0) = false := by simpa using hy
 clear hi hc
 go_enter Tryz.func8, Tryz.ntmps8
 go_wp2
 go_ret
 exact ⟨rfl, rfl⟩
end Go.Proofs.YtlhobhnbgdicjaaGreatDoor.errs
namespace Go.Proofs.YtlhobhnbgdicjaaGreatDoor.errs
open Go.RowKit lib
theorem error_same (z : Int) (w : World) : Calls Tryz.prog 8 #[errVal z, .int .i64 z] w fun e w' => e = .returned (.bool true) ∧ w = w' := by
 by_cases h : z = 0
 ·subst h; exact error_ok w
 ·unfold errVal
  rw [if_neg h]
  exact (error_some z z w h).mono fun e w' ⟨h1, h2⟩ => ⟨by rw [h1]; simp, h2⟩
end Go.Proofs.YtlhobhnbgdicjaaGreatDoor.errs
namespace Go.Proofs.YtlhobhnbgdicjaaGreatDoor.ints
open Go.RowKit lib texts errs
set_option maxHeartbeats 1000000 in
theorem ints_any (va vb : Value) (xs ys : List Int) (w : World) (ha : Sl w va xs.length 1 (xs.map (.int .i64))) (hb : Sl w vb ys.length 1 (ys.map (.int .i64))) (hn : xs.length ≤ 1000000000000) :
  Calls Tryz.prog 12 #[va, vb] w fun e w' => e = .returned (.bool (decide (xs = ys))) ∧ Below w.heap.size w w' := by
 obtain ⟨a, c, rfl⟩ := ha.val
 obtain ⟨b, d, rfl⟩ := hb.val
 have HA := hid ha; have HB := hid hb; clear ha hb
 obtain ⟨E, hE⟩ : ∃ E, decide (xs = ys) = E := ⟨_, rfl⟩
 rw [hE]
 by_cases hlen : xs.length = ys.length
 ·have HE := hid hE
  have hl0 : ((xs.length : Int) == (ys.length : Int)) = true := by simp [hlen]
  clear hE
  go_enter Tryz.func12, Tryz.ntmps12
  go_wp2_with fail
  go_loopw [5] (fun i wr => ∃ k : Nat, k ≤ xs.length ∧ i = .int .i64 k ∧ Hid (Below w.heap.size w wr) ∧ Hid (xs.take k = ys.take k)) (fun i _ => xs.length - (intOf i).toNat)
  case atStart => exact ⟨0, Nat.zero_le _, rfl, hid (Below.refl _ _), hid rfl⟩
  case round =>
   obtain ⟨k, hk, rfl, HR, HT⟩ := hrel
   by_cases hlt : k < xs.length
   ·have hlt2 : k < ys.length := by omega
    obtain ⟨bx, ox, hax, hcx⟩ := Sl.ints (HA.out.below HR.out) hlt
    obtain ⟨by_, oy, hay, hcy⟩ := Sl.ints (HB.out.below HR.out) hlt2
    subst hax
    subst hay
    have hi : (0 : Int) ≤ (k : Int) := by omega
    have hl : (k : Int) < (xs.length : Int) := by omega
    have hl2 : (k : Int) < (ys.length : Int) := by omega
    by_cases heq : xs[k] = ys[k]
    ·have HS := hid (take_same HT.out hlt hlt2 heq)
     rw [← heq] at hcy
     generalize xs[k] = X at hcx hcy
     clear heq hlt2
     go_wp2_with fail
     go_quiet (fail)
     go_wp2
     go_roundw
     case rel => exact ⟨k + 1, by omega, by go_num, hid (below_drewN HR.out _), HS⟩
     case measure => simp [intOf]; omega
    ·have hne : (xs[k] == ys[k]) = false := by simp [heq]
     have hne2 : ¬ xs[k] = ys[k] := heq
     have hne3 : (xs[k] != ys[k]) = true := by simp [heq]
     have HF : Hid (E = false) := hid (by rw [← HE.out]; exact decide_eq_false (fun h => heq (by subst h; rfl)))
     generalize xs[k] = X at hcx hne hne2 hne3
     generalize ys[k] = Y at hcy hne hne2 hne3
     clear heq hlt2
     go_wp2_with fail
     go_quiet (fail)
     go_wp2
     go_ret
     rw [HF.out]
     exact ⟨rfl, below_drewN HR.out _⟩
   ·have HTR : Hid (E = true) := hid (by
     rw [← HE.out]
     have h := HT.out
     rw [List.take_of_length_le (by omega), List.take_of_length_le (by omega)] at h
     exact decide_eq_true h)
    go_wp2_with fail
    go_ret
    rw [HTR.out]
    exact ⟨rfl, HR.out⟩
 ·have HF : Hid (E = false) := hid (by rw [← hE]; exact decide_eq_false (fun h => hlen (by rw [h])))
  have hl0 : ((xs.length : Int) == (ys.length : Int)) = false := beq_eq_false_iff_ne.2 (by omega)
  clear hE
  go_enter Tryz.func12, Tryz.ntmps12
  go_wp2_with fail
  go_ret
  rw [HF.out]
  exact ⟨rfl, Below.refl _ _⟩
end Go.Proofs.YtlhobhnbgdicjaaGreatDoor.ints
namespace Go.Proofs.YtlhobhnbgdicjaaGreatDoor.lib
open Go.RowKit
theorem Sl.drew {w : World} {v : Value} {n size : Nat} {xs : List Value} (h : Sl w v n size xs) : Sl w.drew v n size xs := h.below (w' := w.drew) ((Below.refl _ _).drew)
end Go.Proofs.YtlhobhnbgdicjaaGreatDoor.lib
