/- coffeehousesame.Ints: two lists of numbers. No condition. -/
import Derived.Test.YtkfkdbmgmifopaaGreatDoorStrs
import Derived.Test.YtkfkdbmgmifopaaGreatDoorRows
import Derived.BigQuiet
import Derived.Test.YtkfkdbmgmifopaaGreatDoorErrV
import Derived.Test.YtkfkdbmgmifopaaGreatDoorLib
namespace Go.Proofs.YtkfkdbmgmifopaaGreatDoor.errs
open Go.RowKit Go.Proofs.YtkfkdbmgmifopaaGreatDoor.lib

set_option maxHeartbeats 400000 in
theorem error_ok (w : World) : Calls Tryz.prog 19 #[.nilIface, .int .i64 0] w fun e w' => e = .returned (.bool true) ∧ w = w' := by
  go_enter Tryz.func19, Tryz.ntmps19
  go_wp2
  go_ret
  exact ⟨rfl, rfl⟩


set_option maxHeartbeats 400000 in
/-- an error that is there, against a code that is not OK -/
theorem error_some (x y : Int) (w : World) (hy : ¬ y = 0) : Calls Tryz.prog 19 #[.iface 45 (.int .i64 x), .int .i64 y] w fun e w' => e = .returned (.bool (x == y)) ∧ w = w' := by
  obtain ⟨i, hi, hc⟩ := errno_info
  have he := fun w : World => run_eql_iface_int (P := Tryz.prog) w x y Tryz.underlying31 Tryz.underlying45 hi hc
  have hyb : (y == 0) = false := by simpa using hy
  clear hi hc
  go_enter Tryz.func19, Tryz.ntmps19
  go_wp2
  go_ret
  exact ⟨rfl, rfl⟩
theorem error_form (w : World) : Calls Tryz.prog 19 #[.iface 45 (.int .i64 1), .int .i64 1] w fun e w' => e = .returned (.bool true) ∧ w = w' :=
  (error_some 1 1 w (by omega)).mono fun _ _ ⟨h1, h2⟩ => ⟨by rw [h1]; rfl, h2⟩

end Go.Proofs.YtkfkdbmgmifopaaGreatDoor.errs

/- coffeehousesame.Error of an error and its own code. No condition. -/
namespace Go.Proofs.YtkfkdbmgmifopaaGreatDoor.errs
open Go.RowKit Go.Proofs.YtkfkdbmgmifopaaGreatDoor.lib

theorem error_same (z : Int) (w : World) : Calls Tryz.prog 19 #[errVal z, .int .i64 z] w fun e w' => e = .returned (.bool true) ∧ w = w' := by
  by_cases h : z = 0
  · subst h; exact error_ok w
  · unfold errVal
    rw [if_neg h]
    exact (error_some z z w h).mono fun e w' ⟨h1, h2⟩ => ⟨by rw [h1]; simp, h2⟩
end Go.Proofs.YtkfkdbmgmifopaaGreatDoor.errs

namespace Go.Proofs.YtkfkdbmgmifopaaGreatDoor.ints
open Go.RowKit Go.Proofs.YtkfkdbmgmifopaaGreatDoor.lib Go.Proofs.YtkfkdbmgmifopaaGreatDoor.texts Go.Proofs.YtkfkdbmgmifopaaGreatDoor.errs

set_option maxHeartbeats 1000000 in
theorem ints_any (va vb : Value) (xs ys : List Int) (w : World) (ha : Sl w va xs.length 1 (xs.map (.int .i64))) (hb : Sl w vb ys.length 1 (ys.map (.int .i64))) (hn : xs.length ≤ 1000000000000) :
    Calls Tryz.prog 23 #[va, vb] w fun e w' => e = .returned (.bool (decide (xs = ys))) ∧ Below w.heap.size w w' := by
  obtain ⟨a, c, rfl⟩ := ha.val
  obtain ⟨b, d, rfl⟩ := hb.val
  have HA := hid ha; have HB := hid hb; clear ha hb
  obtain ⟨E, hE⟩ : ∃ E, decide (xs = ys) = E := ⟨_, rfl⟩
  rw [hE]
  by_cases hlen : xs.length = ys.length
  · have HE := hid hE
    have hl0 : ((xs.length : Int) == (ys.length : Int)) = true := by simp [hlen]
    clear hE
    go_enter Tryz.func23, Tryz.ntmps23
    go_wp2_with fail
    go_loopw [5] (fun i wr => ∃ k : Nat, k ≤ xs.length ∧ i = .int .i64 k ∧ Hid (Below w.heap.size w wr) ∧ Hid (xs.take k = ys.take k)) (fun i _ => xs.length - (intOf i).toNat)
    case atStart => exact ⟨0, Nat.zero_le _, rfl, hid (Below.refl _ _), hid rfl⟩
    case round =>
      obtain ⟨k, hk, rfl, HR, HT⟩ := hrel
      by_cases hlt : k < xs.length
      · have hlt2 : k < ys.length := by omega
        obtain ⟨bx, ox, hax, hcx⟩ := Sl.ints (HA.out.below HR.out) hlt
        obtain ⟨by_, oy, hay, hcy⟩ := Sl.ints (HB.out.below HR.out) hlt2
        subst hax
        subst hay
        have hi : (0 : Int) ≤ (k : Int) := by omega
        have hl : (k : Int) < (xs.length : Int) := by omega
        have hl2 : (k : Int) < (ys.length : Int) := by omega
        by_cases heq : xs[k] = ys[k]
        · have HS := hid (take_same HT.out hlt hlt2 heq)
          rw [← heq] at hcy
          generalize xs[k] = X at hcx hcy
          clear heq hlt2
          go_wp2_with fail
          go_quiet (fail)
          go_wp2
          go_roundw
          case rel => exact ⟨k + 1, by omega, by go_num, hid (below_drewN HR.out _), HS⟩
          case measure => simp [intOf]; omega
        · have hne : (xs[k] == ys[k]) = false := by simp [heq]
          have hne2 : ¬ xs[k] = ys[k] := heq
          have hne3 : (xs[k] != ys[k]) = true := by simp [heq]
          have HF : Hid (E = false) := hid (by rw [← HE.out]; exact decide_eq_false (fun h => heq (by subst h; rfl)))
          generalize xs[k] = X at hcx hne hne2 hne3
          generalize ys[k] = Y at hcy hne hne2 hne3
          clear heq hlt2
          go_wp2_with fail
          go_quiet (fail)
          go_wp2
          go_ret
          rw [HF.out]
          exact ⟨rfl, below_drewN HR.out _⟩
      · have HTR : Hid (E = true) := hid (by
          rw [← HE.out]
          have h := HT.out
          rw [List.take_of_length_le (by omega), List.take_of_length_le (by omega)] at h
          exact decide_eq_true h)
        go_wp2_with fail
        go_ret
        rw [HTR.out]
        exact ⟨rfl, HR.out⟩
  · have HF : Hid (E = false) := hid (by rw [← hE]; exact decide_eq_false (fun h => hlen (by rw [h])))
    have hl0 : ((xs.length : Int) == (ys.length : Int)) = false := beq_eq_false_iff_ne.2 (by omega)
    clear hE
    go_enter Tryz.func23, Tryz.ntmps23
    go_wp2_with fail
    go_ret
    rw [HF.out]
    exact ⟨rfl, Below.refl _ _⟩

end Go.Proofs.YtkfkdbmgmifopaaGreatDoor.ints

/- 'append(out, src...)' as one step of a region that draws its order. No condition. -/
namespace Go.Proofs.YtkfkdbmgmifopaaGreatDoor.lib
open Go.RowKit

theorem step_append_src {P : Program} (w0 W : World) {ops : Array Oper} {o : Oper} {a : Act} {K : Act → World → Prop} {Q : Exit → Act → World → Prop} {E : Prop} (hgd : o.guard = none) (s x : Operand) (t : TypeId)
    (ho : o.op = .call { callee := .builtin .append, args := #[s, x], argTypes := #[t, t] })
    (e : TypeId) (z : Value) (size bytes m : Nat) (ht : P.underlying t = some (.slice e)) (hinfo : (P.info? e).map (fun i => (i.zero, i.size, i.bytes)) = some (some z, size, bytes))
    (hzs : z.cells.size = size) (hsz : 0 < size)
    (v : Value) (n : Nat) (xs : List Value) (hout : Out w0 W e size v n xs) (hs : a.eval s = v)
    (v2 : Value) (ys : List Value) (hsrc : Sl W v2 m size ys) (hx : a.eval x = v2) (h1 : ∀ u ∈ ys, u.oneCell' = true)
    (h63 : (n + m) * bytes ≤ 140737488355328) (h64 : n + m ≤ 140737488355328)
    (h : ∀ v' w', Out w0 w' e size v' (n + m) (xs ++ ys) → W.grownBy w' v.ownBlock → K (a.put o.dst v') w') :
    if Region.wanted o (yielded ops a.tmps) = true then Oper.wp P o a W K Q else E := by
  have hw : Region.wanted o (yielded ops a.tmps) = true := by simp [Region.wanted, hgd]
  rw [if_pos hw]
  obtain ⟨i, hi, hz, hsize, hby⟩ := info_parts hinfo
  have hv : ∀ k, v.ownBlock = some k → w0.heap.size ≤ k := fun k hk => (hout.own.lt k hk).1
  obtain ⟨hl, ao, c, rfl, _, hcells⟩ := hsrc
  cases ao with
  | none =>
    have hys : ys = [] := by
      rcases hcells with h | ⟨b, off, hh, _⟩
      · exact h
      · cases hh
    subst hys
    have hm : m = 0 := by
      rcases Nat.eq_zero_or_pos m with h | h
      · exact h
      · have := Nat.mul_pos h hsz; simp at hl; omega
    subst hm
    have hrun := run_append_none' (P := P) (w := W) w0.heap.size t o.type e i size c ht hi v n xs hout.own
    unfold Oper.wp
    simp [execOp, ho, resolve, invoke, builtin, hs, hx, hrun, Result.andThen]
    have hk := h v W (by simpa using hout) (World.grownBy.refl _ _)
    simpa [Oper.upon] using hk
  | some ad =>
    refine wp_append_own _ s x t ho w0.heap.size e i z size bytes ht hi hz hsize hby hzs hsz v n xs hs hout.own ad m c ys hx hl ?_ h1 (by unfold maxLen; omega) h63 hout.below.size ?_
    · intro j u hu
      rcases hcells with h | ⟨b, off, hh, hc⟩
      · subst h; simp at hu
      · obtain rfl := Option.some.inj hh
        rw [Addr.add_lit]
        exact hc j u hu
    · intro v' w' h1 h2 _
      exact h v' w' ⟨h1, hout.below.grown h2 hout.below.size hv⟩ h2

theorem Sl.drew {w : World} {v : Value} {n size : Nat} {xs : List Value} (h : Sl w v n size xs) : Sl w.drew v n size xs := h.below (w' := w.drew) ((Below.refl _ _).drew)
end Go.Proofs.YtkfkdbmgmifopaaGreatDoor.lib
