/- Numbers, as the document does them: shifted, MathOf answers as num.Of does. Conditions: the numbers are of 64 bits, the type is I or J, the operation is one there is. -/
import Derived.Test.YtogpgfaojmmemaaGreatDoorNumW
set_option linter.unusedSimpArgs false
set_option linter.unusedVariables false
namespace Go.Proofs.YtogpgfaojmmemaaGreatDoor.nums
open Go.RowKit Go.Proofs.YtogpgfaojmmemaaGreatDoor.lib

set_option maxRecDepth 100000 in
set_option maxHeartbeats 2000000 in
/-- to the right, the sign stays -/
theorem rshr_any (a : Int) (m : Nat) (long : Bool) (w : World) (h : InR a) (hm : m ≤ 64) : Calls Tryz.prog 64 #[.int .i64 10, .int .i64 a, .int .i64 m, .bool long] w fun e w' => e = .returned (.int .i64 (a / 2 ^ m)) ∧ w = w' := by
  have HI := hid (fun i => ediv_in h i)
  go_enter Tryz.func64, Tryz.ntmps64
  go_wp2_with fail
  go_loopw [1, 9] (fun v i wr => ∃ k : Nat, k ≤ m ∧ i = .int .i64 k ∧ v = .int .i64 (a / 2 ^ k) ∧ w = wr) (fun _ i _ => m - (intOf i).toNat)
  case atStart => exact ⟨0, Nat.zero_le _, rfl, by simp, rfl⟩
  case round =>
    obtain ⟨k, hk, rfl, rfl, hww⟩ := hrel
    subst hww
    by_cases hlt : k < m
    · have hlt2 : (k : Int) < (m : Int) := by omega
      have hi : (0 : Int) ≤ (k : Int) := by omega
      have HF := hid (fun w => floor_any (a / 2 ^ k) 2 w (.inl rfl) (HI.out k))
      have HE := hid (ediv_pow a k)
      generalize a / 2 ^ k = c at HF HE
      go_wp2_with fail
      refine (HF.out _).mono ?_
      rintro e w2 ⟨rfl, hww⟩
      obtain rfl := hww.symm
      go_wp2
      go_roundw
      case rel => exact ⟨k + 1, by omega, by go_num, by rw [← HE.out], trivial⟩
      case measure => simp [intOf]; omega
    · have hge : ¬ (k : Int) < (m : Int) := by omega
      have e : k = m := by omega
      subst e
      go_wp2
      go_ret
      exact ⟨rfl, rfl⟩

set_option maxRecDepth 100000 in
set_option maxHeartbeats 2000000 in
/-- to the left -/
theorem rshl_any (a : Int) (m : Nat) (long : Bool) (w : World) (h : InR a) (hm : m ≤ 64) : Calls Tryz.prog 64 #[.int .i64 9, .int .i64 a, .int .i64 m, .bool long] w fun e w' => e = .returned (.int .i64 (wrap64 (a * 2 ^ m))) ∧ w = w' := by
  have H0 := hid (wrap_in h)
  clear h
  go_enter Tryz.func64, Tryz.ntmps64
  go_wp2_with fail
  go_loopw [1, 10] (fun v i wr => ∃ k : Nat, k ≤ m ∧ i = .int .i64 k ∧ v = .int .i64 (wrap64 (a * 2 ^ k)) ∧ w = wr) (fun _ i _ => m - (intOf i).toNat)
  case atStart => exact ⟨0, Nat.zero_le _, rfl, by rw [Int.pow_zero, Int.mul_one, H0.out], rfl⟩
  case round =>
    obtain ⟨k, hk, rfl, rfl, hww⟩ := hrel
    subst hww
    by_cases hlt : k < m
    · have hlt2 : (k : Int) < (m : Int) := by omega
      have hi : (0 : Int) ≤ (k : Int) := by omega
      have HE := hid (shl_next a k)
      generalize wrap64 (a * 2 ^ k) = c at HE
      go_wp2
      go_roundw
      case rel => exact ⟨k + 1, by omega, by go_num, by rw [← HE.out], trivial⟩
      case measure => simp [intOf]; omega
    · have hge : ¬ (k : Int) < (m : Int) := by omega
      have e : k = m := by omega
      subst e
      go_wp2
      go_ret
      exact ⟨rfl, rfl⟩
theorem pow_ge (i : Nat) : (2 : Int) ≤ 2 ^ (i + 1) := by
  rw [Int.pow_succ]; have : (0 : Int) < 2 ^ i := Int.pow_pos (by decide); omega
theorem half_le {U : Int} (h : 0 ≤ U) (i : Nat) : 0 ≤ U / 2 ^ i ∧ U / 2 ^ i ≤ U := by
  induction i with
  | zero => simp; exact h
  | succ i ih => rw [← ediv_pow]; omega
/-- the number that stands after i steps to the right without a sign; U: the number it begins with, without a sign -/
theorem half_in {U : Int} (h : 0 ≤ U) (h2 : U < 18446744073709551616) (i : Nat) : wrap64 (U / 2 ^ (i + 1)) = U / 2 ^ (i + 1) := by
  obtain ⟨h3, h4⟩ := half_le h i
  rw [← ediv_pow]
  unfold wrap64; omega

set_option maxRecDepth 100000 in
set_option maxHeartbeats 2000000 in
/-- to the right, without a sign: from a number that is not below 0 -/
theorem rush_pos (a : Int) (m : Nat) (long : Bool) (w : World) (h : InR a) (h0 : 0 ≤ a) (hm : m ≤ 64) : Calls Tryz.prog 64 #[.int .i64 11, .int .i64 a, .int .i64 m, .bool long] w fun e w' => e = .returned (.int .i64 (a / 2 ^ m)) ∧ w = w' := by
  have HH := hid (fun i => half_le h0 i)
  have HI := hid h
  have hna : ¬ a < 0 := by omega
  clear h h0
  go_enter Tryz.func64, Tryz.ntmps64
  cases long
  all_goals
    go_wp2_with fail
    go_loopw [1, 10] (fun v i wr => ∃ k : Nat, k ≤ m ∧ i = .int .i64 k ∧ v = .int .i64 (a / 2 ^ k) ∧ w = wr) (fun _ i _ => m - (intOf i).toNat)
    case atStart => exact ⟨0, Nat.zero_le _, rfl, by simp, rfl⟩
    case round =>
      obtain ⟨k, hk, rfl, rfl, hww⟩ := hrel
      subst hww
      by_cases hlt : k < m
      · have hlt2 : (k : Int) < (m : Int) := by omega
        have hi : (0 : Int) ≤ (k : Int) := by omega
        have HE := hid (ediv_pow a k)
        have hc0 := (HH.out k).1
        have hc1 := (HH.out k).2
        have HI2 := HI.out
        unfold InR at HI2
        generalize a / 2 ^ k = c at HE hc0 hc1
        have hnc : ¬ c < 0 := by omega
        have hq : c.tdiv 2 = c / 2 := Int.tdiv_eq_ediv_of_nonneg hc0
        have hq2 : wrap64 (c / 2) = c / 2 := by unfold wrap64; omega
        have HQ2 := hid hq2
        clear HI2
        go_wp2
        go_roundw
        case rel => exact ⟨k + 1, by omega, by go_num, by rw [← HE.out]; exact congrArg _ HQ2.out, trivial⟩
        case measure => simp [intOf]; omega
      · have hge : ¬ (k : Int) < (m : Int) := by omega
        have e : k = m := by omega
        subst e
        go_wp2
        go_ret
        exact ⟨rfl, rfl⟩
end Go.Proofs.YtogpgfaojmmemaaGreatDoor.nums

/- Numbers, as the document does them: MathOf. Condition: the numbers are of 64 bits. -/
set_option linter.unusedSimpArgs false
namespace Go.Proofs.YtogpgfaojmmemaaGreatDoor.nums
open Go.RowKit Go.Proofs.YtogpgfaojmmemaaGreatDoor.lib

theorem u64_neg {a : Int} (h : InR a) (hn : a < 0) : IntKind.u64.wrap a = a + 18446744073709551616 := by
  unfold InR at h; rw [IntKind.wrap_u64]; omega
theorem u64_pos {a : Int} (h : InR a) (hn : 0 ≤ a) : IntKind.u64.wrap a = a := by
  unfold InR at h; rw [IntKind.wrap_u64]; omega

set_option maxRecDepth 100000 in
set_option maxHeartbeats 2000000 in
/-- to the right, without a sign: from a number below 0 of 64 bits -/
theorem rush_neg (a : Int) (m : Nat) (w : World) (h : InR a) (hna : a < 0) (hm : m ≤ 64) : Calls Tryz.prog 64 #[.int .i64 11, .int .i64 a, .int .i64 m, .bool true] w fun e w' => e = .returned (.int .i64 (wrap64 ((a + 18446744073709551616) / 2 ^ m))) ∧ w = w' := by
  obtain ⟨U, hU⟩ : ∃ U, a + 18446744073709551616 = U := ⟨_, rfl⟩
  rw [hU]
  have hU0 : 9223372036854775808 ≤ U := by unfold InR at h; omega
  have hU1 : U < 18446744073709551616 := by omega
  have H0 : Hid (wrap64 U = a) := hid (by unfold wrap64; omega)
  have HH := hid (fun i => half_le (U := U) (by omega) i)
  have HW := hid (fun i => half_in (U := U) (by omega) hU1 i)
  have HF0 := hid (fun w => floor_any a 2 w (.inl rfl) h)
  have HF1 : Hid (wrap64 (a / 2 - -9223372036854775808) = U / 2) := hid (by unfold wrap64; omega)
  have hp : 0 ≤ U / 2 ∧ U / 2 ≤ 9223372036854775807 := by omega
  clear h hU
  go_enter Tryz.func64, Tryz.ntmps64
  go_wp2_with fail
  go_loopw [1, 10] (fun v i wr => ∃ k : Nat, k ≤ m ∧ i = .int .i64 k ∧ v = .int .i64 (wrap64 (U / 2 ^ k)) ∧ w = wr) (fun _ i _ => m - (intOf i).toNat)
  case atStart => exact ⟨0, Nat.zero_le _, rfl, by rw [Int.pow_zero, Int.ediv_one, H0.out], rfl⟩
  case round =>
    obtain ⟨k, hk, rfl, rfl, hww⟩ := hrel
    subst hww
    by_cases hlt : k < m
    · have hlt2 : (k : Int) < (m : Int) := by omega
      have hi : (0 : Int) ≤ (k : Int) := by omega
      cases k with
      | zero =>
        have e : wrap64 (U / 2 ^ 0) = a := by rw [Int.pow_zero, Int.ediv_one, H0.out]
        rw [e]
        have HE : Hid (wrap64 (U / 2 ^ (0 + 1)) = U / 2) := hid (by rw [HW.out 0]; rfl)
        clear e
        go_wp2_with fail
        refine (HF0.out _).mono ?_
        rintro e w2 ⟨rfl, hww⟩
        obtain rfl := hww.symm
        go_wp2
        go_roundw
        case rel => exact ⟨0 + 1, by omega, by go_num, by rw [HE.out]; try exact congrArg _ HF1.out, trivial⟩
        case measure => simp [intOf]; omega
      | succ k =>
        have HE : Hid (U / 2 ^ (k + 1) / 2 = wrap64 (U / 2 ^ (k + 1 + 1))) := hid (by rw [HW.out (k + 1), ediv_pow])
        rw [HW.out k]
        have hc0 := (HH.out (k + 1)).1
        have hc1 : U / 2 ^ (k + 1) ≤ 9223372036854775807 := by
          have h1 := (half_le (U := U / 2) hp.1 k).2
          have e : U / 2 ^ (k + 1) = U / 2 / 2 ^ k := by
            rw [Int.ediv_ediv_of_nonneg (by decide), Int.pow_succ, Int.mul_comm]
          rw [e]; omega
        generalize U / 2 ^ (k + 1) = c at HE hc0 hc1
        have hnc : ¬ c < 0 := by omega
        have hq : c.tdiv 2 = c / 2 := Int.tdiv_eq_ediv_of_nonneg hc0
        have hq2 : wrap64 (c / 2) = c / 2 := by unfold wrap64; omega
        have HQ2 := hid hq2
        go_wp2
        go_roundw
        case rel => exact ⟨k + 1 + 1, by omega, by go_num, by rw [← HE.out]; try exact congrArg _ HQ2.out, trivial⟩
        case measure => simp [intOf]; omega
    · have hge : ¬ (k : Int) < (m : Int) := by omega
      have e : k = m := by omega
      subst e
      go_wp2
      go_ret
      exact ⟨rfl, rfl⟩
set_option maxRecDepth 100000 in
set_option maxHeartbeats 2000000 in
/-- to the right, without a sign: from a number below 0 of 32 bits (of more bits: some number) -/
theorem rush_neg32 (a : Int) (m : Nat) (w : World) (h : InR a) (hna : a < 0) (hm : m ≤ 64) : Calls Tryz.prog 64 #[.int .i64 11, .int .i64 a, .int .i64 m, .bool false] w fun e w' => ∃ n, e = .returned (.int .i64 n) ∧ InR n ∧ (-4294967296 ≤ a → n = (a + 4294967296) / 2 ^ m) ∧ w = w' := by
  obtain ⟨U, hU⟩ : ∃ U, a + 4294967296 = U := ⟨_, rfl⟩
  rw [hU]
  have hw0 : wrap64 (a + 4294967296) = U := by unfold InR at h; unfold wrap64; omega
  have HU : Hid (InR U ∧ (-4294967296 ≤ a → 0 ≤ U)) := hid ⟨by unfold InR at *; omega, by omega⟩
  have HH : Hid (0 ≤ U → ∀ i : Nat, 0 ≤ U / 2 ^ i) := hid (fun h i => (half_le h i).1)
  have HE := hid (fun i => ediv_pow U i)
  have HW0 := hid hw0
  clear h hU hw0
  go_enter Tryz.func64, Tryz.ntmps64
  go_wp2_with fail
  go_loopw [1, 10] (fun v i wr => ∃ (k : Nat) (c : Int), k ≤ m ∧ i = .int .i64 k ∧ v = .int .i64 c ∧ Hid (InR c ∧ (-4294967296 ≤ a → c = U / 2 ^ k)) ∧ w = wr) (fun _ i _ => m - (intOf i).toNat)
  case atStart => exact ⟨0, U, Nat.zero_le _, rfl, congrArg _ HW0.out, hid ⟨HU.out.1, fun _ => by rw [Int.pow_zero, Int.ediv_one]⟩, rfl⟩
  case round =>
    obtain ⟨k, c, hk, rfl, rfl, HC, hww⟩ := hrel
    subst hww
    by_cases hlt : k < m
    · have hlt2 : (k : Int) < (m : Int) := by omega
      have hi : (0 : Int) ≤ (k : Int) := by omega
      by_cases hc : c < 0
      · have HNO : Hid (¬ -4294967296 ≤ a) := hid (fun h => by have h1 := HC.out.2 h; have h2 := HH.out (HU.out.2 h) k; omega)
        go_wp2_with fail
        refine (floor_any c 2 _ (.inl rfl) HC.out.1).mono ?_
        rintro e w2 ⟨rfl, hww⟩
        obtain rfl := hww.symm
        go_wp2
        go_roundw
        case rel => exact ⟨k + 1, _, by omega, by go_num, rfl, hid ⟨in_wrap _, fun h => by have := HNO.out; omega⟩, trivial⟩
        case measure => simp [intOf]; omega
      · have hq : c.tdiv 2 = c / 2 := Int.tdiv_eq_ediv_of_nonneg (by omega)
        have HQ2 : Hid (wrap64 (c / 2) = c / 2) := hid (by have := HC.out.1; unfold InR at this; unfold wrap64; omega)
        go_wp2
        go_roundw
        case rel => exact ⟨k + 1, c / 2, by omega, by go_num, by try exact congrArg _ HQ2.out, hid ⟨by have := HC.out.1; unfold InR at *; omega, fun h => by rw [HC.out.2 h, HE.out k]⟩, trivial⟩
        case measure => simp [intOf]; omega
    · have hge : ¬ (k : Int) < (m : Int) := by omega
      have e : k = m := by omega
      subst e
      go_wp2
      go_ret
      exact ⟨_, rfl, HC.out.1, HC.out.2, rfl⟩
end Go.Proofs.YtogpgfaojmmemaaGreatDoor.nums

/- Numbers, as the document does them: MathOf answers as num.Of does. Conditions: the numbers are of 64 bits, the type is I or J, the operation is one of the twelve; where the type is I, the first number is of 32 bits. -/
set_option linter.unusedSimpArgs false
set_option linter.unusedVariables false
namespace Go.Proofs.YtogpgfaojmmemaaGreatDoor.nums
open Go.RowKit Go.Proofs.YtogpgfaojmmemaaGreatDoor.lib

/-- a - a/b*b, round 64 bits, is the rest -/
theorem rem_is {a b : Int} (ha : InR a) (hb : InR b) (h0 : b ≠ 0) : wrap64 (a - wrap64 (wrap64 (a.tdiv b) * b)) = a.tmod b := by
  have h1 : wrap64 (a.tmod b) = a.tmod b := wrap_in (tmod_in ha hb h0)
  have h2 : a.tmod b = a - b * a.tdiv b := by have := Int.mul_tdiv_add_tmod a b; omega
  obtain ⟨q, hq⟩ : ∃ q, a.tdiv b = q := ⟨_, rfl⟩
  rw [hq] at h2 ⊢
  obtain ⟨s, hs⟩ : ∃ s, wrap64 q = q + 18446744073709551616 * s := ⟨-((q + 9223372036854775808) / 18446744073709551616), by unfold wrap64; omega⟩
  obtain ⟨u, hu⟩ : ∃ u, wrap64 (wrap64 q * b) = wrap64 q * b + 18446744073709551616 * u := ⟨-((wrap64 q * b + 9223372036854775808) / 18446744073709551616), by unfold wrap64; omega⟩
  have hmul : wrap64 q * b = b * q + 18446744073709551616 * (s * b) := by rw [hs, Int.add_mul, Int.mul_comm q b, Int.mul_assoc]
  rw [hu, hmul]
  rw [h2] at h1 ⊢
  generalize b * q = x at h1 ⊢
  generalize s * b = y
  unfold wrap64 at h1 ⊢
  omega
theorem two_rem (b : Int) : (b.tmod 64 + 64).tmod 64 = b % 64 := by
  have h1 : 0 ≤ b.tmod 64 + 64 := by
    have h2 : (b.tmod 64).natAbs = b.natAbs % 64 := Int.natAbs_tmod ..
    omega
  rw [Int.tmod_eq_emod_of_nonneg h1]
  have h3 := Int.mul_tdiv_add_tmod b 64
  omega
theorem two_rem32 (b : Int) : (b.tmod 32 + 32).tmod 32 = b % 32 := by
  have h1 : 0 ≤ b.tmod 32 + 32 := by
    have h2 : (b.tmod 32).natAbs = b.natAbs % 32 := Int.natAbs_tmod ..
    omega
  rw [Int.tmod_eq_emod_of_nonneg h1]
  have h3 := Int.mul_tdiv_add_tmod b 32
  omega
theorem rem_small (b : Int) (n : Int) (hn : n = 64 ∨ n = 32) : wrap64 (b.tmod n + n) = b.tmod n + n := by
  have h2 := Int.natAbs_tmod (a := b) (b := n)
  have h3 : b.natAbs % n.natAbs < n.natAbs := Nat.mod_lt _ (by omega)
  unfold wrap64; omega

end Go.Proofs.YtogpgfaojmmemaaGreatDoor.nums

/- Numbers, as the document does them: MathOf answers as num.Of does. Conditions: the numbers are of 64 bits, the type is I or J, the operation is one of the twelve; where the type is I, the first number is of 32 bits. -/
set_option linter.unusedSimpArgs false
set_option linter.unusedVariables false
namespace Go.Proofs.YtogpgfaojmmemaaGreatDoor.nums
open Go.RowKit Go.Proofs.YtogpgfaojmmemaaGreatDoor.lib

set_option maxHeartbeats 1000000 in
theorem rm1J (t : ByteArray) (a b : Int) (w : World) (hT : t.data.toList = [74]) (ha : InR a) (hb : InR b) :
    Calls Tryz.prog 27 #[.string t, .int .i64 1, .int .i64 a, .int .i64 b] w fun e w' => ∃ n, e = .returned (.tuple #[.int .i64 n, .bool (ofOf t.data.toList 1 a b).2]) ∧ (t.data.toList = [74] ∨ -2147483648 ≤ a ∧ a ≤ 2147483647 → n = (ofOf t.data.toList 1 a b).1) ∧ w = w' := by
  have h1 : (t.toList == [74]) = true := by rw [ByteArray.toList_eq, hT]; rfl
  have HZ : Hid (ofOf t.data.toList 1 a b = (wrap64 (a + b), true)) := hid (by unfold ofOf wholeOf; simp [hT])
  clear hT ha hb
  go_enter Tryz.func27, Tryz.ntmps27
  go_wp2
  go_ret2
  rw [HZ.out]
  exact ⟨_, rfl, fun _ => rfl, rfl⟩

set_option maxHeartbeats 1000000 in
theorem rm2J (t : ByteArray) (a b : Int) (w : World) (hT : t.data.toList = [74]) (ha : InR a) (hb : InR b) :
    Calls Tryz.prog 27 #[.string t, .int .i64 2, .int .i64 a, .int .i64 b] w fun e w' => ∃ n, e = .returned (.tuple #[.int .i64 n, .bool (ofOf t.data.toList 2 a b).2]) ∧ (t.data.toList = [74] ∨ -2147483648 ≤ a ∧ a ≤ 2147483647 → n = (ofOf t.data.toList 2 a b).1) ∧ w = w' := by
  have h1 : (t.toList == [74]) = true := by rw [ByteArray.toList_eq, hT]; rfl
  have HZ : Hid (ofOf t.data.toList 2 a b = (wrap64 (a - b), true)) := hid (by unfold ofOf wholeOf; simp [hT])
  clear hT ha hb
  go_enter Tryz.func27, Tryz.ntmps27
  go_wp2
  go_ret2
  rw [HZ.out]
  exact ⟨_, rfl, fun _ => rfl, rfl⟩

set_option maxHeartbeats 1000000 in
theorem rm3J (t : ByteArray) (a b : Int) (w : World) (hT : t.data.toList = [74]) (ha : InR a) (hb : InR b) :
    Calls Tryz.prog 27 #[.string t, .int .i64 3, .int .i64 a, .int .i64 b] w fun e w' => ∃ n, e = .returned (.tuple #[.int .i64 n, .bool (ofOf t.data.toList 3 a b).2]) ∧ (t.data.toList = [74] ∨ -2147483648 ≤ a ∧ a ≤ 2147483647 → n = (ofOf t.data.toList 3 a b).1) ∧ w = w' := by
  have h1 : (t.toList == [74]) = true := by rw [ByteArray.toList_eq, hT]; rfl
  have HZ : Hid (ofOf t.data.toList 3 a b = (wrap64 (a * b), true)) := hid (by unfold ofOf wholeOf; simp [hT])
  clear hT ha hb
  go_enter Tryz.func27, Tryz.ntmps27
  go_wp2
  go_ret2
  rw [HZ.out]
  exact ⟨_, rfl, fun _ => rfl, rfl⟩

set_option maxHeartbeats 1000000 in
theorem rm6J (t : ByteArray) (a b : Int) (w : World) (hT : t.data.toList = [74]) (ha : InR a) (hb : InR b) :
    Calls Tryz.prog 27 #[.string t, .int .i64 6, .int .i64 a, .int .i64 b] w fun e w' => ∃ n, e = .returned (.tuple #[.int .i64 n, .bool (ofOf t.data.toList 6 a b).2]) ∧ (t.data.toList = [74] ∨ -2147483648 ≤ a ∧ a ≤ 2147483647 → n = (ofOf t.data.toList 6 a b).1) ∧ w = w' := by
  have h1 : (t.toList == [74]) = true := by rw [ByteArray.toList_eq, hT]; rfl
  have HZ : Hid (ofOf t.data.toList 6 a b = (bits .and .i64 a b, true)) := hid (by unfold ofOf wholeOf; simp [hT])
  clear hT ha hb
  go_enter Tryz.func27, Tryz.ntmps27
  go_wp2
  go_ret2
  rw [HZ.out]
  exact ⟨_, rfl, fun _ => rfl, rfl⟩

set_option maxHeartbeats 1000000 in
theorem rm7J (t : ByteArray) (a b : Int) (w : World) (hT : t.data.toList = [74]) (ha : InR a) (hb : InR b) :
    Calls Tryz.prog 27 #[.string t, .int .i64 7, .int .i64 a, .int .i64 b] w fun e w' => ∃ n, e = .returned (.tuple #[.int .i64 n, .bool (ofOf t.data.toList 7 a b).2]) ∧ (t.data.toList = [74] ∨ -2147483648 ≤ a ∧ a ≤ 2147483647 → n = (ofOf t.data.toList 7 a b).1) ∧ w = w' := by
  have h1 : (t.toList == [74]) = true := by rw [ByteArray.toList_eq, hT]; rfl
  have HZ : Hid (ofOf t.data.toList 7 a b = (bits .or .i64 a b, true)) := hid (by unfold ofOf wholeOf; simp [hT])
  clear hT ha hb
  go_enter Tryz.func27, Tryz.ntmps27
  go_wp2
  go_ret2
  rw [HZ.out]
  exact ⟨_, rfl, fun _ => rfl, rfl⟩

set_option maxHeartbeats 1000000 in
theorem rm8J (t : ByteArray) (a b : Int) (w : World) (hT : t.data.toList = [74]) (ha : InR a) (hb : InR b) :
    Calls Tryz.prog 27 #[.string t, .int .i64 8, .int .i64 a, .int .i64 b] w fun e w' => ∃ n, e = .returned (.tuple #[.int .i64 n, .bool (ofOf t.data.toList 8 a b).2]) ∧ (t.data.toList = [74] ∨ -2147483648 ≤ a ∧ a ≤ 2147483647 → n = (ofOf t.data.toList 8 a b).1) ∧ w = w' := by
  have h1 : (t.toList == [74]) = true := by rw [ByteArray.toList_eq, hT]; rfl
  have HZ : Hid (ofOf t.data.toList 8 a b = (bits .xor .i64 a b, true)) := hid (by unfold ofOf wholeOf; simp [hT])
  clear hT ha hb
  go_enter Tryz.func27, Tryz.ntmps27
  go_wp2
  go_ret2
  rw [HZ.out]
  exact ⟨_, rfl, fun _ => rfl, rfl⟩

set_option maxHeartbeats 1000000 in
theorem rm12J (t : ByteArray) (a b : Int) (w : World) (hT : t.data.toList = [74]) (ha : InR a) (hb : InR b) :
    Calls Tryz.prog 27 #[.string t, .int .i64 12, .int .i64 a, .int .i64 b] w fun e w' => ∃ n, e = .returned (.tuple #[.int .i64 n, .bool (ofOf t.data.toList 12 a b).2]) ∧ (t.data.toList = [74] ∨ -2147483648 ≤ a ∧ a ≤ 2147483647 → n = (ofOf t.data.toList 12 a b).1) ∧ w = w' := by
  have h1 : (t.toList == [74]) = true := by rw [ByteArray.toList_eq, hT]; rfl
  have HZ : Hid (ofOf t.data.toList 12 a b = (wrap64 (-a), true)) := hid (by unfold ofOf wholeOf; simp [hT])
  clear hT ha hb
  go_enter Tryz.func27, Tryz.ntmps27
  go_wp2
  go_ret2
  rw [HZ.out]
  exact ⟨_, rfl, fun _ => rfl, rfl⟩

set_option maxHeartbeats 1000000 in
theorem rm4J (t : ByteArray) (a b : Int) (w : World) (hT : t.data.toList = [74]) (h0 : b ≠ 0) (ha : InR a) (hb : InR b) :
    Calls Tryz.prog 27 #[.string t, .int .i64 4, .int .i64 a, .int .i64 b] w fun e w' => ∃ n, e = .returned (.tuple #[.int .i64 n, .bool (ofOf t.data.toList 4 a b).2]) ∧ (t.data.toList = [74] ∨ -2147483648 ≤ a ∧ a ≤ 2147483647 → n = (ofOf t.data.toList 4 a b).1) ∧ w = w' := by
  have h1 : (t.toList == [74]) = true := by rw [ByteArray.toList_eq, hT]; rfl
  have HZ : Hid (ofOf t.data.toList 4 a b = (wrap64 (a.tdiv b), true)) := hid (by unfold ofOf wholeOf; simp [hT, h0])
  have hb0 : (b == 0) = false := by simpa using h0
  clear hT ha hb
  go_enter Tryz.func27, Tryz.ntmps27
  go_wp2
  go_ret2
  rw [HZ.out]
  exact ⟨_, rfl, fun _ => rfl, rfl⟩

set_option maxHeartbeats 1000000 in
theorem rm5J (t : ByteArray) (a b : Int) (w : World) (hT : t.data.toList = [74]) (h0 : b ≠ 0) (ha : InR a) (hb : InR b) :
    Calls Tryz.prog 27 #[.string t, .int .i64 5, .int .i64 a, .int .i64 b] w fun e w' => ∃ n, e = .returned (.tuple #[.int .i64 n, .bool (ofOf t.data.toList 5 a b).2]) ∧ (t.data.toList = [74] ∨ -2147483648 ≤ a ∧ a ≤ 2147483647 → n = (ofOf t.data.toList 5 a b).1) ∧ w = w' := by
  have h1 : (t.toList == [74]) = true := by rw [ByteArray.toList_eq, hT]; rfl
  have HZ : Hid (ofOf t.data.toList 5 a b = (a.tmod b, true)) := hid (by unfold ofOf wholeOf; simp [hT, h0])
  have hb0 : (b == 0) = false := by simpa using h0
  have hrem := rem_is ha hb h0
  have HT := hid (tmod_in ha hb h0)
  have HQ := hid (rem_is ha hb h0)
  clear hT ha hb
  go_enter Tryz.func27, Tryz.ntmps27
  go_wp2
  go_ret2
  rw [HZ.out]
  exact ⟨_, rfl, fun _ => by first | rfl | exact HQ.out | exact congrArg wrap32 HQ.out, rfl⟩

end Go.Proofs.YtogpgfaojmmemaaGreatDoor.nums

/- Numbers, as the document does them: MathOf answers as num.Of does. Conditions: the numbers are of 64 bits, the type is I or J, the operation is one of the twelve; where the type is I, the first number is of 32 bits. -/
set_option linter.unusedSimpArgs false
set_option linter.unusedVariables false
namespace Go.Proofs.YtogpgfaojmmemaaGreatDoor.nums
open Go.RowKit Go.Proofs.YtogpgfaojmmemaaGreatDoor.lib

set_option maxHeartbeats 1000000 in
theorem rm1I (t : ByteArray) (a b : Int) (w : World) (hT : t.data.toList = [73]) (ha : InR a) (hb : InR b) :
    Calls Tryz.prog 27 #[.string t, .int .i64 1, .int .i64 a, .int .i64 b] w fun e w' => ∃ n, e = .returned (.tuple #[.int .i64 n, .bool (ofOf t.data.toList 1 a b).2]) ∧ (t.data.toList = [74] ∨ -2147483648 ≤ a ∧ a ≤ 2147483647 → n = (ofOf t.data.toList 1 a b).1) ∧ w = w' := by
  have h1 : (t.toList == [74]) = false := by rw [ByteArray.toList_eq, hT]; rfl
  have HZ : Hid (ofOf t.data.toList 1 a b = (wrap32 (wrap64 (a + b)), true)) := hid (by unfold ofOf wholeOf; simp [hT])
  clear hT ha hb
  go_enter Tryz.func27, Tryz.ntmps27
  go_wp2_with fail
  refine (wrap_any _ _ (by first | exact in_wrap _ | exact in_wrap _)).mono ?_
  rintro e w2 ⟨rfl, hww⟩
  obtain rfl := hww.symm
  go_wp2
  go_ret2
  rw [HZ.out]
  exact ⟨_, rfl, fun _ => rfl, rfl⟩

set_option maxHeartbeats 1000000 in
theorem rm2I (t : ByteArray) (a b : Int) (w : World) (hT : t.data.toList = [73]) (ha : InR a) (hb : InR b) :
    Calls Tryz.prog 27 #[.string t, .int .i64 2, .int .i64 a, .int .i64 b] w fun e w' => ∃ n, e = .returned (.tuple #[.int .i64 n, .bool (ofOf t.data.toList 2 a b).2]) ∧ (t.data.toList = [74] ∨ -2147483648 ≤ a ∧ a ≤ 2147483647 → n = (ofOf t.data.toList 2 a b).1) ∧ w = w' := by
  have h1 : (t.toList == [74]) = false := by rw [ByteArray.toList_eq, hT]; rfl
  have HZ : Hid (ofOf t.data.toList 2 a b = (wrap32 (wrap64 (a - b)), true)) := hid (by unfold ofOf wholeOf; simp [hT])
  clear hT ha hb
  go_enter Tryz.func27, Tryz.ntmps27
  go_wp2_with fail
  refine (wrap_any _ _ (by first | exact in_wrap _ | exact in_wrap _)).mono ?_
  rintro e w2 ⟨rfl, hww⟩
  obtain rfl := hww.symm
  go_wp2
  go_ret2
  rw [HZ.out]
  exact ⟨_, rfl, fun _ => rfl, rfl⟩

set_option maxHeartbeats 1000000 in
theorem rm3I (t : ByteArray) (a b : Int) (w : World) (hT : t.data.toList = [73]) (ha : InR a) (hb : InR b) :
    Calls Tryz.prog 27 #[.string t, .int .i64 3, .int .i64 a, .int .i64 b] w fun e w' => ∃ n, e = .returned (.tuple #[.int .i64 n, .bool (ofOf t.data.toList 3 a b).2]) ∧ (t.data.toList = [74] ∨ -2147483648 ≤ a ∧ a ≤ 2147483647 → n = (ofOf t.data.toList 3 a b).1) ∧ w = w' := by
  have h1 : (t.toList == [74]) = false := by rw [ByteArray.toList_eq, hT]; rfl
  have HZ : Hid (ofOf t.data.toList 3 a b = (wrap32 (wrap64 (a * b)), true)) := hid (by unfold ofOf wholeOf; simp [hT])
  clear hT ha hb
  go_enter Tryz.func27, Tryz.ntmps27
  go_wp2_with fail
  refine (wrap_any _ _ (by first | exact in_wrap _ | exact in_wrap _)).mono ?_
  rintro e w2 ⟨rfl, hww⟩
  obtain rfl := hww.symm
  go_wp2
  go_ret2
  rw [HZ.out]
  exact ⟨_, rfl, fun _ => rfl, rfl⟩

set_option maxHeartbeats 1000000 in
theorem rm6I (t : ByteArray) (a b : Int) (w : World) (hT : t.data.toList = [73]) (ha : InR a) (hb : InR b) :
    Calls Tryz.prog 27 #[.string t, .int .i64 6, .int .i64 a, .int .i64 b] w fun e w' => ∃ n, e = .returned (.tuple #[.int .i64 n, .bool (ofOf t.data.toList 6 a b).2]) ∧ (t.data.toList = [74] ∨ -2147483648 ≤ a ∧ a ≤ 2147483647 → n = (ofOf t.data.toList 6 a b).1) ∧ w = w' := by
  have h1 : (t.toList == [74]) = false := by rw [ByteArray.toList_eq, hT]; rfl
  have HZ : Hid (ofOf t.data.toList 6 a b = (wrap32 (bits .and .i64 a b), true)) := hid (by unfold ofOf wholeOf; simp [hT])
  clear hT ha hb
  go_enter Tryz.func27, Tryz.ntmps27
  go_wp2_with fail
  refine (wrap_any _ _ (by first | exact bits_in _ _ _ | exact in_wrap _)).mono ?_
  rintro e w2 ⟨rfl, hww⟩
  obtain rfl := hww.symm
  go_wp2
  go_ret2
  rw [HZ.out]
  exact ⟨_, rfl, fun _ => rfl, rfl⟩

set_option maxHeartbeats 1000000 in
theorem rm7I (t : ByteArray) (a b : Int) (w : World) (hT : t.data.toList = [73]) (ha : InR a) (hb : InR b) :
    Calls Tryz.prog 27 #[.string t, .int .i64 7, .int .i64 a, .int .i64 b] w fun e w' => ∃ n, e = .returned (.tuple #[.int .i64 n, .bool (ofOf t.data.toList 7 a b).2]) ∧ (t.data.toList = [74] ∨ -2147483648 ≤ a ∧ a ≤ 2147483647 → n = (ofOf t.data.toList 7 a b).1) ∧ w = w' := by
  have h1 : (t.toList == [74]) = false := by rw [ByteArray.toList_eq, hT]; rfl
  have HZ : Hid (ofOf t.data.toList 7 a b = (wrap32 (bits .or .i64 a b), true)) := hid (by unfold ofOf wholeOf; simp [hT])
  clear hT ha hb
  go_enter Tryz.func27, Tryz.ntmps27
  go_wp2_with fail
  refine (wrap_any _ _ (by first | exact bits_in _ _ _ | exact in_wrap _)).mono ?_
  rintro e w2 ⟨rfl, hww⟩
  obtain rfl := hww.symm
  go_wp2
  go_ret2
  rw [HZ.out]
  exact ⟨_, rfl, fun _ => rfl, rfl⟩

set_option maxHeartbeats 1000000 in
theorem rm8I (t : ByteArray) (a b : Int) (w : World) (hT : t.data.toList = [73]) (ha : InR a) (hb : InR b) :
    Calls Tryz.prog 27 #[.string t, .int .i64 8, .int .i64 a, .int .i64 b] w fun e w' => ∃ n, e = .returned (.tuple #[.int .i64 n, .bool (ofOf t.data.toList 8 a b).2]) ∧ (t.data.toList = [74] ∨ -2147483648 ≤ a ∧ a ≤ 2147483647 → n = (ofOf t.data.toList 8 a b).1) ∧ w = w' := by
  have h1 : (t.toList == [74]) = false := by rw [ByteArray.toList_eq, hT]; rfl
  have HZ : Hid (ofOf t.data.toList 8 a b = (wrap32 (bits .xor .i64 a b), true)) := hid (by unfold ofOf wholeOf; simp [hT])
  clear hT ha hb
  go_enter Tryz.func27, Tryz.ntmps27
  go_wp2_with fail
  refine (wrap_any _ _ (by first | exact bits_in _ _ _ | exact in_wrap _)).mono ?_
  rintro e w2 ⟨rfl, hww⟩
  obtain rfl := hww.symm
  go_wp2
  go_ret2
  rw [HZ.out]
  exact ⟨_, rfl, fun _ => rfl, rfl⟩

set_option maxHeartbeats 1000000 in
theorem rm12I (t : ByteArray) (a b : Int) (w : World) (hT : t.data.toList = [73]) (ha : InR a) (hb : InR b) :
    Calls Tryz.prog 27 #[.string t, .int .i64 12, .int .i64 a, .int .i64 b] w fun e w' => ∃ n, e = .returned (.tuple #[.int .i64 n, .bool (ofOf t.data.toList 12 a b).2]) ∧ (t.data.toList = [74] ∨ -2147483648 ≤ a ∧ a ≤ 2147483647 → n = (ofOf t.data.toList 12 a b).1) ∧ w = w' := by
  have h1 : (t.toList == [74]) = false := by rw [ByteArray.toList_eq, hT]; rfl
  have HZ : Hid (ofOf t.data.toList 12 a b = (wrap32 (wrap64 (-a)), true)) := hid (by unfold ofOf wholeOf; simp [hT])
  clear hT ha hb
  go_enter Tryz.func27, Tryz.ntmps27
  go_wp2_with fail
  refine (wrap_any _ _ (by first | exact in_wrap _ | exact in_wrap _)).mono ?_
  rintro e w2 ⟨rfl, hww⟩
  obtain rfl := hww.symm
  go_wp2
  go_ret2
  rw [HZ.out]
  exact ⟨_, rfl, fun _ => rfl, rfl⟩

set_option maxHeartbeats 1000000 in
theorem rm4I (t : ByteArray) (a b : Int) (w : World) (hT : t.data.toList = [73]) (h0 : b ≠ 0) (ha : InR a) (hb : InR b) :
    Calls Tryz.prog 27 #[.string t, .int .i64 4, .int .i64 a, .int .i64 b] w fun e w' => ∃ n, e = .returned (.tuple #[.int .i64 n, .bool (ofOf t.data.toList 4 a b).2]) ∧ (t.data.toList = [74] ∨ -2147483648 ≤ a ∧ a ≤ 2147483647 → n = (ofOf t.data.toList 4 a b).1) ∧ w = w' := by
  have h1 : (t.toList == [74]) = false := by rw [ByteArray.toList_eq, hT]; rfl
  have HZ : Hid (ofOf t.data.toList 4 a b = (wrap32 (wrap64 (a.tdiv b)), true)) := hid (by unfold ofOf wholeOf; simp [hT, h0])
  have hb0 : (b == 0) = false := by simpa using h0
  clear hT ha hb
  go_enter Tryz.func27, Tryz.ntmps27
  go_wp2_with fail
  refine (wrap_any _ _ (by first | exact in_wrap _ | exact in_wrap _)).mono ?_
  rintro e w2 ⟨rfl, hww⟩
  obtain rfl := hww.symm
  go_wp2
  go_ret2
  rw [HZ.out]
  exact ⟨_, rfl, fun _ => rfl, rfl⟩

set_option maxHeartbeats 1000000 in
theorem rm5I (t : ByteArray) (a b : Int) (w : World) (hT : t.data.toList = [73]) (h0 : b ≠ 0) (ha : InR a) (hb : InR b) :
    Calls Tryz.prog 27 #[.string t, .int .i64 5, .int .i64 a, .int .i64 b] w fun e w' => ∃ n, e = .returned (.tuple #[.int .i64 n, .bool (ofOf t.data.toList 5 a b).2]) ∧ (t.data.toList = [74] ∨ -2147483648 ≤ a ∧ a ≤ 2147483647 → n = (ofOf t.data.toList 5 a b).1) ∧ w = w' := by
  have h1 : (t.toList == [74]) = false := by rw [ByteArray.toList_eq, hT]; rfl
  have HZ : Hid (ofOf t.data.toList 5 a b = (wrap32 (a.tmod b), true)) := hid (by unfold ofOf wholeOf; simp [hT, h0])
  have hb0 : (b == 0) = false := by simpa using h0
  have hrem := rem_is ha hb h0
  have HT := hid (tmod_in ha hb h0)
  have HQ := hid (rem_is ha hb h0)
  clear hT ha hb
  go_enter Tryz.func27, Tryz.ntmps27
  go_wp2_with fail
  refine (wrap_any _ _ (by first | exact HT.out | exact in_wrap _)).mono ?_
  rintro e w2 ⟨rfl, hww⟩
  obtain rfl := hww.symm
  go_wp2
  go_ret2
  rw [HZ.out]
  exact ⟨_, rfl, fun _ => by first | rfl | exact HQ.out | exact congrArg wrap32 HQ.out, rfl⟩

end Go.Proofs.YtogpgfaojmmemaaGreatDoor.nums

/- Numbers, as the document does them: MathOf answers as num.Of does. Conditions: the numbers are of 64 bits, the type is I or J, the operation is one of the twelve; where the type is I, the first number is of 32 bits. -/
set_option linter.unusedSimpArgs false
set_option linter.unusedVariables false
namespace Go.Proofs.YtogpgfaojmmemaaGreatDoor.nums
open Go.RowKit Go.Proofs.YtogpgfaojmmemaaGreatDoor.lib

set_option maxHeartbeats 1000000 in
theorem rz4J (t : ByteArray) (a b : Int) (w : World) (hT : t.data.toList = [74]) (h0 : b = 0) (ha : InR a) (hb : InR b) :
    Calls Tryz.prog 27 #[.string t, .int .i64 4, .int .i64 a, .int .i64 b] w fun e w' => ∃ n, e = .returned (.tuple #[.int .i64 n, .bool (ofOf t.data.toList 4 a b).2]) ∧ (t.data.toList = [74] ∨ -2147483648 ≤ a ∧ a ≤ 2147483647 → n = (ofOf t.data.toList 4 a b).1) ∧ w = w' := by
  subst h0
  have h1 : (t.toList == [74]) = true := by rw [ByteArray.toList_eq, hT]; rfl
  have HZ : Hid (ofOf t.data.toList 4 a 0 = (0, false)) := hid (by unfold ofOf wholeOf; simp [hT, wrap32])
  clear hT ha hb
  go_enter Tryz.func27, Tryz.ntmps27
  go_wp2
  go_ret2
  rw [HZ.out]
  exact ⟨_, rfl, fun _ => rfl, rfl⟩

set_option maxHeartbeats 1000000 in
theorem rz4I (t : ByteArray) (a b : Int) (w : World) (hT : t.data.toList = [73]) (h0 : b = 0) (ha : InR a) (hb : InR b) :
    Calls Tryz.prog 27 #[.string t, .int .i64 4, .int .i64 a, .int .i64 b] w fun e w' => ∃ n, e = .returned (.tuple #[.int .i64 n, .bool (ofOf t.data.toList 4 a b).2]) ∧ (t.data.toList = [74] ∨ -2147483648 ≤ a ∧ a ≤ 2147483647 → n = (ofOf t.data.toList 4 a b).1) ∧ w = w' := by
  subst h0
  have h1 : (t.toList == [74]) = false := by rw [ByteArray.toList_eq, hT]; rfl
  have HZ : Hid (ofOf t.data.toList 4 a 0 = (0, false)) := hid (by unfold ofOf wholeOf; simp [hT, wrap32])
  clear hT ha hb
  go_enter Tryz.func27, Tryz.ntmps27
  go_wp2
  go_ret2
  rw [HZ.out]
  exact ⟨_, rfl, fun _ => rfl, rfl⟩

set_option maxHeartbeats 1000000 in
theorem rz5J (t : ByteArray) (a b : Int) (w : World) (hT : t.data.toList = [74]) (h0 : b = 0) (ha : InR a) (hb : InR b) :
    Calls Tryz.prog 27 #[.string t, .int .i64 5, .int .i64 a, .int .i64 b] w fun e w' => ∃ n, e = .returned (.tuple #[.int .i64 n, .bool (ofOf t.data.toList 5 a b).2]) ∧ (t.data.toList = [74] ∨ -2147483648 ≤ a ∧ a ≤ 2147483647 → n = (ofOf t.data.toList 5 a b).1) ∧ w = w' := by
  subst h0
  have h1 : (t.toList == [74]) = true := by rw [ByteArray.toList_eq, hT]; rfl
  have HZ : Hid (ofOf t.data.toList 5 a 0 = (0, false)) := hid (by unfold ofOf wholeOf; simp [hT, wrap32])
  clear hT ha hb
  go_enter Tryz.func27, Tryz.ntmps27
  go_wp2
  go_ret2
  rw [HZ.out]
  exact ⟨_, rfl, fun _ => rfl, rfl⟩

set_option maxHeartbeats 1000000 in
theorem rz5I (t : ByteArray) (a b : Int) (w : World) (hT : t.data.toList = [73]) (h0 : b = 0) (ha : InR a) (hb : InR b) :
    Calls Tryz.prog 27 #[.string t, .int .i64 5, .int .i64 a, .int .i64 b] w fun e w' => ∃ n, e = .returned (.tuple #[.int .i64 n, .bool (ofOf t.data.toList 5 a b).2]) ∧ (t.data.toList = [74] ∨ -2147483648 ≤ a ∧ a ≤ 2147483647 → n = (ofOf t.data.toList 5 a b).1) ∧ w = w' := by
  subst h0
  have h1 : (t.toList == [74]) = false := by rw [ByteArray.toList_eq, hT]; rfl
  have HZ : Hid (ofOf t.data.toList 5 a 0 = (0, false)) := hid (by unfold ofOf wholeOf; simp [hT, wrap32])
  clear hT ha hb
  go_enter Tryz.func27, Tryz.ntmps27
  go_wp2
  go_ret2
  rw [HZ.out]
  exact ⟨_, rfl, fun _ => rfl, rfl⟩

set_option maxHeartbeats 1000000 in
theorem rm9J (t : ByteArray) (a b : Int) (w : World) (hT : t.data.toList = [74])  (ha : InR a) (hb : InR b) :
    Calls Tryz.prog 27 #[.string t, .int .i64 9, .int .i64 a, .int .i64 b] w fun e w' => ∃ n, e = .returned (.tuple #[.int .i64 n, .bool (ofOf t.data.toList 9 a b).2]) ∧ (t.data.toList = [74] ∨ -2147483648 ≤ a ∧ a ≤ 2147483647 → n = (ofOf t.data.toList 9 a b).1) ∧ w = w' := by
  have h1 : (t.toList == [74]) = true := by rw [ByteArray.toList_eq, hT]; rfl
  have hr1 := rem_small b 64 (by simp)
  have hr2 := two_rem b
  obtain ⟨m, hM⟩ : ∃ m : Nat, b % 64 = (m : Int) := ⟨(b % 64).toNat, by omega⟩
  have hm64 : m ≤ 64 := by omega
  rw [hM] at hr2
  have HZ : Hid (ofOf t.data.toList 9 a b = (shiftOf 9 a m true, true)) := hid (by unfold ofOf; simp [hT, hM, show (([74] : List UInt8) != [73]) = true from rfl])
  have HA := hid ha
  clear hT ha hb hM
  go_enter Tryz.func27, Tryz.ntmps27
  go_wp2_with fail
  refine (rshl_any a m true _ HA.out hm64).mono ?_
  rintro e w2 ⟨rfl, hww⟩
  obtain rfl := hww.symm
  go_wp2
  go_ret2
  rw [HZ.out]
  exact ⟨_, rfl, fun _ => rfl, rfl⟩

set_option maxHeartbeats 1000000 in
theorem rm9I (t : ByteArray) (a b : Int) (w : World) (hT : t.data.toList = [73])  (ha : InR a) (hb : InR b) :
    Calls Tryz.prog 27 #[.string t, .int .i64 9, .int .i64 a, .int .i64 b] w fun e w' => ∃ n, e = .returned (.tuple #[.int .i64 n, .bool (ofOf t.data.toList 9 a b).2]) ∧ (t.data.toList = [74] ∨ -2147483648 ≤ a ∧ a ≤ 2147483647 → n = (ofOf t.data.toList 9 a b).1) ∧ w = w' := by
  have h1 : (t.toList == [74]) = false := by rw [ByteArray.toList_eq, hT]; rfl
  have hr1 := rem_small b 32 (by simp)
  have hr2 := two_rem32 b
  obtain ⟨m, hM⟩ : ∃ m : Nat, b % 32 = (m : Int) := ⟨(b % 32).toNat, by omega⟩
  have hm64 : m ≤ 64 := by omega
  rw [hM] at hr2
  have HZ : Hid (ofOf t.data.toList 9 a b = (wrap32 (shiftOf 9 a m false), true)) := hid (by unfold ofOf; simp [hT, hM, show (([74] : List UInt8) != [73]) = true from rfl])
  have HA := hid ha
  clear hT ha hb hM
  go_enter Tryz.func27, Tryz.ntmps27
  go_wp2_with fail
  refine (rshl_any a m false _ HA.out hm64).mono ?_
  rintro e w2 ⟨rfl, hww⟩
  obtain rfl := hww.symm
  go_wp2_with fail
  refine (wrap_any _ _ (in_wrap _)).mono ?_
  rintro e w2 ⟨rfl, hww⟩
  obtain rfl := hww.symm
  go_wp2
  go_ret2
  rw [HZ.out]
  exact ⟨_, rfl, fun _ => rfl, rfl⟩

set_option maxHeartbeats 1000000 in
theorem rm10J (t : ByteArray) (a b : Int) (w : World) (hT : t.data.toList = [74])  (ha : InR a) (hb : InR b) :
    Calls Tryz.prog 27 #[.string t, .int .i64 10, .int .i64 a, .int .i64 b] w fun e w' => ∃ n, e = .returned (.tuple #[.int .i64 n, .bool (ofOf t.data.toList 10 a b).2]) ∧ (t.data.toList = [74] ∨ -2147483648 ≤ a ∧ a ≤ 2147483647 → n = (ofOf t.data.toList 10 a b).1) ∧ w = w' := by
  have h1 : (t.toList == [74]) = true := by rw [ByteArray.toList_eq, hT]; rfl
  have hr1 := rem_small b 64 (by simp)
  have hr2 := two_rem b
  obtain ⟨m, hM⟩ : ∃ m : Nat, b % 64 = (m : Int) := ⟨(b % 64).toNat, by omega⟩
  have hm64 : m ≤ 64 := by omega
  rw [hM] at hr2
  have HZ : Hid (ofOf t.data.toList 10 a b = (shiftOf 10 a m true, true)) := hid (by unfold ofOf; simp [hT, hM, show (([74] : List UInt8) != [73]) = true from rfl])
  have HA := hid ha
  clear hT ha hb hM
  go_enter Tryz.func27, Tryz.ntmps27
  go_wp2_with fail
  refine (rshr_any a m true _ HA.out hm64).mono ?_
  rintro e w2 ⟨rfl, hww⟩
  obtain rfl := hww.symm
  go_wp2
  go_ret2
  rw [HZ.out]
  exact ⟨_, rfl, fun _ => rfl, rfl⟩

set_option maxHeartbeats 1000000 in
theorem rm10I (t : ByteArray) (a b : Int) (w : World) (hT : t.data.toList = [73])  (ha : InR a) (hb : InR b) :
    Calls Tryz.prog 27 #[.string t, .int .i64 10, .int .i64 a, .int .i64 b] w fun e w' => ∃ n, e = .returned (.tuple #[.int .i64 n, .bool (ofOf t.data.toList 10 a b).2]) ∧ (t.data.toList = [74] ∨ -2147483648 ≤ a ∧ a ≤ 2147483647 → n = (ofOf t.data.toList 10 a b).1) ∧ w = w' := by
  have h1 : (t.toList == [74]) = false := by rw [ByteArray.toList_eq, hT]; rfl
  have hr1 := rem_small b 32 (by simp)
  have hr2 := two_rem32 b
  obtain ⟨m, hM⟩ : ∃ m : Nat, b % 32 = (m : Int) := ⟨(b % 32).toNat, by omega⟩
  have hm64 : m ≤ 64 := by omega
  rw [hM] at hr2
  have HZ : Hid (ofOf t.data.toList 10 a b = (wrap32 (shiftOf 10 a m false), true)) := hid (by unfold ofOf; simp [hT, hM, show (([74] : List UInt8) != [73]) = true from rfl])
  have HA := hid ha
  clear hT ha hb hM
  go_enter Tryz.func27, Tryz.ntmps27
  go_wp2_with fail
  refine (rshr_any a m false _ HA.out hm64).mono ?_
  rintro e w2 ⟨rfl, hww⟩
  obtain rfl := hww.symm
  go_wp2_with fail
  refine (wrap_any _ _ (ediv_in HA.out m)).mono ?_
  rintro e w2 ⟨rfl, hww⟩
  obtain rfl := hww.symm
  go_wp2
  go_ret2
  rw [HZ.out]
  exact ⟨_, rfl, fun _ => rfl, rfl⟩

set_option maxHeartbeats 1000000 in
theorem rm11Jp (t : ByteArray) (a b : Int) (w : World) (hT : t.data.toList = [74]) (h0 : 0 ≤ a) (ha : InR a) (hb : InR b) :
    Calls Tryz.prog 27 #[.string t, .int .i64 11, .int .i64 a, .int .i64 b] w fun e w' => ∃ n, e = .returned (.tuple #[.int .i64 n, .bool (ofOf t.data.toList 11 a b).2]) ∧ (t.data.toList = [74] ∨ -2147483648 ≤ a ∧ a ≤ 2147483647 → n = (ofOf t.data.toList 11 a b).1) ∧ w = w' := by
  have h1 : (t.toList == [74]) = true := by rw [ByteArray.toList_eq, hT]; rfl
  have hr1 := rem_small b 64 (by simp)
  have hr2 := two_rem b
  obtain ⟨m, hM⟩ : ∃ m : Nat, b % 64 = (m : Int) := ⟨(b % 64).toNat, by omega⟩
  have hm64 : m ≤ 64 := by omega
  rw [hM] at hr2
  have HZ : Hid (ofOf t.data.toList 11 a b = (shiftOf 11 a m true, true)) := hid (by unfold ofOf; simp [hT, hM, show (([74] : List UInt8) != [73]) = true from rfl])
  have HA := hid ha
  have HS : Hid (a / 2 ^ m = shiftOf 11 a m true) := hid (by unfold shiftOf; simp [u64_pos ha h0, wrap_in (ediv_in ha m)])
  clear hT ha hb hM
  go_enter Tryz.func27, Tryz.ntmps27
  go_wp2_with fail
  refine (rush_pos a m true _ HA.out h0 hm64).mono ?_
  rintro e w2 ⟨rfl, hww⟩
  obtain rfl := hww.symm
  go_wp2
  go_ret2
  rw [HZ.out]
  exact ⟨_, rfl, fun _ => HS.out, rfl⟩

set_option maxHeartbeats 1000000 in
theorem rm11Jn (t : ByteArray) (a b : Int) (w : World) (hT : t.data.toList = [74]) (h0 : a < 0) (ha : InR a) (hb : InR b) :
    Calls Tryz.prog 27 #[.string t, .int .i64 11, .int .i64 a, .int .i64 b] w fun e w' => ∃ n, e = .returned (.tuple #[.int .i64 n, .bool (ofOf t.data.toList 11 a b).2]) ∧ (t.data.toList = [74] ∨ -2147483648 ≤ a ∧ a ≤ 2147483647 → n = (ofOf t.data.toList 11 a b).1) ∧ w = w' := by
  have h1 : (t.toList == [74]) = true := by rw [ByteArray.toList_eq, hT]; rfl
  have hr1 := rem_small b 64 (by simp)
  have hr2 := two_rem b
  obtain ⟨m, hM⟩ : ∃ m : Nat, b % 64 = (m : Int) := ⟨(b % 64).toNat, by omega⟩
  have hm64 : m ≤ 64 := by omega
  rw [hM] at hr2
  have HZ : Hid (ofOf t.data.toList 11 a b = (shiftOf 11 a m true, true)) := hid (by unfold ofOf; simp [hT, hM, show (([74] : List UInt8) != [73]) = true from rfl])
  have HA := hid ha
  have HS : Hid (wrap64 ((a + 18446744073709551616) / 2 ^ m) = shiftOf 11 a m true) := hid (by unfold shiftOf; simp [u64_neg ha h0])
  clear hT ha hb hM
  go_enter Tryz.func27, Tryz.ntmps27
  go_wp2_with fail
  refine (rush_neg a m _ HA.out h0 hm64).mono ?_
  rintro e w2 ⟨rfl, hww⟩
  obtain rfl := hww.symm
  go_wp2
  go_ret2
  rw [HZ.out]
  exact ⟨_, rfl, fun _ => HS.out, rfl⟩

set_option maxHeartbeats 1000000 in
theorem rm11Ip (t : ByteArray) (a b : Int) (w : World) (hT : t.data.toList = [73]) (h0 : 0 ≤ a) (ha : InR a) (hb : InR b) :
    Calls Tryz.prog 27 #[.string t, .int .i64 11, .int .i64 a, .int .i64 b] w fun e w' => ∃ n, e = .returned (.tuple #[.int .i64 n, .bool (ofOf t.data.toList 11 a b).2]) ∧ (t.data.toList = [74] ∨ -2147483648 ≤ a ∧ a ≤ 2147483647 → n = (ofOf t.data.toList 11 a b).1) ∧ w = w' := by
  have h1 : (t.toList == [74]) = false := by rw [ByteArray.toList_eq, hT]; rfl
  have hr1 := rem_small b 32 (by simp)
  have hr2 := two_rem32 b
  obtain ⟨m, hM⟩ : ∃ m : Nat, b % 32 = (m : Int) := ⟨(b % 32).toNat, by omega⟩
  have hm64 : m ≤ 64 := by omega
  rw [hM] at hr2
  have HZ : Hid (ofOf t.data.toList 11 a b = (wrap32 (shiftOf 11 a m false), true)) := hid (by unfold ofOf; simp [hT, hM, show (([74] : List UInt8) != [73]) = true from rfl])
  have HL := hid hT
  have HA := hid ha
  have HS : Hid (a ≤ 2147483647 → wrap32 (a / 2 ^ m) = wrap32 (shiftOf 11 a m false)) := hid (fun h => by unfold shiftOf; simp [show a % 4294967296 = a by omega, wrap_in (ediv_in ha m)])
  clear hT ha hb hM
  go_enter Tryz.func27, Tryz.ntmps27
  go_wp2_with fail
  refine (rush_pos a m false _ HA.out h0 hm64).mono ?_
  rintro e w2 ⟨rfl, hww⟩
  obtain rfl := hww.symm
  go_wp2_with fail
  refine (wrap_any _ _ (ediv_in HA.out m)).mono ?_
  rintro e w2 ⟨rfl, hww⟩
  obtain rfl := hww.symm
  go_wp2
  go_ret2
  rw [HZ.out]
  exact ⟨_, rfl, fun h => HS.out (by rcases h with h | h
                                     · rw [HL.out] at h; cases h
                                     · exact h.2), rfl⟩

set_option maxHeartbeats 1000000 in
theorem rm11In (t : ByteArray) (a b : Int) (w : World) (hT : t.data.toList = [73]) (h0 : a < 0) (ha : InR a) (hb : InR b) :
    Calls Tryz.prog 27 #[.string t, .int .i64 11, .int .i64 a, .int .i64 b] w fun e w' => ∃ n, e = .returned (.tuple #[.int .i64 n, .bool (ofOf t.data.toList 11 a b).2]) ∧ (t.data.toList = [74] ∨ -2147483648 ≤ a ∧ a ≤ 2147483647 → n = (ofOf t.data.toList 11 a b).1) ∧ w = w' := by
  have h1 : (t.toList == [74]) = false := by rw [ByteArray.toList_eq, hT]; rfl
  have hr1 := rem_small b 32 (by simp)
  have hr2 := two_rem32 b
  obtain ⟨m, hM⟩ : ∃ m : Nat, b % 32 = (m : Int) := ⟨(b % 32).toNat, by omega⟩
  have hm64 : m ≤ 64 := by omega
  rw [hM] at hr2
  have HZ : Hid (ofOf t.data.toList 11 a b = (wrap32 (shiftOf 11 a m false), true)) := hid (by unfold ofOf; simp [hT, hM, show (([74] : List UInt8) != [73]) = true from rfl])
  have HL := hid hT
  have HA := hid ha
  have HS : Hid (∀ n, (-4294967296 ≤ a → n = (a + 4294967296) / 2 ^ m) → -2147483648 ≤ a → wrap32 n = wrap32 (shiftOf 11 a m false)) := hid (fun n hn h => by
    have e : a + 4294967296 = a % 4294967296 := by omega
    have hi : InR (a % 4294967296) := by unfold InR; omega
    rw [hn (by omega), e]; unfold shiftOf; simp [wrap_in (ediv_in hi m)])
  clear hT ha hb hM
  go_enter Tryz.func27, Tryz.ntmps27
  go_wp2_with fail
  refine (rush_neg32 a m _ HA.out h0 hm64).mono ?_
  rintro e w2 ⟨n, rfl, hin, hn, hww⟩
  obtain rfl := hww.symm
  have HN := hid hn
  clear hn
  go_wp2_with fail
  refine (wrap_any _ _ hin).mono ?_
  rintro e w2 ⟨rfl, hww⟩
  obtain rfl := hww.symm
  go_wp2
  go_ret2
  rw [HZ.out]
  exact ⟨_, rfl, fun h => HS.out n HN.out (by rcases h with h | h
                                              · rw [HL.out] at h; cases h
                                              · exact h.1), rfl⟩

/-- MathOf, all of it -/
theorem rmath_any (t : ByteArray) (k a b : Int) (w : World) (ht : t.data.toList = [73] ∨ t.data.toList = [74]) (hk : 1 ≤ k ∧ k ≤ 12) (ha : InR a) (hb : InR b) :
    Calls Tryz.prog 27 #[.string t, .int .i64 k, .int .i64 a, .int .i64 b] w fun e w' => ∃ n, e = .returned (.tuple #[.int .i64 n, .bool (ofOf t.data.toList k a b).2]) ∧ (t.data.toList = [74] ∨ -2147483648 ≤ a ∧ a ≤ 2147483647 → n = (ofOf t.data.toList k a b).1) ∧ w = w' := by
  obtain ⟨h1, h2⟩ := hk
  have : k = 1 ∨ k = 2 ∨ k = 3 ∨ k = 4 ∨ k = 5 ∨ k = 6 ∨ k = 7 ∨ k = 8 ∨ k = 9 ∨ k = 10 ∨ k = 11 ∨ k = 12 := by omega
  rcases ht with hT | hT
  · rcases this with rfl | rfl | rfl | rfl | rfl | rfl | rfl | rfl | rfl | rfl | rfl | rfl
    · exact rm1I t a b w hT ha hb
    · exact rm2I t a b w hT ha hb
    · exact rm3I t a b w hT ha hb
    · by_cases h0 : b = 0
      · exact rz4I t a b w hT h0 ha hb
      · exact rm4I t a b w hT h0 ha hb
    · by_cases h0 : b = 0
      · exact rz5I t a b w hT h0 ha hb
      · exact rm5I t a b w hT h0 ha hb
    · exact rm6I t a b w hT ha hb
    · exact rm7I t a b w hT ha hb
    · exact rm8I t a b w hT ha hb
    · exact rm9I t a b w hT ha hb
    · exact rm10I t a b w hT ha hb
    · rcases Int.lt_or_le a 0 with h0 | h0
      · exact rm11In t a b w hT h0 ha hb
      · exact rm11Ip t a b w hT h0 ha hb
    · exact rm12I t a b w hT ha hb
  · rcases this with rfl | rfl | rfl | rfl | rfl | rfl | rfl | rfl | rfl | rfl | rfl | rfl
    · exact rm1J t a b w hT ha hb
    · exact rm2J t a b w hT ha hb
    · exact rm3J t a b w hT ha hb
    · by_cases h0 : b = 0
      · exact rz4J t a b w hT h0 ha hb
      · exact rm4J t a b w hT h0 ha hb
    · by_cases h0 : b = 0
      · exact rz5J t a b w hT h0 ha hb
      · exact rm5J t a b w hT h0 ha hb
    · exact rm6J t a b w hT ha hb
    · exact rm7J t a b w hT ha hb
    · exact rm8J t a b w hT ha hb
    · exact rm9J t a b w hT ha hb
    · exact rm10J t a b w hT ha hb
    · rcases Int.lt_or_le a 0 with h0 | h0
      · exact rm11Jn t a b w hT h0 ha hb
      · exact rm11Jp t a b w hT h0 ha hb
    · exact rm12J t a b w hT ha hb
end Go.Proofs.YtogpgfaojmmemaaGreatDoor.nums
