/- Numbers: num.Word, whole, shifted and Of. No condition but that numbers are of 64 bits. -/
import Derived.Test.YtloonnfelgokmaaGreatDoorZErrV
import Derived.Laws.BitsLemmas
set_option maxRecDepth 100000
set_option maxHeartbeats 16000000
set_option linter.unusedSimpArgs false
set_option linter.unusedVariables false
namespace Go.Proofs.YtloonnfelgokmaaGreatDoor.nums
open Go.RowKit lib
def wholeOf (k a b : Int) : Int × Bool :=
 if k = 1 then (wrap64 (a + b), true) else if k = 2 then (wrap64 (a - b), true) else if k = 3 then (wrap64 (a * b), true) else if k = 6 then (bits .and .i64 a b, true)
 else if k = 7 then (bits .or .i64 a b, true) else if k = 8 then (bits .xor .i64 a b, true) else if k = 12 then (wrap64 (-a), true)
 else if k = 4 then (if b = 0 then (0, false) else (wrap64 (a.tdiv b), true)) else if k = 5 then (if b = 0 then (0, false) else (a.tmod b, true)) else (0, false)
def shiftOf (k a : Int) (m : Nat) (long : Bool) : Int :=
 if k = 9 then wrap64 (a * 2 ^ m) else if k = 10 then a / 2 ^ m else if long = true then wrap64 (IntKind.u64.wrap a / 2 ^ m) else wrap64 (a % 4294967296 / 2 ^ m)
theorem mask_i64 (i : Nat) (hi : i < 63) (b : Int) : bits .and .i64 b (2 ^ i - 1) = b % 2 ^ i := by
 have hpos : 0 < 2 ^ i := Nat.two_pow_pos i
 have hle : 2 ^ i ≤ 2 ^ 62 := Nat.pow_le_pow_right (by decide) (by omega)
 have hc : ((2 : Int) ^ i - 1) = ((2 ^ i - 1 : Nat) : Int) := by rw [Int.natCast_sub hpos]; simp
 have hb : (BitVec.ofInt 64 b).toNat = (b % 2 ^ 64).toNat := by simp [BitVec.toNat_ofInt]
 have hm : (2 ^ i - 1) % 2 ^ 64 = 2 ^ i - 1 := Nat.mod_eq_of_lt (by omega)
 rw [hc]
 show IntKind.i64.wrap ((BitVec.ofInt 64 b &&& BitVec.ofInt 64 ((2 ^ i - 1 : Nat) : Int)).toNat : Int) = _
 rw [BitVec.toNat_and, hb, BitVec.ofInt_natCast, BitVec.toNat_ofNat, hm, Nat.and_two_pow_sub_one_eq_mod]
 have hlt : (b % 2 ^ 64).toNat % 2 ^ i < 2 ^ i := Nat.mod_lt _ hpos
 have h1 : (((b % 2 ^ 64).toNat % 2 ^ i : Nat) : Int) = b % 2 ^ i := by
  rw [Int.natCast_emod, Int.toNat_of_nonneg (Int.emod_nonneg _ (by decide))]
  have hd : ((2 : Int) ^ i) ∣ 2 ^ 64 := ⟨2 ^ (64 - i), by rw [← Int.pow_add]; congr 1; omega⟩
  rw [show ((2 ^ i : Nat) : Int) = (2 : Int) ^ i by simp, Int.emod_emod_of_dvd _ hd]
 rw [IntKind.wrap_i64, h1]
 have h2 : b % 2 ^ i < 2 ^ i := Int.emod_lt_of_pos _ (by exact_mod_cast hpos)
 have h3 : 0 ≤ b % 2 ^ i := Int.emod_nonneg _ (by have : (0 : Int) < 2 ^ i := (by exact_mod_cast hpos); omega)
 have h4 : ((2 : Int) ^ i) ≤ 2 ^ 62 := by exact_mod_cast hle
 omega
theorem wrap64_eq (x : Int) : IntKind.i64.wrap x = wrap64 x := by
 rw [IntKind.wrap_i64]; unfold wrap64; omega
theorem word_small (a : Int) : wrap64 (wrap32 a) = wrap32 a := by
 unfold wrap64 wrap32; omega
theorem word_any (a : Int) (w : World) : Calls Tryz.prog 55 #[.int .i64 a] w fun e w' => e = .returned (.int .i64 (wrap32 a)) ∧ w = w' := by
 have h := word_small a
 go_enter Tryz.func55, Tryz.ntmps55
 go_wp2
 go_ret
 exact ⟨by first | rfl | (rw [h]; rfl), rfl⟩
theorem whole_any (k a b : Int) (w : World) : Calls Tryz.prog 178 #[.int .i64 k, .int .i64 a, .int .i64 b] w fun e w' => e = .returned (.tuple #[.int .i64 (wholeOf k a b).1, .bool (wholeOf k a b).2]) ∧ w = w' := by
 by_cases h1 : k = 1
 ·subst h1
  have HZ : Hid (wholeOf 1 a b = (wrap64 (a + b), true)) := hid rfl
  go_enter Tryz.func178, Tryz.ntmps178
  go_wp2
  go_ret2
  rw [HZ.out]
  exact ⟨rfl, rfl⟩
 have n1 : (k == 1) = false := by simpa using h1
 by_cases h2 : k = 2
 ·subst h2
  have HZ : Hid (wholeOf 2 a b = (wrap64 (a - b), true)) := hid rfl
  go_enter Tryz.func178, Tryz.ntmps178
  go_wp2
  go_ret2
  rw [HZ.out]
  exact ⟨rfl, rfl⟩
 have n2 : (k == 2) = false := by simpa using h2
 by_cases h3 : k = 3
 ·subst h3
  have HZ : Hid (wholeOf 3 a b = (wrap64 (a * b), true)) := hid rfl
  go_enter Tryz.func178, Tryz.ntmps178
  go_wp2
  go_ret2
  rw [HZ.out]
  exact ⟨rfl, rfl⟩
 have n3 : (k == 3) = false := by simpa using h3
 by_cases h6 : k = 6
 ·subst h6
  have HZ : Hid (wholeOf 6 a b = (bits .and .i64 a b, true)) := hid rfl
  go_enter Tryz.func178, Tryz.ntmps178
  go_wp2
  go_ret2
  rw [HZ.out]
  exact ⟨rfl, rfl⟩
 have n6 : (k == 6) = false := by simpa using h6
 by_cases h7 : k = 7
 ·subst h7
  have HZ : Hid (wholeOf 7 a b = (bits .or .i64 a b, true)) := hid rfl
  go_enter Tryz.func178, Tryz.ntmps178
  go_wp2
  go_ret2
  rw [HZ.out]
  exact ⟨rfl, rfl⟩
 have n7 : (k == 7) = false := by simpa using h7
 by_cases h8 : k = 8
 ·subst h8
  have HZ : Hid (wholeOf 8 a b = (bits .xor .i64 a b, true)) := hid rfl
  go_enter Tryz.func178, Tryz.ntmps178
  go_wp2
  go_ret2
  rw [HZ.out]
  exact ⟨rfl, rfl⟩
 have n8 : (k == 8) = false := by simpa using h8
 by_cases h12 : k = 12
 ·subst h12
  have HZ : Hid (wholeOf 12 a b = (wrap64 (-a), true)) := hid rfl
  go_enter Tryz.func178, Tryz.ntmps178
  go_wp2
  go_ret2
  rw [HZ.out]
  exact ⟨rfl, rfl⟩
 have n12 : (k == 12) = false := by simpa using h12
 by_cases h4 : k = 4
 ·subst h4
  by_cases hb : b = 0
  ·subst hb
   have HZ : Hid (wholeOf 4 a 0 = (0, false)) := hid rfl
   clear h1 h2 h3 h6 h7 h8 h12 n1 n2 n3 n6 n7 n8 n12
   go_enter Tryz.func178, Tryz.ntmps178
   go_wp2
   go_ret2
   rw [HZ.out]
   exact ⟨rfl, rfl⟩
  ·have HZ : Hid (wholeOf 4 a b = (wrap64 (a.tdiv b), true)) := hid (by unfold wholeOf; simp [hb])
   have hbb : (b == 0) = false := by simpa using hb
   clear h1 h2 h3 h6 h7 h8 h12 n1 n2 n3 n6 n7 n8 n12
   go_enter Tryz.func178, Tryz.ntmps178
   go_wp2
   go_ret2
   rw [HZ.out]
   exact ⟨rfl, rfl⟩
 have n4 : (k == 4) = false := by simpa using h4
 by_cases h5 : k = 5
 ·subst h5
  by_cases hb : b = 0
  ·subst hb
   have HZ : Hid (wholeOf 5 a 0 = (0, false)) := hid rfl
   clear h1 h2 h3 h6 h7 h8 h12 n1 n2 n3 n6 n7 n8 n12 h4 n4
   go_enter Tryz.func178, Tryz.ntmps178
   go_wp2
   go_ret2
   rw [HZ.out]
   exact ⟨rfl, rfl⟩
  ·have HZ : Hid (wholeOf 5 a b = (a.tmod b, true)) := hid (by unfold wholeOf; simp [hb])
   have hbb : (b == 0) = false := by simpa using hb
   clear h1 h2 h3 h6 h7 h8 h12 n1 n2 n3 n6 n7 n8 n12 h4 n4
   go_enter Tryz.func178, Tryz.ntmps178
   go_wp2
   go_ret2
   rw [HZ.out]
   exact ⟨rfl, rfl⟩
 have n5 : (k == 5) = false := by simpa using h5
 have HZ : Hid (wholeOf k a b = (0, false)) := hid (by unfold wholeOf; simp [h1, h2, h3, h6, h7, h8, h12, h4, h5])
 clear h1 h2 h3 h6 h7 h8 h12 h4 h5
 go_enter Tryz.func178, Tryz.ntmps178
 go_wp2
 go_ret2
 rw [HZ.out]
 exact ⟨rfl, rfl⟩
theorem shifted_any (k a b : Int) (long : Bool) (w : World) (hk : k = 9 ∨ k = 10 ∨ k = 11) : Calls Tryz.prog 179 #[.int .i64 k, .int .i64 a, .int .i64 b, .int .i64 (if long = true then 64 else 32)] w fun e w' => e = .returned (.int .i64 (shiftOf k a (b % (if long = true then 64 else 32)).toNat long)) ∧ w = w' := by
 cases long with
 | true =>
  have hm := mask_i64 6 (by decide) b
  obtain ⟨m, hM⟩ : ∃ m : Nat, b % 64 = (m : Int) := ⟨(b % 64).toNat, by omega⟩
  have hm2 : bits .and .i64 b 63 = (m : Int) := by rw [← hM]; exact hm
  have hlt : m < 64 := by omega
  have e1 : (b % (if true = true then 64 else 32)).toNat = m := by rw [if_pos rfl, hM]; rfl
  rw [e1]
  have hmin : min m 64 = m := by omega
  have hpow : (0 : Int) ≤ 2 ^ m := Int.le_of_lt (Int.pow_pos (by decide))
  have s1 := fun w : World => (show (Op.shift .shl .i64 a .i64 (m : Int)).run Tryz.prog w = .ok (.int .i64 (wrap64 (a * 2 ^ m))) w from by simp [Op.shift, IntKind.bits, hmin, show ¬ (m : Int) < 0 by omega, Int.fdiv_eq_ediv_of_nonneg _ hpow]; exact wrap64_eq _)
  have s2 := fun w : World => (show (Op.shift .shr .i64 a .i64 (m : Int)).run Tryz.prog w = .ok (.int .i64 (a / 2 ^ m)) w from by simp [Op.shift, IntKind.bits, hmin, show ¬ (m : Int) < 0 by omega, Int.fdiv_eq_ediv_of_nonneg _ hpow])
  have s3 := fun w : World => (show (Op.shift .shr .u64 (IntKind.u64.wrap a) .i64 (m : Int)).run Tryz.prog w = .ok (.int .u64 (IntKind.u64.wrap a / 2 ^ m)) w from by simp [Op.shift, IntKind.bits, hmin, show ¬ (m : Int) < 0 by omega, Int.fdiv_eq_ediv_of_nonneg _ hpow])
  clear hm hM e1 hmin
  obtain ⟨R, hR⟩ : ∃ R, shiftOf k a m true = R := ⟨_, rfl⟩
  rw [hR]
  have HR := hid hR
  clear hR
  rcases hk with rfl | rfl | rfl
  all_goals
   go_enter Tryz.func179, Tryz.ntmps179
   go_wp2
   go_ret
   rw [← HR.out]
   exact ⟨rfl, rfl⟩
 | false =>
  have hm := mask_i64 5 (by decide) b
  obtain ⟨m, hM⟩ : ∃ m : Nat, b % 32 = (m : Int) := ⟨(b % 32).toNat, by omega⟩
  have hm2 : bits .and .i64 b 31 = (m : Int) := by rw [← hM]; exact hm
  have hlt : m < 32 := by omega
  have e1 : (b % (if false = true then 64 else 32)).toNat = m := by rw [if_neg (by decide), hM]; rfl
  rw [e1]
  have hmin : min m 64 = m := by omega
  have hmin2 : min m 32 = m := by omega
  have hpow : (0 : Int) ≤ 2 ^ m := Int.le_of_lt (Int.pow_pos (by decide))
  have s1 := fun w : World => (show (Op.shift .shl .i64 a .i64 (m : Int)).run Tryz.prog w = .ok (.int .i64 (wrap64 (a * 2 ^ m))) w from by simp [Op.shift, IntKind.bits, hmin, show ¬ (m : Int) < 0 by omega, Int.fdiv_eq_ediv_of_nonneg _ hpow]; exact wrap64_eq _)
  have s2 := fun w : World => (show (Op.shift .shr .i64 a .i64 (m : Int)).run Tryz.prog w = .ok (.int .i64 (a / 2 ^ m)) w from by simp [Op.shift, IntKind.bits, hmin, show ¬ (m : Int) < 0 by omega, Int.fdiv_eq_ediv_of_nonneg _ hpow])
  have s3 := fun w : World => (show (Op.shift .shr .u32 (a % 4294967296) .i64 (m : Int)).run Tryz.prog w = .ok (.int .u32 ((a % 4294967296) / 2 ^ m)) w from by simp [Op.shift, IntKind.bits, hmin2, show ¬ (m : Int) < 0 by omega, Int.fdiv_eq_ediv_of_nonneg _ hpow])
  clear hm hM e1 hmin hmin2
  obtain ⟨R, hR⟩ : ∃ R, shiftOf k a m false = R := ⟨_, rfl⟩
  rw [hR]
  have HR := hid hR
  clear hR
  rcases hk with rfl | rfl | rfl
  all_goals
   go_enter Tryz.func179, Tryz.ntmps179
   go_wp2
   go_ret
   rw [← HR.out]
   exact ⟨rfl, rfl⟩
theorem shifted64 (k a b : Int) (w : World) (hk : k = 9 ∨ k = 10 ∨ k = 11) : Calls Tryz.prog 179 #[.int .i64 k, .int .i64 a, .int .i64 b, .int .i64 64] w fun e w' => e = .returned (.int .i64 (shiftOf k a (b % 64).toNat true)) ∧ w = w' :=
 shifted_any k a b true w hk
theorem shifted32 (k a b : Int) (w : World) (hk : k = 9 ∨ k = 10 ∨ k = 11) : Calls Tryz.prog 179 #[.int .i64 k, .int .i64 a, .int .i64 b, .int .i64 32] w fun e w' => e = .returned (.int .i64 (shiftOf k a (b % 32).toNat false)) ∧ w = w' :=
 shifted_any k a b false w hk
def ofOf (t : List UInt8) (k a b : Int) : Int × Bool :=
 let r : Int × Bool := if 9 ≤ k ∧ k ≤ 11 then (shiftOf k a (b % (if t = [73] then 32 else 64)).toNat (t != [73]), true) else wholeOf k a b
 (if t = [73] then wrap32 r.1 else r.1, r.2)
theorem int_letters (t : ByteArray) : (t = (⟨#[73]⟩ : ByteArray)) ↔ t.data.toList = [73] := by
 constructor
 ·rintro rfl; rfl
 ·intro h; exact ByteArray.ext (Array.toList_inj.1 h)
theorem of_any (t : ByteArray) (k a b : Int) (w : World) : Calls Tryz.prog 117 #[.string t, .int .i64 k, .int .i64 a, .int .i64 b] w fun e w' => e = .returned (.tuple #[.int .i64 (ofOf t.data.toList k a b).1, .bool (ofOf t.data.toList k a b).2]) ∧ w = w' := by
 obtain ⟨R, hR0⟩ : ∃ R, ofOf t.data.toList k a b = R := ⟨_, rfl⟩
 rw [hR0]
 by_cases hT : t.data.toList = [73]
 ·have h1 : (t.toList == [73]) = true := by rw [ByteArray.toList_eq, hT]; rfl
  by_cases hk : 9 ≤ k ∧ k ≤ 11
  ·obtain ⟨hk1, hk2⟩ := hk
   have HR : Hid (R = (wrap32 (shiftOf k a (b % 32).toNat false), true)) := hid (by
    have hq : (t.data.toList != [73]) = false := by simpa using hT
    rw [← hR0]; unfold ofOf; rw [hq]; simp [hk1, hk2, hT])
   clear hR0 hT
   go_enter Tryz.func117, Tryz.ntmps117
   go_wp2_with fail
   refine (whole_any k a b _).mono ?_
   rintro e w2 ⟨rfl, hww⟩
   obtain rfl := hww.symm
   go_wp2_with fail
   refine (shifted32 k a b _ (by omega)).mono ?_
   rintro e w2 ⟨rfl, hww⟩
   obtain rfl := hww.symm
   go_wp2_with fail
   refine (word_any _ _).mono ?_
   rintro e w2 ⟨rfl, hww⟩
   obtain rfl := hww.symm
   go_wp2_with fail
   go_ret2
   rw [HR.out]
   exact ⟨rfl, rfl⟩
  ·have HR : Hid (R = (wrap32 (wholeOf k a b).1, (wholeOf k a b).2)) := hid (by
    rw [← hR0]; unfold ofOf; simp [hk, hT])
   clear hR0 hT
   by_cases hk1 : 9 ≤ k
   ·have hk2 : ¬ k ≤ 11 := fun h => hk ⟨hk1, h⟩
    clear hk
    go_enter Tryz.func117, Tryz.ntmps117
    go_wp2_with fail
    refine (whole_any k a b _).mono ?_
    rintro e w2 ⟨rfl, hww⟩
    obtain rfl := hww.symm
    go_wp2_with fail
    refine (word_any _ _).mono ?_
    rintro e w2 ⟨rfl, hww⟩
    obtain rfl := hww.symm
    go_wp2_with fail
    go_ret2
    rw [HR.out]
    exact ⟨rfl, rfl⟩
   ·clear hk
    go_enter Tryz.func117, Tryz.ntmps117
    go_wp2_with fail
    refine (whole_any k a b _).mono ?_
    rintro e w2 ⟨rfl, hww⟩
    obtain rfl := hww.symm
    go_wp2_with fail
    refine (word_any _ _).mono ?_
    rintro e w2 ⟨rfl, hww⟩
    obtain rfl := hww.symm
    go_wp2_with fail
    go_ret2
    rw [HR.out]
    exact ⟨rfl, rfl⟩
 ·have h1 : (t.toList == [73]) = false := by rw [ByteArray.toList_eq]; exact beq_eq_false_iff_ne.2 hT
  by_cases hk : 9 ≤ k ∧ k ≤ 11
  ·obtain ⟨hk1, hk2⟩ := hk
   have HR : Hid (R = (shiftOf k a (b % 64).toNat true, true)) := hid (by
    have hq : (t.data.toList != [73]) = true := bne_iff_ne.2 hT
    rw [← hR0]; unfold ofOf; rw [hq]; simp [hk1, hk2, hT])
   clear hR0 hT
   go_enter Tryz.func117, Tryz.ntmps117
   go_wp2_with fail
   refine (whole_any k a b _).mono ?_
   rintro e w2 ⟨rfl, hww⟩
   obtain rfl := hww.symm
   go_wp2_with fail
   refine (shifted64 k a b _ (by omega)).mono ?_
   rintro e w2 ⟨rfl, hww⟩
   obtain rfl := hww.symm
   go_wp2_with fail
   go_ret2
   rw [HR.out]
   exact ⟨rfl, rfl⟩
  ·have HR : Hid (R = ((wholeOf k a b).1, (wholeOf k a b).2)) := hid (by
    rw [← hR0]; unfold ofOf; simp [hk, hT])
   clear hR0 hT
   by_cases hk1 : 9 ≤ k
   ·have hk2 : ¬ k ≤ 11 := fun h => hk ⟨hk1, h⟩
    clear hk
    go_enter Tryz.func117, Tryz.ntmps117
    go_wp2_with fail
    refine (whole_any k a b _).mono ?_
    rintro e w2 ⟨rfl, hww⟩
    obtain rfl := hww.symm
    go_wp2_with fail
    go_ret2
    rw [HR.out]
    exact ⟨rfl, rfl⟩
   ·clear hk
    go_enter Tryz.func117, Tryz.ntmps117
    go_wp2_with fail
    refine (whole_any k a b _).mono ?_
    rintro e w2 ⟨rfl, hww⟩
    obtain rfl := hww.symm
    go_wp2_with fail
    go_ret2
    rw [HR.out]
    exact ⟨rfl, rfl⟩
end Go.Proofs.YtloonnfelgokmaaGreatDoor.nums
