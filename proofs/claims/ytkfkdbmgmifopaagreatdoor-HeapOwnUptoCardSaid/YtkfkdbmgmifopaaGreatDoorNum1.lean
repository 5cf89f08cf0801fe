/- Numbers: num.Word, whole, shifted and Of. No condition but that numbers are of 64 bits. -/
import Derived.Test.YtkfkdbmgmifopaaGreatDoorErrV
import Derived.Laws.BitsLemmas
set_option linter.unusedSimpArgs false
set_option linter.unusedVariables false
namespace Go.Proofs.YtkfkdbmgmifopaaGreatDoor.nums
open Go.RowKit Go.Proofs.YtkfkdbmgmifopaaGreatDoor.lib

def wholeOf (k a b : Int) : Int × Bool :=
  if k = 1 then (wrap64 (a + b), true) else if k = 2 then (wrap64 (a - b), true) else if k = 3 then (wrap64 (a * b), true) else if k = 6 then (bits .and .i64 a b, true)
  else if k = 7 then (bits .or .i64 a b, true) else if k = 8 then (bits .xor .i64 a b, true) else if k = 12 then (wrap64 (-a), true)
  else if k = 4 then (if b = 0 then (0, false) else (wrap64 (a.tdiv b), true)) else if k = 5 then (if b = 0 then (0, false) else (a.tmod b, true)) else (0, false)
/-- a number shifted; m: by how many bits -/
def shiftOf (k a : Int) (m : Nat) (long : Bool) : Int :=
  if k = 9 then wrap64 (a * 2 ^ m) else if k = 10 then a / 2 ^ m else if long = true then wrap64 (IntKind.u64.wrap a / 2 ^ m) else wrap64 (a % 4294967296 / 2 ^ m)

theorem mask_i64 (i : Nat) (hi : i < 63) (b : Int) : bits .and .i64 b (2 ^ i - 1) = b % 2 ^ i := by
  have hpos : 0 < 2 ^ i := Nat.two_pow_pos i
  have hle : 2 ^ i ≤ 2 ^ 62 := Nat.pow_le_pow_right (by decide) (by omega)
  have hc : ((2 : Int) ^ i - 1) = ((2 ^ i - 1 : Nat) : Int) := by rw [Int.natCast_sub hpos]; simp
  have hb : (BitVec.ofInt 64 b).toNat = (b % 2 ^ 64).toNat := by simp [BitVec.toNat_ofInt]
  have hm : (2 ^ i - 1) % 2 ^ 64 = 2 ^ i - 1 := Nat.mod_eq_of_lt (by omega)
  rw [hc]
  show IntKind.i64.wrap ((BitVec.ofInt 64 b &&& BitVec.ofInt 64 ((2 ^ i - 1 : Nat) : Int)).toNat : Int) = _
  rw [BitVec.toNat_and, hb, BitVec.ofInt_natCast, BitVec.toNat_ofNat, hm, Nat.and_two_pow_sub_one_eq_mod]
  have hlt : (b % 2 ^ 64).toNat % 2 ^ i < 2 ^ i := Nat.mod_lt _ hpos
  have h1 : (((b % 2 ^ 64).toNat % 2 ^ i : Nat) : Int) = b % 2 ^ i := by
    rw [Int.natCast_emod, Int.toNat_of_nonneg (Int.emod_nonneg _ (by decide))]
    have hd : ((2 : Int) ^ i) ∣ 2 ^ 64 := ⟨2 ^ (64 - i), by rw [← Int.pow_add]; congr 1; omega⟩
    rw [show ((2 ^ i : Nat) : Int) = (2 : Int) ^ i by simp, Int.emod_emod_of_dvd _ hd]
  rw [IntKind.wrap_i64, h1]
  have h2 : b % 2 ^ i < 2 ^ i := Int.emod_lt_of_pos _ (by exact_mod_cast hpos)
  have h3 : 0 ≤ b % 2 ^ i := Int.emod_nonneg _ (by have : (0 : Int) < 2 ^ i := by exact_mod_cast hpos
                                                   omega)
  have h4 : ((2 : Int) ^ i) ≤ 2 ^ 62 := by exact_mod_cast hle
  omega
theorem wrap64_eq (x : Int) : IntKind.i64.wrap x = wrap64 x := by
  rw [IntKind.wrap_i64]; unfold wrap64; omega
theorem word_small (a : Int) : wrap64 (wrap32 a) = wrap32 a := by
  unfold wrap64 wrap32; omega

theorem word_any (a : Int) (w : World) : Calls Tryz.prog 69 #[.int .i64 a] w fun e w' => e = .returned (.int .i64 (wrap32 a)) ∧ w = w' := by
  have h := word_small a
  go_enter Tryz.func69, Tryz.ntmps69
  go_wp2
  go_ret
  exact ⟨by first | rfl | (rw [h]; rfl), rfl⟩

/-- num.Of; t: the type's letters -/
def ofOf (t : List UInt8) (k a b : Int) : Int × Bool :=
  let r : Int × Bool := if 9 ≤ k ∧ k ≤ 11 then (shiftOf k a (b % (if t = [73] then 32 else 64)).toNat (t != [73]), true) else wholeOf k a b
  (if t = [73] then wrap32 r.1 else r.1, r.2)
theorem int_letters (t : ByteArray) : (t = (⟨#[73]⟩ : ByteArray)) ↔ t.data.toList = [73] := by
  constructor
  · rintro rfl; rfl
  · intro h; exact ByteArray.ext (Array.toList_inj.1 h)
/-- a number of 64 bits -/
def InR (n : Int) : Prop := -9223372036854775808 ≤ n ∧ n ≤ 9223372036854775807
theorem wrap_in {n : Int} (h : InR n) : wrap64 n = n := by unfold InR at h; unfold wrap64; omega
theorem in_wrap (n : Int) : InR (wrap64 n) := by unfold InR wrap64; omega
theorem ediv_pow (a : Int) (i : Nat) : a / 2 ^ i / 2 = a / 2 ^ (i + 1) := by
  rw [Int.ediv_ediv_of_nonneg (Int.le_of_lt (Int.pow_pos (by decide))), Int.pow_succ]
theorem ediv_in {a : Int} (h : InR a) (i : Nat) : InR (a / 2 ^ i) := by
  induction i with
  | zero => simpa using h
  | succ i ih => rw [← ediv_pow]; unfold InR at *; omega
theorem shl_next (a : Int) (i : Nat) : wrap64 (wrap64 (a * 2 ^ i) + wrap64 (a * 2 ^ i)) = wrap64 (a * 2 ^ (i + 1)) := by
  rw [Int.pow_succ, ← Int.mul_assoc]
  generalize a * 2 ^ i = x
  unfold wrap64; omega

set_option maxRecDepth 100000 in
theorem bits_in (o : BinOp) (a b : Int) : InR (bits o .i64 a b) := by
  show InR (IntKind.i64.wrap _)
  rw [IntKind.wrap_i64]; unfold InR; omega
theorem tmod_in {a b : Int} (ha : InR a) (hb : InR b) (h0 : b ≠ 0) : InR (a.tmod b) := by
  have h1 : (a.tmod b).natAbs = a.natAbs % b.natAbs := Int.natAbs_tmod ..
  have h2 : a.natAbs % b.natAbs < b.natAbs := Nat.mod_lt _ (by omega)
  unfold InR at *; omega
end Go.Proofs.YtkfkdbmgmifopaaGreatDoor.nums
