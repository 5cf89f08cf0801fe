/- The reference's encoding and decoding of units. -/
import Derived.Test.YtngegkhcgomjcaaUtf5
namespace Go.Proofs.Ytngegkhcgomjcaa.utfs
open Go.RowKit Go.Proofs.Ytngegkhcgomjcaa.lib Go.Proofs.Ytngegkhcgomjcaa.grow

set_option maxHeartbeats 1000000 in
theorem units_any (u : Int) (w : World) (h0 : 0 ≤ u) (h1 : u ≤ 65535) :
    Calls Try.prog 29 #[.int .u16 u] w fun e w' => ∃ v', e = .returned v' ∧ Out w w' 5 1 v' (e1 u).length ((e1 u).map (.int .u8)) := by
  go_enter Try.func29, Try.ntmps29
  go_wp2
  all_goals go_ret
  · refine ⟨_, rfl, ?_⟩
    rw [e1_one (by omega) (by omega)]
    exact Out.lit w _ _ 1 1 rfl (by unfold maxLen; omega)
  · refine ⟨_, rfl, ?_⟩
    rw [e1_two (by omega) (by omega)]
    exact Out.lit w _ _ 2 1 rfl (by unfold maxLen; omega)
  · refine ⟨_, rfl, ?_⟩
    rw [e1_three (by omega)]
    exact Out.lit w _ _ 3 1 rfl (by unfold maxLen; omega)
  · refine ⟨_, rfl, ?_⟩
    rw [e1_two (by omega) (by omega)]
    exact Out.lit w _ _ 2 1 rfl (by unfold maxLen; omega)

set_option maxHeartbeats 1000000 in
theorem same_any (v1 v2 : Value) (n m : Nat) (xs ys : List Int) (w : World) (h1 : Sl w v1 n 1 (xs.map (.int .u8))) (h2 : Sl w v2 m 1 (ys.map (.int .u8))) :
    Calls Try.prog 28 #[v1, v2] w fun e w' => e = .returned (.bool ((strOfNums xs).toList == (strOfNums ys).toList)) ∧ w = w' := by
  obtain ⟨a1, c1, rfl⟩ := h1.val
  obtain ⟨a2, c2, rfl⟩ := h2.val
  have r1 := run_conv_str (P := Try.prog) Try.underlying24 Try.underlying5 Try.underlying9 h1
  have r2 := run_conv_str (P := Try.prog) Try.underlying24 Try.underlying5 Try.underlying9 h2
  clear h1 h2
  go_enter Try.func28, Try.ntmps28
  go_wp2
  go_ret
  exact ⟨rfl, rfl⟩

set_option maxHeartbeats 1000000 in
theorem bytes_any (v : Value) (n : Nat) (zs : List Int) (w : World) (hv : Sl w v n 1 (zs.map (.int .u16))) (hz : ∀ z ∈ zs, 0 ≤ z ∧ z ≤ 65535) (hn : zs.length ≤ 10000000) :
    Calls Try.prog 14 #[v] w fun e w' => ∃ v', e = .returned v' ∧ Out w w' 5 1 v' (encL zs).length ((encL zs).map (.int .u8)) := by
  have hl : zs.length = n := by have := hv.1; simpa using this
  subst hl
  obtain ⟨a, c, rfl⟩ := hv.val
  have HV := hid hv; have HZ := hid hz; clear hv hz
  go_enter Try.func14, Try.ntmps14
  go_wp2
  go_loopw [3, 4] (fun v i wr => ∃ k : Nat, k ≤ zs.length ∧ i = .int .i64 k ∧ Out w wr 5 1 v (encL (zs.take k)).length ((encL (zs.take k)).map (.int .u8))) (fun _ i _ => zs.length - (intOf i).toNat)
  case atStart => exact ⟨0, Nat.zero_le _, rfl, Out.nil _ _ _⟩
  case round =>
    obtain ⟨k, hk, rfl, hout⟩ := hrel
    by_cases hlt : k < zs.length
    · have hts := take_snoc zs k hlt
      have HH : Hid (encL (zs.take (k + 1)) = encL (zs.take k) ++ e1 zs[k]) := by rw [hts]; exact encL_snoc _ _
      obtain ⟨z0, z1⟩ := HZ.out zs[k] (List.getElem_mem hlt)
      have hle : (encL (zs.take k)).length ≤ 3 * k := by have := encL_le (zs.take k); have := List.length_take_le k zs; omega
      have h3 := (e1_len zs[k]).2
      clear hts
      obtain ⟨b, off, rfl, hc⟩ := (HV.out.below hout.below).ints hlt
      go_wp2_with fail
      refine (units_any zs[k] _ z0 z1).mono ?_
      rintro e w1 ⟨v1, rfl, ho1⟩
      have hs1 := ho1.sl
      have ho2 := hout.later ho1.below
      go_wp2_with (at_builtin; refine wpList_append_src w w1 rfl _ _ 24 rfl 5 (.int .u8 0) 1 1 _ Try.underlying24 info5 rfl (by decide) _ _ _ ho2 rfl _ _ hs1 rfl ?_ ?_ ?_ ?_)
      case refine_1 => intro x hx; obtain ⟨_, _, rfl⟩ := List.mem_map.1 hx; rfl
      case refine_2 => omega
      case refine_3 => omega
      intro v' w' hout' _hg
      go_wp2
      go_roundw
      case rel => exact ⟨k + 1, by omega, by go_num, enc_step HH rfl rfl hout'⟩
      case measure => simp [intOf]; omega
    · rw [show zs.take k = zs from List.take_of_length_le (by omega)] at hout
      go_wp2
      go_ret
      exact ⟨_, rfl, hout⟩

/-! The unit by the reference's rule -/
def rN (b0 : Int) : Nat := if 224 ≤ b0 then 3 else if 192 ≤ b0 then 2 else 1
theorem ref_short {bs : List Int} (hb : ∀ z ∈ bs, 0 ≤ z ∧ z ≤ 255) (h1 : 1 ≤ bs.length) (h : bs.length < rN (bs.getD 0 0)) : (unitOf bs).2 = 0 := by
  match bs, h1 with
  | b0 :: r, _ =>
  obtain ⟨p, q⟩ := hb b0 (by simp)
  simp only [List.getD_cons_zero] at h
  simp only [unitOf, uV, List.getD_cons_zero]
  by_cases h224 : 224 ≤ b0
  · have e6 : ¬ b0 / 32 = 6 := by omega
    by_cases h14 : b0 / 16 = 14
    · have e : uN b0 = 3 := by unfold uN; rw [if_neg e6, if_pos h14]
      have er : rN b0 = 3 := by unfold rN; rw [if_pos h224]
      rw [e, if_pos (by omega)]
    · have e : uN b0 = 1 := by unfold uN; rw [if_neg e6, if_neg h14]
      rw [e, if_neg (by simp), if_pos rfl, e1_two (by omega) (by omega), if_neg (by simp)]
  · by_cases h192 : 192 ≤ b0
    · have e : uN b0 = 2 := by unfold uN; rw [if_pos (by omega)]
      have er : rN b0 = 2 := by unfold rN; rw [if_neg h224, if_pos h192]
      rw [e, if_pos (by omega)]
    · have er : rN b0 = 1 := by unfold rN; rw [if_neg h224, if_neg h192]
      simp at h; omega
theorem ref_one {b0 : Int} {r : List Int} (h0 : 0 ≤ b0) (h : b0 < 192) : unitOf (b0 :: r) = if e1 b0 = [b0] then (b0, 1) else (0, 0) := by
  have e : uN b0 = 1 := by unfold uN; rw [if_neg (by omega), if_neg (by omega)]
  simp only [unitOf, uV, List.getD_cons_zero, e]
  rw [if_neg (by simp)]
  simp
theorem ref_two {b0 b1 : Int} {r : List Int} (h0 : 192 ≤ b0) (h : b0 < 224) : unitOf (b0 :: b1 :: r) = if e1 (b0 % 32 * 64 + b1 % 64) = [b0, b1] then (b0 % 32 * 64 + b1 % 64, 2) else (0, 0) := by
  have e : uN b0 = 2 := by unfold uN; rw [if_pos (by omega)]
  simp only [unitOf, uV, List.getD_cons_zero, List.getD_cons_succ, e]
  rw [if_neg (by simp)]
  simp
theorem ref_three {b0 b1 b2 : Int} {r : List Int} (h0 : 224 ≤ b0) (h : b0 ≤ 255) : unitOf (b0 :: b1 :: b2 :: r) = if e1 (b0 % 16 * 4096 + b1 % 64 * 64 + b2 % 64) = [b0, b1, b2] then (b0 % 16 * 4096 + b1 % 64 * 64 + b2 % 64, 3) else (0, 0) := by
  have e6 : ¬ b0 / 32 = 6 := by omega
  by_cases h14 : b0 / 16 = 14
  · have e : uN b0 = 3 := by unfold uN; rw [if_neg e6, if_pos h14]
    simp only [unitOf, uV, List.getD_cons_zero, List.getD_cons_succ, e]
    rw [if_neg (by simp), show (b0 % 16 * 64 + b1 % 64) * 64 + b2 % 64 = b0 % 16 * 4096 + b1 % 64 * 64 + b2 % 64 by omega]
    simp
  · have e : uN b0 = 1 := by unfold uN; rw [if_neg e6, if_neg h14]
    simp only [unitOf, uV, List.getD_cons_zero, List.getD_cons_succ, e]
    rw [if_neg (by simp), if_pos trivial, e1_two (z := b0) (by omega) (by omega), if_neg (by simp), if_neg]
    intro h
    by_cases hz : b0 % 16 * 4096 + b1 % 64 * 64 + b2 % 64 < 2048
    · by_cases hy : b0 % 16 * 4096 + b1 % 64 * 64 + b2 % 64 ≤ 0 ∨ 128 ≤ b0 % 16 * 4096 + b1 % 64 * 64 + b2 % 64
      · rw [e1_two hy hz] at h; simp at h
      · rw [e1_one (by omega) (by omega)] at h; simp at h
    · rw [e1_three (by omega)] at h; simp at h; omega

end Go.Proofs.Ytngegkhcgomjcaa.utfs
