/- Instructions as text, as the document does it: Digits, InsText. Conditions: the numbers are of 64 bits; the texts are not long. -/
import Derived.Test.YtogpgfaojmmemaaGreatDoorTxtP
import Derived.Test.YtogpgfaojmmemaaGreatDoorIns4
import Derived.Lib.ItoaMem
set_option linter.unusedSimpArgs false
set_option linter.unusedVariables false
namespace Go.Proofs.YtogpgfaojmmemaaGreatDoor.txts
open Go.RowKit Go.Proofs.YtogpgfaojmmemaaGreatDoor.lib Go.Proofs.YtogpgfaojmmemaaGreatDoor.errs Go.Proofs.YtogpgfaojmmemaaGreatDoor.names Go.Proofs.YtogpgfaojmmemaaGreatDoor.descs Go.Proofs.YtogpgfaojmmemaaGreatDoor.ins Go.Proofs.YtogpgfaojmmemaaGreatDoor.nums

theorem dig_cut : ∀ d, d < 10 → (([48, 49, 50, 51, 52, 53, 54, 55, 56, 57] : List UInt8).take (d + 1)).drop d = [UInt8.ofNat (48 + d)] := by decide
theorem tmod_ten (m : Nat) : ((m : Int)).tmod 10 = ((m % 10 : Nat) : Int) := by rw [Int.tmod_eq_emod_of_nonneg (by omega)]; omega
theorem tdiv_ten (m : Nat) : ((m : Int)).tdiv 10 = ((m / 10 : Nat) : Int) := by rw [Int.tdiv_eq_ediv_of_nonneg (by omega)]; omega
theorem dec_small {m : Nat} (h : m < 10) : Lib.decDigits m = [UInt8.ofNat (48 + m)] := Lib.decDigits_one h
theorem dec_big {m : Nat} (h : ¬ m < 10) : Lib.decDigits m = Lib.decDigits (m / 10) ++ [UInt8.ofNat (48 + m % 10)] := by
  rw [Lib.decDigits, dif_neg h]

set_option maxRecDepth 100000 in
set_option maxHeartbeats 2000000 in
theorem digits_nat : ∀ (m : Nat) (w : World), m ≤ 9223372036854775807 → Calls Tryz.prog 45 #[.int .i64 (m : Int)] w fun e w' => e = .returned (.string (bs (Lib.decDigits m))) ∧ w = w' := by
  intro m
  induction m using Nat.strongRecOn with
  | ind m ih =>
    intro w hm
    have h1 : ((m : Int) == -9223372036854775808) = false := by rw [beq_eq_false_iff_ne]; omega
    have h1n : ¬ (m : Int) = -9223372036854775808 := by omega
    have h2 : ¬ (m : Int) < 0 := by omega
    have h3 := tmod_ten m
    obtain ⟨d, hd⟩ : ∃ d, m % 10 = d := ⟨_, rfl⟩
    rw [hd] at h3
    have hd10 : d < 10 := by omega
    have h4 : (0 : Int) ≤ (d : Int) := by omega
    have h5 : (d : Int) ≤ 9 := by omega
    have h6 : ((d : Int) + 1).toNat = d + 1 := by omega
    have h7 : IntKind.i64.wrap ((d : Int) + 1) = (d : Int) + 1 := by rw [IntKind.wrap_i64]; omega
    have HEX : Hid (({ data := #[48, 49, 50, 51, 52, 53, 54, 55, 56, 57] } : ByteArray).extract d (d + 1) = bs [UInt8.ofNat (48 + d)]) := hid (by
      rw [extract_bs]
      exact congrArg bs (dig_cut d hd10))
    by_cases hs : m < 10
    · have hs2 : (m : Int) < 10 := by omega
      have HR : Hid (bs (Lib.decDigits m) = bs [UInt8.ofNat (48 + d)]) := hid (by rw [dec_small hs, ← hd, Nat.mod_eq_of_lt hs])
      clear ih hd
      go_enter Tryz.func45, Tryz.ntmps45
      go_wp2
      go_ret
      rw [HR.out, ← HEX.out]
      exact ⟨rfl, rfl⟩
    · have hs2 : ¬ (m : Int) < 10 := by omega
      have HI := hid (ih (m / 10) (by omega) · (by omega))
      have h8 := tdiv_ten m
      obtain ⟨q, hq⟩ : ∃ q, m / 10 = q := ⟨_, rfl⟩
      rw [hq] at HI h8
      have HR : Hid (bs (Lib.decDigits m) = bs (Lib.decDigits q) ++ bs [UInt8.ofNat (48 + d)]) := hid (by
        rw [dec_big hs, hq, hd]
        exact (bs_of (by rw [ByteArray.data_append, Array.toList_append]; rfl)).symm)
      have hdl : (bs (Lib.decDigits q)).size ≤ 21 := by
        have := Lib.itoa_length_le (q : Int) (by omega) (by omega)
        rw [Lib.itoa_nonneg] at this
        exact this
      have hql : wrap64 (q : Int) = (q : Int) := by unfold wrap64; omega
      clear ih hd hq
      obtain ⟨S, hS⟩ : ∃ S, bs (Lib.decDigits q) = S := ⟨_, rfl⟩
      rw [hS] at HI HR hdl
      clear hS
      go_enter Tryz.func45, Tryz.ntmps45
      go_wp2_with fail
      refine (HI.out _).mono ?_
      rintro e w2 ⟨rfl, hww⟩
      obtain rfl := hww.symm
      go_wp2
      go_ret
      rw [HR.out, ← HEX.out]
      exact ⟨rfl, rfl⟩

theorem itoa_least : bs (Lib.itoa (-9223372036854775808)) = { data := #[45, 57, 50, 50, 51, 51, 55, 50, 48, 51, 54, 56, 53, 52, 55, 55, 53, 56, 48, 56] } := by
  have : Lib.itoa (-9223372036854775808) = 45 :: Lib.decDigits 9223372036854775808 := by decide +kernel
  rw [this]
  simp only [bs]
  congr 1
  simp [Lib.decDigits]
set_option maxRecDepth 100000 in
set_option maxHeartbeats 2000000 in
theorem digits_any (n : Int) (w : World) (h : InR n) : Calls Tryz.prog 45 #[.int .i64 n] w fun e w' => e = .returned (.string (bs (Lib.itoa n))) ∧ w = w' := by
  by_cases h0 : 0 ≤ n
  · obtain ⟨m, rfl⟩ : ∃ m : Nat, n = (m : Int) := ⟨n.toNat, by omega⟩
    rw [Lib.itoa_nonneg]
    exact digits_nat m w (by unfold InR at h; omega)
  · by_cases h1 : n = -9223372036854775808
    · subst h1
      rw [itoa_least]
      clear h h0
      go_enter Tryz.func45, Tryz.ntmps45
      go_wp2
      go_ret
      exact ⟨rfl, rfl⟩
    · obtain ⟨m, rfl⟩ : ∃ m : Nat, n = -(m : Int) := ⟨n.natAbs, by omega⟩
      unfold InR at h
      have hm1 : 1 ≤ m := by omega
      have HI := hid (digits_nat m · (by omega))
      have e1 : (-(m : Int) == -9223372036854775808) = false := by simpa using h1
      have e2 : -(m : Int) < 0 := by omega
      have e3 : wrap64 (- -(m : Int)) = (m : Int) := by unfold wrap64; omega
      have e4 : wrap64 (m : Int) = (m : Int) := by unfold wrap64; omega
      have HR : Hid (bs (Lib.itoa (-(m : Int))) = { data := #[45] } ++ bs (Lib.decDigits m)) := hid (by
        rw [Lib.itoa_neg m hm1]
        exact (bs_of (by rw [ByteArray.data_append, Array.toList_append]; rfl)).symm)
      have hdl : (bs (Lib.decDigits m)).size ≤ 21 := by
        have := Lib.itoa_length_le (m : Int) (by omega) (by omega)
        rw [Lib.itoa_nonneg] at this
        exact this
      obtain ⟨S, hS⟩ : ∃ S, bs (Lib.decDigits m) = S := ⟨_, rfl⟩
      rw [hS] at HI HR hdl
      clear hS h h0 h1
      go_enter Tryz.func45, Tryz.ntmps45
      go_wp2_with fail
      refine (HI.out _).mono ?_
      rintro e w2 ⟨rfl, hww⟩
      obtain rfl := hww.symm
      go_wp2
      go_ret
      rw [HR.out]
      exact ⟨rfl, rfl⟩

theorem words_at {k : Nat} {wd nd : List UInt8} (hk : formTab[k]? = some (wd, nd)) : (#[.string { data := #[] }, .string { data := #[110, 111, 112] }, .string { data := #[112, 117, 115, 104] }, .string { data := #[110, 117, 108, 108] }, .string { data := #[108, 111, 97, 100] }, .string { data := #[115, 116, 111, 114, 101] }, .string { data := #[112, 111, 112] }, .string { data := #[100, 117, 112] }, .string { data := #[115, 119, 97, 112] }, .string { data := #[109, 97, 116, 104] }, .string { data := #[99, 111, 110, 118] }, .string { data := #[111, 114, 100, 101, 114] }, .string { data := #[105, 102] }, .string { data := #[105, 102, 110, 117, 108, 108] }, .string { data := #[103, 111, 116, 111] }, .string { data := #[110, 101, 119] }, .string { data := #[103, 101, 116] }, .string { data := #[112, 117, 116] }, .string { data := #[110, 101, 119, 97, 114, 114, 97, 121] }, .string { data := #[108, 101, 110, 103, 116, 104] }, .string { data := #[97, 108, 111, 97, 100] }, .string { data := #[97, 115, 116, 111, 114, 101] }, .string { data := #[99, 97, 115, 116] }, .string { data := #[105, 115] }, .string { data := #[99, 97, 108, 108] }, .string { data := #[99, 97, 108, 108, 115] }, .string { data := #[114, 101, 116, 117, 114, 110] }, .string { data := #[103, 105, 118, 101] }, .string { data := #[116, 104, 114, 111, 119] }] : Array Value)[k]? = some (.string (bs wd)) := by
  have e : (#[.string { data := #[] }, .string { data := #[110, 111, 112] }, .string { data := #[112, 117, 115, 104] }, .string { data := #[110, 117, 108, 108] }, .string { data := #[108, 111, 97, 100] }, .string { data := #[115, 116, 111, 114, 101] }, .string { data := #[112, 111, 112] }, .string { data := #[100, 117, 112] }, .string { data := #[115, 119, 97, 112] }, .string { data := #[109, 97, 116, 104] }, .string { data := #[99, 111, 110, 118] }, .string { data := #[111, 114, 100, 101, 114] }, .string { data := #[105, 102] }, .string { data := #[105, 102, 110, 117, 108, 108] }, .string { data := #[103, 111, 116, 111] }, .string { data := #[110, 101, 119] }, .string { data := #[103, 101, 116] }, .string { data := #[112, 117, 116] }, .string { data := #[110, 101, 119, 97, 114, 114, 97, 121] }, .string { data := #[108, 101, 110, 103, 116, 104] }, .string { data := #[97, 108, 111, 97, 100] }, .string { data := #[97, 115, 116, 111, 114, 101] }, .string { data := #[99, 97, 115, 116] }, .string { data := #[105, 115] }, .string { data := #[99, 97, 108, 108] }, .string { data := #[99, 97, 108, 108, 115] }, .string { data := #[114, 101, 116, 117, 114, 110] }, .string { data := #[103, 105, 118, 101] }, .string { data := #[116, 104, 114, 111, 119] }] : Array Value) = (formTab.map fun p => Value.string (bs p.1)).toArray := rfl
  rw [e, List.getElem?_toArray, List.getElem?_map, hk]; rfl
end Go.Proofs.YtogpgfaojmmemaaGreatDoor.txts
