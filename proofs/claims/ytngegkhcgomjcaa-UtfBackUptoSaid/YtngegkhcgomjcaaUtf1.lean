/- The encoding of units as bytes: what utf.Encode computes. No condition but small lists. -/
import Derived.Test.YtngegkhcgomjcaaLib
import Derived.Test.YtngegkhcgomjcaaRows
namespace Go.Proofs.Ytngegkhcgomjcaa.utfs
open Go.RowKit Go.Proofs.Ytngegkhcgomjcaa.lib

def e1 (u : Int) : List Int :=
  if 0 < u ∧ u < 128 then [u] else if u < 2048 then [192 + u / 64, 128 + u % 64] else [224 + u / 4096, 128 + u / 64 % 64, 128 + u % 64]
def encL (l : List Int) : List Int := l.flatMap e1
theorem e1_len (u : Int) : 1 ≤ (e1 u).length ∧ (e1 u).length ≤ 3 := by unfold e1; split <;> (try split) <;> simp
theorem encL_snoc (l : List Int) (u : Int) : encL (l ++ [u]) = encL l ++ e1 u := by simp [encL]
theorem encL_le (l : List Int) : l.length ≤ (encL l).length ∧ (encL l).length ≤ 3 * l.length := by
  induction l with
  | nil => simp [encL]
  | cons x r ih => have := e1_len x; simp only [encL, List.flatMap_cons, List.length_append, List.length_cons] at *; omega
theorem take_snoc (zs : List Int) (k : Nat) (hk : k < zs.length) : zs.take (k + 1) = zs.take k ++ [zs[k]] := by
  rw [List.take_add_one, List.getElem?_eq_getElem hk]; rfl

theorem info5 : (Try.prog.info? 5).map (fun i => (i.zero, i.size, i.bytes)) = some (some (.int .u8 0), 1, 1) := by kernel_rfl

theorem wraps_u16 (n : Int) (h₀ : 0 ≤ n) (h₁ : n < 2 ^ 16) : IntKind.u16.wrap n = n := by simp [IntKind.wrap, IntKind.bits, IntKind.signed]; omega
theorem u16_and63 {x : Int} (h₀ : 0 ≤ x) (h₁ : x < 65536) : bits .and .u16 x 63 = x % 64 := bits_mask .u16 16 (by decide) wraps_u16 6 (by decide) x h₀ h₁

theorem or128 {y : Int} (h0 : 0 ≤ y) (h1 : y < 64) : bits BinOp.or IntKind.u8 128 y = 128 + y := u8_or128 y h0 h1

theorem enc_step {w w' : World} {v' : Value} {zs : List Int} {k m : Nat} {z : Int} {ls : List Value} (HH : Hid (encL (zs.take (k + 1)) = encL (zs.take k) ++ e1 z)) (hm : (e1 z).length = m) (hl : ls = (e1 z).map (.int .u8))
    (h : Out w w' 5 1 v' ((encL (zs.take k)).length + m) ((encL (zs.take k)).map (.int .u8) ++ ls)) :
    Out w w' 5 1 v' (encL (zs.take (k + 1))).length ((encL (zs.take (k + 1))).map (.int .u8)) := by
  rw [HH.out, List.length_append, List.map_append, hm, ← hl]; exact h
theorem e1_one {z : Int} (h0 : 0 < z) (h1 : z < 128) : e1 z = [z] := by simp [e1, h0, h1]
theorem e1_two {z : Int} (h0 : z ≤ 0 ∨ 128 ≤ z) (h1 : z < 2048) : e1 z = [192 + z / 64, 128 + z % 64] := by
  unfold e1; rw [if_neg (by omega), if_pos h1]
theorem e1_three {z : Int} (h1 : 2048 ≤ z) : e1 z = [224 + z / 4096, 128 + z / 64 % 64, 128 + z % 64] := by
  unfold e1; rw [if_neg (by omega), if_neg (by omega)]

set_option maxHeartbeats 400000 in
theorem encode_any (a : Option Addr) (c : Nat) (zs : List Int) (w : World) (hv : Sl w (.slice a zs.length c) zs.length 1 (zs.map (.int .u16)))
    (hz : ∀ z ∈ zs, 0 ≤ z ∧ z ≤ 65535) (hn : zs.length ≤ 10000000) :
    Calls Try.prog 10 #[.slice a zs.length c] w fun e w' => ∃ v', e = .returned v' ∧ Out w w' 5 1 v' (encL zs).length ((encL zs).map (.int .u8)) := by
  have HV := hid hv; have HZ := hid hz; clear hv hz
  go_enter Try.func10, Try.ntmps10
  go_wp2
  go_loopw [3, 8] (fun v i wr => ∃ k : Nat, k ≤ zs.length ∧ i = .int .i64 k ∧ Out w wr 5 1 v (encL (zs.take k)).length ((encL (zs.take k)).map (.int .u8))) (fun _ i _ => zs.length - (intOf i).toNat)
  case atStart => exact ⟨0, Nat.zero_le _, rfl, Out.nil _ _ _⟩
  case round =>
    obtain ⟨k, hk, rfl, hout⟩ := hrel
    by_cases hlt : k < zs.length
    · have hts := take_snoc zs k hlt
      have HH : Hid (encL (zs.take (k + 1)) = encL (zs.take k) ++ e1 zs[k]) := by rw [hts]; exact encL_snoc _ _
      obtain ⟨z0, z1⟩ := HZ.out zs[k] (List.getElem_mem hlt)
      have hle : (encL (zs.take k)).length ≤ 3 * k := by have := encL_le (zs.take k); have := List.length_take_le k zs; omega
      clear hts
      obtain ⟨b, off, rfl, hc⟩ := (HV.out.below hout.below).ints hlt
      go_wp2_with (at_builtin; go_loud (refine wpList_append_lit w _ _ rfl _ _ 24 rfl 5 (.int .u8 0) 1 1 _ Try.underlying24 info5 rfl (by decide) _ _ _ hout rfl rfl rfl ?_ ?_ ?_ ?_))
      all_goals first | (intro v' w' hout' _hg) | omega | (simp [Value.oneCell']; done) | skip
      all_goals go_wp2
      all_goals go_roundw
      case measure => simp [intOf]; omega
      case measure => simp [intOf]; omega
      case measure => simp [intOf]; omega
      case measure => simp [intOf]; omega
      case rel => exact ⟨k + 1, by omega, by go_num, enc_step HH (by rw [e1_one (by omega) (by omega)]; rfl) (by rw [e1_one (by omega) (by omega)]; rfl) hout'⟩
      case rel => exact ⟨k + 1, by omega, by go_num, enc_step HH (by rw [e1_two (by omega) (by omega)]; rfl) (by rw [e1_two (by omega) (by omega), u16_and63 z0 (by omega), show zs[k] % 64 % 256 = zs[k] % 64 from by omega, or128 (y := zs[k] % 64) (by omega) (by omega)]; rfl) hout'⟩
      case rel => exact ⟨k + 1, by omega, by go_num, enc_step HH (by rw [e1_three (by omega)]; rfl) (by rw [e1_three (by omega), u16_and63 (x := zs[k] / 64) (by omega) (by omega), u16_and63 z0 (by omega), show zs[k] % 64 % 256 = zs[k] % 64 from by omega, show zs[k] / 64 % 64 % 256 = zs[k] / 64 % 64 from by omega, or128 (y := zs[k] / 64 % 64) (by omega) (by omega), or128 (y := zs[k] % 64) (by omega) (by omega)]; rfl) hout'⟩
      case rel => exact ⟨k + 1, by omega, by go_num, enc_step HH (by rw [e1_two (by omega) (by omega)]; rfl) (by rw [e1_two (by omega) (by omega), u16_and63 z0 (by omega), show zs[k] % 64 % 256 = zs[k] % 64 from by omega, or128 (y := zs[k] % 64) (by omega) (by omega)]; rfl) hout'⟩
    · rw [show zs.take k = zs from List.take_of_length_le (by omega)] at hout
      go_wp2
      go_ret
      exact ⟨_, rfl, hout⟩

theorem encode_sl (v : Value) (n : Nat) (zs : List Int) (w : World) (hv : Sl w v n 1 (zs.map (.int .u16))) (hz : ∀ z ∈ zs, 0 ≤ z ∧ z ≤ 65535) (hn : zs.length ≤ 10000000) :
    Calls Try.prog 10 #[v] w fun e w' => ∃ v', e = .returned v' ∧ Out w w' 5 1 v' (encL zs).length ((encL zs).map (.int .u8)) := by
  have hl : zs.length = n := by have := hv.1; simpa using this
  subst hl
  obtain ⟨a, c, rfl⟩ := hv.val
  exact encode_any a c zs w hv hz hn

end Go.Proofs.Ytngegkhcgomjcaa.utfs
