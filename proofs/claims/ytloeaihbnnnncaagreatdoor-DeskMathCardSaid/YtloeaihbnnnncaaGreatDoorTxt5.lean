/- Instructions as bytes, as the document does it: CodeBytes. Conditions: right instructions, their texts are not long, their numbers are of 64 bits. -/
import Derived.Test.YtloeaihbnnnncaaGreatDoorTxt4
import Derived.Laws.IdiomStrings
import Derived.Test.YtloeaihbnnnncaaGreatDoorIns4
import Derived.Lib.ItoaMem
set_option linter.unusedSimpArgs false
set_option linter.unusedVariables false
namespace Go.Proofs.YtloeaihbnnnncaaGreatDoor.txts
open Go.RowKit Go.Proofs.YtloeaihbnnnncaaGreatDoor.lib Go.Proofs.YtloeaihbnnnncaaGreatDoor.errs Go.Proofs.YtloeaihbnnnncaaGreatDoor.names Go.Proofs.YtloeaihbnnnncaaGreatDoor.descs Go.Proofs.YtloeaihbnnnncaaGreatDoor.ins Go.Proofs.YtloeaihbnnnncaaGreatDoor.nums

theorem dig_cut : ∀ d, d < 10 → (([48, 49, 50, 51, 52, 53, 54, 55, 56, 57] : List UInt8).take (d + 1)).drop d = [UInt8.ofNat (48 + d)] := by decide
theorem tmod_ten (m : Nat) : ((m : Int)).tmod 10 = ((m % 10 : Nat) : Int) := by rw [Int.tmod_eq_emod_of_nonneg (by omega)]; omega
theorem tdiv_ten (m : Nat) : ((m : Int)).tdiv 10 = ((m / 10 : Nat) : Int) := by rw [Int.tdiv_eq_ediv_of_nonneg (by omega)]; omega
theorem dec_small {m : Nat} (h : m < 10) : Lib.decDigits m = [UInt8.ofNat (48 + m)] := Lib.decDigits_one h
theorem dec_big {m : Nat} (h : ¬ m < 10) : Lib.decDigits m = Lib.decDigits (m / 10) ++ [UInt8.ofNat (48 + m % 10)] := by
  rw [Lib.decDigits, dif_neg h]

set_option maxRecDepth 100000 in
set_option maxHeartbeats 2000000 in
theorem digits_nat : ∀ (m : Nat) (w : World), m ≤ 9223372036854775807 → Calls Tryz.prog 16 #[.int .i64 (m : Int)] w fun e w' => e = .returned (.string (bs (Lib.decDigits m))) ∧ w = w' := by
  intro m
  induction m using Nat.strongRecOn with
  | ind m ih =>
    intro w hm
    have h1 : ((m : Int) == -9223372036854775808) = false := by rw [beq_eq_false_iff_ne]; omega
    have h1n : ¬ (m : Int) = -9223372036854775808 := by omega
    have h2 : ¬ (m : Int) < 0 := by omega
    have h3 := tmod_ten m
    obtain ⟨d, hd⟩ : ∃ d, m % 10 = d := ⟨_, rfl⟩
    rw [hd] at h3
    have hd10 : d < 10 := by omega
    have h4 : (0 : Int) ≤ (d : Int) := by omega
    have h5 : (d : Int) ≤ 9 := by omega
    have h6 : ((d : Int) + 1).toNat = d + 1 := by omega
    have h7 : IntKind.i64.wrap ((d : Int) + 1) = (d : Int) + 1 := by rw [IntKind.wrap_i64]; omega
    have HEX : Hid (({ data := #[48, 49, 50, 51, 52, 53, 54, 55, 56, 57] } : ByteArray).extract d (d + 1) = bs [UInt8.ofNat (48 + d)]) := hid (by
      rw [extract_bs]
      exact congrArg bs (dig_cut d hd10))
    by_cases hs : m < 10
    · have hs2 : (m : Int) < 10 := by omega
      have HR : Hid (bs (Lib.decDigits m) = bs [UInt8.ofNat (48 + d)]) := hid (by rw [dec_small hs, ← hd, Nat.mod_eq_of_lt hs])
      clear ih hd
      go_enter Tryz.func16, Tryz.ntmps16
      go_wp2
      go_ret
      rw [HR.out, ← HEX.out]
      exact ⟨rfl, rfl⟩
    · have hs2 : ¬ (m : Int) < 10 := by omega
      have HI := hid (ih (m / 10) (by omega) · (by omega))
      have h8 := tdiv_ten m
      obtain ⟨q, hq⟩ : ∃ q, m / 10 = q := ⟨_, rfl⟩
      rw [hq] at HI h8
      have HR : Hid (bs (Lib.decDigits m) = bs (Lib.decDigits q) ++ bs [UInt8.ofNat (48 + d)]) := hid (by
        rw [dec_big hs, hq, hd]
        exact (bs_of (by rw [ByteArray.data_append, Array.toList_append]; rfl)).symm)
      have hdl : (bs (Lib.decDigits q)).size ≤ 21 := by
        have := Lib.itoa_length_le (q : Int) (by omega) (by omega)
        rw [Lib.itoa_nonneg] at this
        exact this
      have hql : wrap64 (q : Int) = (q : Int) := by unfold wrap64; omega
      clear ih hd hq
      obtain ⟨S, hS⟩ : ∃ S, bs (Lib.decDigits q) = S := ⟨_, rfl⟩
      rw [hS] at HI HR hdl
      clear hS
      go_enter Tryz.func16, Tryz.ntmps16
      go_wp2_with fail
      refine (HI.out _).mono ?_
      rintro e w2 ⟨rfl, hww⟩
      obtain rfl := hww.symm
      go_wp2
      go_ret
      rw [HR.out, ← HEX.out]
      exact ⟨rfl, rfl⟩

theorem itoa_least : bs (Lib.itoa (-9223372036854775808)) = { data := #[45, 57, 50, 50, 51, 51, 55, 50, 48, 51, 54, 56, 53, 52, 55, 55, 53, 56, 48, 56] } := by
  have : Lib.itoa (-9223372036854775808) = 45 :: Lib.decDigits 9223372036854775808 := by decide +kernel
  rw [this]
  simp only [bs]
  congr 1
  simp [Lib.decDigits]
set_option maxRecDepth 100000 in
set_option maxHeartbeats 2000000 in
theorem digits_any (n : Int) (w : World) (h : InR n) : Calls Tryz.prog 16 #[.int .i64 n] w fun e w' => e = .returned (.string (bs (Lib.itoa n))) ∧ w = w' := by
  by_cases h0 : 0 ≤ n
  · obtain ⟨m, rfl⟩ : ∃ m : Nat, n = (m : Int) := ⟨n.toNat, by omega⟩
    rw [Lib.itoa_nonneg]
    exact digits_nat m w (by unfold InR at h; omega)
  · by_cases h1 : n = -9223372036854775808
    · subst h1
      rw [itoa_least]
      clear h h0
      go_enter Tryz.func16, Tryz.ntmps16
      go_wp2
      go_ret
      exact ⟨rfl, rfl⟩
    · obtain ⟨m, rfl⟩ : ∃ m : Nat, n = -(m : Int) := ⟨n.natAbs, by omega⟩
      unfold InR at h
      have hm1 : 1 ≤ m := by omega
      have HI := hid (digits_nat m · (by omega))
      have e1 : (-(m : Int) == -9223372036854775808) = false := by simpa using h1
      have e2 : -(m : Int) < 0 := by omega
      have e3 : wrap64 (- -(m : Int)) = (m : Int) := by unfold wrap64; omega
      have e4 : wrap64 (m : Int) = (m : Int) := by unfold wrap64; omega
      have HR : Hid (bs (Lib.itoa (-(m : Int))) = { data := #[45] } ++ bs (Lib.decDigits m)) := hid (by
        rw [Lib.itoa_neg m hm1]
        exact (bs_of (by rw [ByteArray.data_append, Array.toList_append]; rfl)).symm)
      have hdl : (bs (Lib.decDigits m)).size ≤ 21 := by
        have := Lib.itoa_length_le (m : Int) (by omega) (by omega)
        rw [Lib.itoa_nonneg] at this
        exact this
      obtain ⟨S, hS⟩ : ∃ S, bs (Lib.decDigits m) = S := ⟨_, rfl⟩
      rw [hS] at HI HR hdl
      clear hS h h0 h1
      go_enter Tryz.func16, Tryz.ntmps16
      go_wp2_with fail
      refine (HI.out _).mono ?_
      rintro e w2 ⟨rfl, hww⟩
      obtain rfl := hww.symm
      go_wp2
      go_ret
      rw [HR.out]
      exact ⟨rfl, rfl⟩

theorem words_at {k : Nat} {wd nd : List UInt8} (hk : formTab[k]? = some (wd, nd)) : (#[.string { data := #[] }, .string { data := #[110, 111, 112] }, .string { data := #[112, 117, 115, 104] }, .string { data := #[110, 117, 108, 108] }, .string { data := #[108, 111, 97, 100] }, .string { data := #[115, 116, 111, 114, 101] }, .string { data := #[112, 111, 112] }, .string { data := #[100, 117, 112] }, .string { data := #[115, 119, 97, 112] }, .string { data := #[109, 97, 116, 104] }, .string { data := #[99, 111, 110, 118] }, .string { data := #[111, 114, 100, 101, 114] }, .string { data := #[105, 102] }, .string { data := #[105, 102, 110, 117, 108, 108] }, .string { data := #[103, 111, 116, 111] }, .string { data := #[110, 101, 119] }, .string { data := #[103, 101, 116] }, .string { data := #[112, 117, 116] }, .string { data := #[110, 101, 119, 97, 114, 114, 97, 121] }, .string { data := #[108, 101, 110, 103, 116, 104] }, .string { data := #[97, 108, 111, 97, 100] }, .string { data := #[97, 115, 116, 111, 114, 101] }, .string { data := #[99, 97, 115, 116] }, .string { data := #[105, 115] }, .string { data := #[99, 97, 108, 108] }, .string { data := #[99, 97, 108, 108, 115] }, .string { data := #[114, 101, 116, 117, 114, 110] }, .string { data := #[103, 105, 118, 101] }, .string { data := #[116, 104, 114, 111, 119] }] : Array Value)[k]? = some (.string (bs wd)) := by
  have e : (#[.string { data := #[] }, .string { data := #[110, 111, 112] }, .string { data := #[112, 117, 115, 104] }, .string { data := #[110, 117, 108, 108] }, .string { data := #[108, 111, 97, 100] }, .string { data := #[115, 116, 111, 114, 101] }, .string { data := #[112, 111, 112] }, .string { data := #[100, 117, 112] }, .string { data := #[115, 119, 97, 112] }, .string { data := #[109, 97, 116, 104] }, .string { data := #[99, 111, 110, 118] }, .string { data := #[111, 114, 100, 101, 114] }, .string { data := #[105, 102] }, .string { data := #[105, 102, 110, 117, 108, 108] }, .string { data := #[103, 111, 116, 111] }, .string { data := #[110, 101, 119] }, .string { data := #[103, 101, 116] }, .string { data := #[112, 117, 116] }, .string { data := #[110, 101, 119, 97, 114, 114, 97, 121] }, .string { data := #[108, 101, 110, 103, 116, 104] }, .string { data := #[97, 108, 111, 97, 100] }, .string { data := #[97, 115, 116, 111, 114, 101] }, .string { data := #[99, 97, 115, 116] }, .string { data := #[105, 115] }, .string { data := #[99, 97, 108, 108] }, .string { data := #[99, 97, 108, 108, 115] }, .string { data := #[114, 101, 116, 117, 114, 110] }, .string { data := #[103, 105, 118, 101] }, .string { data := #[116, 104, 114, 111, 119] }] : Array Value) = (formTab.map fun p => Value.string (bs p.1)).toArray := rfl
  rw [e, List.getElem?_toArray, List.getElem?_map, hk]; rfl
end Go.Proofs.YtloeaihbnnnncaaGreatDoor.txts

set_option linter.unusedSimpArgs false
set_option linter.unusedVariables false
namespace Go.Proofs.YtloeaihbnnnncaaGreatDoor.txts
open Go.RowKit Go.Proofs.YtloeaihbnnnncaaGreatDoor.lib Go.Proofs.YtloeaihbnnnncaaGreatDoor.errs Go.Proofs.YtloeaihbnnnncaaGreatDoor.names Go.Proofs.YtloeaihbnnnncaaGreatDoor.descs Go.Proofs.YtloeaihbnnnncaaGreatDoor.ins Go.Proofs.YtloeaihbnnnncaaGreatDoor.nums

set_option maxRecDepth 100000 in
set_option maxHeartbeats 2000000 in
theorem rtext0 (k : Nat) (a b : Int) (t c n : ByteArray) (w : World) (ht : t.size ≤ 10000000) (hc : c.size ≤ 10000000) (hn : n.size ≤ 10000000) (ha : InR a) (hb : InR b)
    (wd nd : List UInt8) (hk : formTab[k]? = some (wd, nd)) (h1 : 1 ≤ k) (h2 : k ≤ 28) (hnd : nd = []) :
    Calls Tryz.prog 19 #[.agg #[.int .i64 (k : Int), .int .i64 a, .int .i64 b, .string t, .string c, .string n]] w fun e w' => e = .returned (.string (bs (wd ++ tailL ⟨(k : Int), a, b, t, c, n⟩ nd))) ∧ Below w.heap.size w w' := by
  obtain ⟨eA, eB, eT, eC, eN, _⟩ := pat_of hk h1 h2
  have hw20 := (letters_ok hk).2.2
  have hwo := words_at hk
  subst hnd
  obtain ⟨X1, hX1⟩ : ∃ X1, w.alloc (.cells #[.int .i64 (k : Int), .int .i64 a, .int .i64 b, .string t, .string c, .string n] 61) = X1 := ⟨_, rfl⟩
  have HB1 : Hid (Below w.heap.size w X1) := hid (hX1 ▸ ext_alloc _ _)
  have HX : Hid (Box X1 w.heap.size ⟨(k : Int), a, b, t, c, n⟩) := hid (hX1 ▸ Box.new w ⟨(k : Int), a, b, t, c, n⟩ _)
  obtain ⟨X2, hX2⟩ : ∃ X2, X1.alloc (.cells #[.string { data := #[] }, .string { data := #[110, 111, 112] }, .string { data := #[112, 117, 115, 104] }, .string { data := #[110, 117, 108, 108] }, .string { data := #[108, 111, 97, 100] }, .string { data := #[115, 116, 111, 114, 101] }, .string { data := #[112, 111, 112] }, .string { data := #[100, 117, 112] }, .string { data := #[115, 119, 97, 112] }, .string { data := #[109, 97, 116, 104] }, .string { data := #[99, 111, 110, 118] }, .string { data := #[111, 114, 100, 101, 114] }, .string { data := #[105, 102] }, .string { data := #[105, 102, 110, 117, 108, 108] }, .string { data := #[103, 111, 116, 111] }, .string { data := #[110, 101, 119] }, .string { data := #[103, 101, 116] }, .string { data := #[112, 117, 116] }, .string { data := #[110, 101, 119, 97, 114, 114, 97, 121] }, .string { data := #[108, 101, 110, 103, 116, 104] }, .string { data := #[97, 108, 111, 97, 100] }, .string { data := #[97, 115, 116, 111, 114, 101] }, .string { data := #[99, 97, 115, 116] }, .string { data := #[105, 115] }, .string { data := #[99, 97, 108, 108] }, .string { data := #[99, 97, 108, 108, 115] }, .string { data := #[114, 101, 116, 117, 114, 110] }, .string { data := #[103, 105, 118, 101] }, .string { data := #[116, 104, 114, 111, 119] }] 9) = X2 := ⟨_, rfl⟩
  have HE2 : Hid (Below X1.heap.size X1 X2) := hid (hX2 ▸ ext_alloc _ _)
  have HB2 := hid (HB1.out.trans (HE2.out.mono HB1.out.size))
  have HW2 : Hid (X2.cell? ⟨X1.heap.size, k, none⟩ = some (.string (bs wd))) := hid (by rw [← hX2, World.cell?_alloc_at _ _ _ _ rfl]; exact hwo)
  have HX2 := hid (HX.out.below HE2.out)
  obtain ⟨x0, x1, x2, x3, x4, x5⟩ := HX2.out
  simp only at x0 x1 x2 x3 x4 x5
  have HN := hid (needs_any k h1 h2 X2)
  rw [eA, eB, eT, eC, eN] at HN
  have HN2 : Hid (Calls Tryz.prog 44 #[.int .i64 (k : Int)] X2 fun e w' => e = .returned (.agg #[.bool false, .bool false, .bool false, .bool false, .bool false]) ∧ Below X2.heap.size X2 w') := HN
  have Ha := hid (digits_any a · ha)
  have Hb := hid (digits_any b · hb)
  have ka := Lib.itoa_length_le a ha.1 ha.2
  have kb := Lib.itoa_length_le b hb.1 hb.2
  have k3 : (k : Int) < 29 := by omega
  have k4 : (0 : Int) ≤ (k : Int) := by omega
  have HFIN : Hid (∀ J : ByteArray, J.data.toList = wd ++ tailL ⟨(k : Int), a, b, t, c, n⟩ [] → J = bs (wd ++ tailL ⟨(k : Int), a, b, t, c, n⟩ [])) := hid (fun J h => bs_of h)
  have hwz : (bs wd).size ≤ 20 := hw20
  have hza : (bs (Lib.itoa a)).size ≤ 21 := ka
  have hzb : (bs (Lib.itoa b)).size ≤ 21 := kb
  obtain ⟨V, hV⟩ : ∃ V, bs wd = V := ⟨_, rfl⟩
  obtain ⟨A', hA'⟩ : ∃ V, bs (Lib.itoa a) = V := ⟨_, rfl⟩
  obtain ⟨B', hB'⟩ : ∃ V, bs (Lib.itoa b) = V := ⟨_, rfl⟩
  rw [hV] at HW2 hwz
  rw [hA'] at Ha hza
  rw [hB'] at Hb hzb
  have HV := hid hV
  have HA' := hid hA'
  have HB' := hid hB'
  clear ha hb ka kb hk h1 h2 eA eB eT eC eN hwo hw20 HN hV hA' hB'
  go_enter Tryz.func19, Tryz.ntmps19
  go_wp2_with fail
  refine HN2.out.mono ?_
  rintro e w3 ⟨rfl, hb3⟩
  have HB3 := hid (HB2.out.trans (hb3.mono HB2.out.size))
  have HX3 := hid (HX2.out.below hb3)
  have HW3 := hid ((hb3.cell (World.block_lt_of_cell? _ _ HW2.out)).trans HW2.out)
  clear x0 x1 x2 x3 x4 x5 hb3 hX2 hX1
  obtain ⟨x0, x1, x2, x3, x4, x5⟩ := HX3.out
  simp only at x0 x1 x2 x3 x4 x5
  have hw4 := HW3.out
  have hl1 : w.heap.size < w3.heap.size := World.block_lt_of_cell? _ _ x0
  have hl2 : X1.heap.size < w3.heap.size := World.block_lt_of_cell? _ _ hw4
  have HB4 : Hid (∀ o, Below w.heap.size w (w3.alloc o)) := hid (fun o => HB3.out.alloc HB3.out.size o)
  go_wp2
  go_ret
  refine ⟨congrArg (fun s => Ending.returned (.string s)) (HFIN.out _ ?_), HB4.out _⟩
  try rw [← HV.out]
  try rw [← HA'.out]
  try rw [← HB'.out]
  simp [tailL, partL, bs, ByteArray.data_append]

set_option maxRecDepth 100000 in
set_option maxHeartbeats 2000000 in
theorem rtext1 (k : Nat) (a b : Int) (t c n : ByteArray) (w : World) (ht : t.size ≤ 10000000) (hc : c.size ≤ 10000000) (hn : n.size ≤ 10000000) (ha : InR a) (hb : InR b)
    (wd nd : List UInt8) (hk : formTab[k]? = some (wd, nd)) (h1 : 1 ≤ k) (h2 : k ≤ 28) (hnd : nd = [65]) :
    Calls Tryz.prog 19 #[.agg #[.int .i64 (k : Int), .int .i64 a, .int .i64 b, .string t, .string c, .string n]] w fun e w' => e = .returned (.string (bs (wd ++ tailL ⟨(k : Int), a, b, t, c, n⟩ nd))) ∧ Below w.heap.size w w' := by
  obtain ⟨eA, eB, eT, eC, eN, _⟩ := pat_of hk h1 h2
  have hw20 := (letters_ok hk).2.2
  have hwo := words_at hk
  subst hnd
  obtain ⟨X1, hX1⟩ : ∃ X1, w.alloc (.cells #[.int .i64 (k : Int), .int .i64 a, .int .i64 b, .string t, .string c, .string n] 61) = X1 := ⟨_, rfl⟩
  have HB1 : Hid (Below w.heap.size w X1) := hid (hX1 ▸ ext_alloc _ _)
  have HX : Hid (Box X1 w.heap.size ⟨(k : Int), a, b, t, c, n⟩) := hid (hX1 ▸ Box.new w ⟨(k : Int), a, b, t, c, n⟩ _)
  obtain ⟨X2, hX2⟩ : ∃ X2, X1.alloc (.cells #[.string { data := #[] }, .string { data := #[110, 111, 112] }, .string { data := #[112, 117, 115, 104] }, .string { data := #[110, 117, 108, 108] }, .string { data := #[108, 111, 97, 100] }, .string { data := #[115, 116, 111, 114, 101] }, .string { data := #[112, 111, 112] }, .string { data := #[100, 117, 112] }, .string { data := #[115, 119, 97, 112] }, .string { data := #[109, 97, 116, 104] }, .string { data := #[99, 111, 110, 118] }, .string { data := #[111, 114, 100, 101, 114] }, .string { data := #[105, 102] }, .string { data := #[105, 102, 110, 117, 108, 108] }, .string { data := #[103, 111, 116, 111] }, .string { data := #[110, 101, 119] }, .string { data := #[103, 101, 116] }, .string { data := #[112, 117, 116] }, .string { data := #[110, 101, 119, 97, 114, 114, 97, 121] }, .string { data := #[108, 101, 110, 103, 116, 104] }, .string { data := #[97, 108, 111, 97, 100] }, .string { data := #[97, 115, 116, 111, 114, 101] }, .string { data := #[99, 97, 115, 116] }, .string { data := #[105, 115] }, .string { data := #[99, 97, 108, 108] }, .string { data := #[99, 97, 108, 108, 115] }, .string { data := #[114, 101, 116, 117, 114, 110] }, .string { data := #[103, 105, 118, 101] }, .string { data := #[116, 104, 114, 111, 119] }] 9) = X2 := ⟨_, rfl⟩
  have HE2 : Hid (Below X1.heap.size X1 X2) := hid (hX2 ▸ ext_alloc _ _)
  have HB2 := hid (HB1.out.trans (HE2.out.mono HB1.out.size))
  have HW2 : Hid (X2.cell? ⟨X1.heap.size, k, none⟩ = some (.string (bs wd))) := hid (by rw [← hX2, World.cell?_alloc_at _ _ _ _ rfl]; exact hwo)
  have HX2 := hid (HX.out.below HE2.out)
  obtain ⟨x0, x1, x2, x3, x4, x5⟩ := HX2.out
  simp only at x0 x1 x2 x3 x4 x5
  have HN := hid (needs_any k h1 h2 X2)
  rw [eA, eB, eT, eC, eN] at HN
  have HN2 : Hid (Calls Tryz.prog 44 #[.int .i64 (k : Int)] X2 fun e w' => e = .returned (.agg #[.bool true, .bool false, .bool false, .bool false, .bool false]) ∧ Below X2.heap.size X2 w') := HN
  have Ha := hid (digits_any a · ha)
  have Hb := hid (digits_any b · hb)
  have ka := Lib.itoa_length_le a ha.1 ha.2
  have kb := Lib.itoa_length_le b hb.1 hb.2
  have k3 : (k : Int) < 29 := by omega
  have k4 : (0 : Int) ≤ (k : Int) := by omega
  have HFIN : Hid (∀ J : ByteArray, J.data.toList = wd ++ tailL ⟨(k : Int), a, b, t, c, n⟩ [65] → J = bs (wd ++ tailL ⟨(k : Int), a, b, t, c, n⟩ [65])) := hid (fun J h => bs_of h)
  have hwz : (bs wd).size ≤ 20 := hw20
  have hza : (bs (Lib.itoa a)).size ≤ 21 := ka
  have hzb : (bs (Lib.itoa b)).size ≤ 21 := kb
  obtain ⟨V, hV⟩ : ∃ V, bs wd = V := ⟨_, rfl⟩
  obtain ⟨A', hA'⟩ : ∃ V, bs (Lib.itoa a) = V := ⟨_, rfl⟩
  obtain ⟨B', hB'⟩ : ∃ V, bs (Lib.itoa b) = V := ⟨_, rfl⟩
  rw [hV] at HW2 hwz
  rw [hA'] at Ha hza
  rw [hB'] at Hb hzb
  have HV := hid hV
  have HA' := hid hA'
  have HB' := hid hB'
  clear ha hb ka kb hk h1 h2 eA eB eT eC eN hwo hw20 HN hV hA' hB'
  go_enter Tryz.func19, Tryz.ntmps19
  go_wp2_with fail
  refine HN2.out.mono ?_
  rintro e w3 ⟨rfl, hb3⟩
  have HB3 := hid (HB2.out.trans (hb3.mono HB2.out.size))
  have HX3 := hid (HX2.out.below hb3)
  have HW3 := hid ((hb3.cell (World.block_lt_of_cell? _ _ HW2.out)).trans HW2.out)
  clear x0 x1 x2 x3 x4 x5 hb3 hX2 hX1
  obtain ⟨x0, x1, x2, x3, x4, x5⟩ := HX3.out
  simp only at x0 x1 x2 x3 x4 x5
  have hw4 := HW3.out
  have hl1 : w.heap.size < w3.heap.size := World.block_lt_of_cell? _ _ x0
  have hl2 : X1.heap.size < w3.heap.size := World.block_lt_of_cell? _ _ hw4
  have HB4 : Hid (∀ o, Below w.heap.size w (w3.alloc o)) := hid (fun o => HB3.out.alloc HB3.out.size o)
  go_wp2_with fail
  refine (Ha.out _).mono ?_
  rintro e w65 ⟨rfl, hww⟩
  obtain rfl := hww.symm
  go_wp2
  go_ret
  refine ⟨congrArg (fun s => Ending.returned (.string s)) (HFIN.out _ ?_), HB4.out _⟩
  try rw [← HV.out]
  try rw [← HA'.out]
  try rw [← HB'.out]
  simp [tailL, partL, bs, ByteArray.data_append]

end Go.Proofs.YtloeaihbnnnncaaGreatDoor.txts

set_option linter.unusedSimpArgs false
set_option linter.unusedVariables false
namespace Go.Proofs.YtloeaihbnnnncaaGreatDoor.txts
open Go.RowKit Go.Proofs.YtloeaihbnnnncaaGreatDoor.lib Go.Proofs.YtloeaihbnnnncaaGreatDoor.errs Go.Proofs.YtloeaihbnnnncaaGreatDoor.names Go.Proofs.YtloeaihbnnnncaaGreatDoor.descs Go.Proofs.YtloeaihbnnnncaaGreatDoor.ins Go.Proofs.YtloeaihbnnnncaaGreatDoor.nums

set_option maxRecDepth 100000 in
set_option maxHeartbeats 2000000 in
theorem rtext2 (k : Nat) (a b : Int) (t c n : ByteArray) (w : World) (ht : t.size ≤ 10000000) (hc : c.size ≤ 10000000) (hn : n.size ≤ 10000000) (ha : InR a) (hb : InR b)
    (wd nd : List UInt8) (hk : formTab[k]? = some (wd, nd)) (h1 : 1 ≤ k) (h2 : k ≤ 28) (hnd : nd = [84]) :
    Calls Tryz.prog 19 #[.agg #[.int .i64 (k : Int), .int .i64 a, .int .i64 b, .string t, .string c, .string n]] w fun e w' => e = .returned (.string (bs (wd ++ tailL ⟨(k : Int), a, b, t, c, n⟩ nd))) ∧ Below w.heap.size w w' := by
  obtain ⟨eA, eB, eT, eC, eN, _⟩ := pat_of hk h1 h2
  have hw20 := (letters_ok hk).2.2
  have hwo := words_at hk
  subst hnd
  obtain ⟨X1, hX1⟩ : ∃ X1, w.alloc (.cells #[.int .i64 (k : Int), .int .i64 a, .int .i64 b, .string t, .string c, .string n] 61) = X1 := ⟨_, rfl⟩
  have HB1 : Hid (Below w.heap.size w X1) := hid (hX1 ▸ ext_alloc _ _)
  have HX : Hid (Box X1 w.heap.size ⟨(k : Int), a, b, t, c, n⟩) := hid (hX1 ▸ Box.new w ⟨(k : Int), a, b, t, c, n⟩ _)
  obtain ⟨X2, hX2⟩ : ∃ X2, X1.alloc (.cells #[.string { data := #[] }, .string { data := #[110, 111, 112] }, .string { data := #[112, 117, 115, 104] }, .string { data := #[110, 117, 108, 108] }, .string { data := #[108, 111, 97, 100] }, .string { data := #[115, 116, 111, 114, 101] }, .string { data := #[112, 111, 112] }, .string { data := #[100, 117, 112] }, .string { data := #[115, 119, 97, 112] }, .string { data := #[109, 97, 116, 104] }, .string { data := #[99, 111, 110, 118] }, .string { data := #[111, 114, 100, 101, 114] }, .string { data := #[105, 102] }, .string { data := #[105, 102, 110, 117, 108, 108] }, .string { data := #[103, 111, 116, 111] }, .string { data := #[110, 101, 119] }, .string { data := #[103, 101, 116] }, .string { data := #[112, 117, 116] }, .string { data := #[110, 101, 119, 97, 114, 114, 97, 121] }, .string { data := #[108, 101, 110, 103, 116, 104] }, .string { data := #[97, 108, 111, 97, 100] }, .string { data := #[97, 115, 116, 111, 114, 101] }, .string { data := #[99, 97, 115, 116] }, .string { data := #[105, 115] }, .string { data := #[99, 97, 108, 108] }, .string { data := #[99, 97, 108, 108, 115] }, .string { data := #[114, 101, 116, 117, 114, 110] }, .string { data := #[103, 105, 118, 101] }, .string { data := #[116, 104, 114, 111, 119] }] 9) = X2 := ⟨_, rfl⟩
  have HE2 : Hid (Below X1.heap.size X1 X2) := hid (hX2 ▸ ext_alloc _ _)
  have HB2 := hid (HB1.out.trans (HE2.out.mono HB1.out.size))
  have HW2 : Hid (X2.cell? ⟨X1.heap.size, k, none⟩ = some (.string (bs wd))) := hid (by rw [← hX2, World.cell?_alloc_at _ _ _ _ rfl]; exact hwo)
  have HX2 := hid (HX.out.below HE2.out)
  obtain ⟨x0, x1, x2, x3, x4, x5⟩ := HX2.out
  simp only at x0 x1 x2 x3 x4 x5
  have HN := hid (needs_any k h1 h2 X2)
  rw [eA, eB, eT, eC, eN] at HN
  have HN2 : Hid (Calls Tryz.prog 44 #[.int .i64 (k : Int)] X2 fun e w' => e = .returned (.agg #[.bool false, .bool false, .bool true, .bool false, .bool false]) ∧ Below X2.heap.size X2 w') := HN
  have Ha := hid (digits_any a · ha)
  have Hb := hid (digits_any b · hb)
  have ka := Lib.itoa_length_le a ha.1 ha.2
  have kb := Lib.itoa_length_le b hb.1 hb.2
  have k3 : (k : Int) < 29 := by omega
  have k4 : (0 : Int) ≤ (k : Int) := by omega
  have HFIN : Hid (∀ J : ByteArray, J.data.toList = wd ++ tailL ⟨(k : Int), a, b, t, c, n⟩ [84] → J = bs (wd ++ tailL ⟨(k : Int), a, b, t, c, n⟩ [84])) := hid (fun J h => bs_of h)
  have hwz : (bs wd).size ≤ 20 := hw20
  have hza : (bs (Lib.itoa a)).size ≤ 21 := ka
  have hzb : (bs (Lib.itoa b)).size ≤ 21 := kb
  obtain ⟨V, hV⟩ : ∃ V, bs wd = V := ⟨_, rfl⟩
  obtain ⟨A', hA'⟩ : ∃ V, bs (Lib.itoa a) = V := ⟨_, rfl⟩
  obtain ⟨B', hB'⟩ : ∃ V, bs (Lib.itoa b) = V := ⟨_, rfl⟩
  rw [hV] at HW2 hwz
  rw [hA'] at Ha hza
  rw [hB'] at Hb hzb
  have HV := hid hV
  have HA' := hid hA'
  have HB' := hid hB'
  clear ha hb ka kb hk h1 h2 eA eB eT eC eN hwo hw20 HN hV hA' hB'
  go_enter Tryz.func19, Tryz.ntmps19
  go_wp2_with fail
  refine HN2.out.mono ?_
  rintro e w3 ⟨rfl, hb3⟩
  have HB3 := hid (HB2.out.trans (hb3.mono HB2.out.size))
  have HX3 := hid (HX2.out.below hb3)
  have HW3 := hid ((hb3.cell (World.block_lt_of_cell? _ _ HW2.out)).trans HW2.out)
  clear x0 x1 x2 x3 x4 x5 hb3 hX2 hX1
  obtain ⟨x0, x1, x2, x3, x4, x5⟩ := HX3.out
  simp only at x0 x1 x2 x3 x4 x5
  have hw4 := HW3.out
  have hl1 : w.heap.size < w3.heap.size := World.block_lt_of_cell? _ _ x0
  have hl2 : X1.heap.size < w3.heap.size := World.block_lt_of_cell? _ _ hw4
  have HB4 : Hid (∀ o, Below w.heap.size w (w3.alloc o)) := hid (fun o => HB3.out.alloc HB3.out.size o)
  go_wp2
  go_ret
  refine ⟨congrArg (fun s => Ending.returned (.string s)) (HFIN.out _ ?_), HB4.out _⟩
  try rw [← HV.out]
  try rw [← HA'.out]
  try rw [← HB'.out]
  simp [tailL, partL, bs, ByteArray.data_append]

set_option maxRecDepth 100000 in
set_option maxHeartbeats 2000000 in
theorem rtext3 (k : Nat) (a b : Int) (t c n : ByteArray) (w : World) (ht : t.size ≤ 10000000) (hc : c.size ≤ 10000000) (hn : n.size ≤ 10000000) (ha : InR a) (hb : InR b)
    (wd nd : List UInt8) (hk : formTab[k]? = some (wd, nd)) (h1 : 1 ≤ k) (h2 : k ≤ 28) (hnd : nd = [67]) :
    Calls Tryz.prog 19 #[.agg #[.int .i64 (k : Int), .int .i64 a, .int .i64 b, .string t, .string c, .string n]] w fun e w' => e = .returned (.string (bs (wd ++ tailL ⟨(k : Int), a, b, t, c, n⟩ nd))) ∧ Below w.heap.size w w' := by
  obtain ⟨eA, eB, eT, eC, eN, _⟩ := pat_of hk h1 h2
  have hw20 := (letters_ok hk).2.2
  have hwo := words_at hk
  subst hnd
  obtain ⟨X1, hX1⟩ : ∃ X1, w.alloc (.cells #[.int .i64 (k : Int), .int .i64 a, .int .i64 b, .string t, .string c, .string n] 61) = X1 := ⟨_, rfl⟩
  have HB1 : Hid (Below w.heap.size w X1) := hid (hX1 ▸ ext_alloc _ _)
  have HX : Hid (Box X1 w.heap.size ⟨(k : Int), a, b, t, c, n⟩) := hid (hX1 ▸ Box.new w ⟨(k : Int), a, b, t, c, n⟩ _)
  obtain ⟨X2, hX2⟩ : ∃ X2, X1.alloc (.cells #[.string { data := #[] }, .string { data := #[110, 111, 112] }, .string { data := #[112, 117, 115, 104] }, .string { data := #[110, 117, 108, 108] }, .string { data := #[108, 111, 97, 100] }, .string { data := #[115, 116, 111, 114, 101] }, .string { data := #[112, 111, 112] }, .string { data := #[100, 117, 112] }, .string { data := #[115, 119, 97, 112] }, .string { data := #[109, 97, 116, 104] }, .string { data := #[99, 111, 110, 118] }, .string { data := #[111, 114, 100, 101, 114] }, .string { data := #[105, 102] }, .string { data := #[105, 102, 110, 117, 108, 108] }, .string { data := #[103, 111, 116, 111] }, .string { data := #[110, 101, 119] }, .string { data := #[103, 101, 116] }, .string { data := #[112, 117, 116] }, .string { data := #[110, 101, 119, 97, 114, 114, 97, 121] }, .string { data := #[108, 101, 110, 103, 116, 104] }, .string { data := #[97, 108, 111, 97, 100] }, .string { data := #[97, 115, 116, 111, 114, 101] }, .string { data := #[99, 97, 115, 116] }, .string { data := #[105, 115] }, .string { data := #[99, 97, 108, 108] }, .string { data := #[99, 97, 108, 108, 115] }, .string { data := #[114, 101, 116, 117, 114, 110] }, .string { data := #[103, 105, 118, 101] }, .string { data := #[116, 104, 114, 111, 119] }] 9) = X2 := ⟨_, rfl⟩
  have HE2 : Hid (Below X1.heap.size X1 X2) := hid (hX2 ▸ ext_alloc _ _)
  have HB2 := hid (HB1.out.trans (HE2.out.mono HB1.out.size))
  have HW2 : Hid (X2.cell? ⟨X1.heap.size, k, none⟩ = some (.string (bs wd))) := hid (by rw [← hX2, World.cell?_alloc_at _ _ _ _ rfl]; exact hwo)
  have HX2 := hid (HX.out.below HE2.out)
  obtain ⟨x0, x1, x2, x3, x4, x5⟩ := HX2.out
  simp only at x0 x1 x2 x3 x4 x5
  have HN := hid (needs_any k h1 h2 X2)
  rw [eA, eB, eT, eC, eN] at HN
  have HN2 : Hid (Calls Tryz.prog 44 #[.int .i64 (k : Int)] X2 fun e w' => e = .returned (.agg #[.bool false, .bool false, .bool false, .bool true, .bool false]) ∧ Below X2.heap.size X2 w') := HN
  have Ha := hid (digits_any a · ha)
  have Hb := hid (digits_any b · hb)
  have ka := Lib.itoa_length_le a ha.1 ha.2
  have kb := Lib.itoa_length_le b hb.1 hb.2
  have k3 : (k : Int) < 29 := by omega
  have k4 : (0 : Int) ≤ (k : Int) := by omega
  have HFIN : Hid (∀ J : ByteArray, J.data.toList = wd ++ tailL ⟨(k : Int), a, b, t, c, n⟩ [67] → J = bs (wd ++ tailL ⟨(k : Int), a, b, t, c, n⟩ [67])) := hid (fun J h => bs_of h)
  have hwz : (bs wd).size ≤ 20 := hw20
  have hza : (bs (Lib.itoa a)).size ≤ 21 := ka
  have hzb : (bs (Lib.itoa b)).size ≤ 21 := kb
  obtain ⟨V, hV⟩ : ∃ V, bs wd = V := ⟨_, rfl⟩
  obtain ⟨A', hA'⟩ : ∃ V, bs (Lib.itoa a) = V := ⟨_, rfl⟩
  obtain ⟨B', hB'⟩ : ∃ V, bs (Lib.itoa b) = V := ⟨_, rfl⟩
  rw [hV] at HW2 hwz
  rw [hA'] at Ha hza
  rw [hB'] at Hb hzb
  have HV := hid hV
  have HA' := hid hA'
  have HB' := hid hB'
  clear ha hb ka kb hk h1 h2 eA eB eT eC eN hwo hw20 HN hV hA' hB'
  go_enter Tryz.func19, Tryz.ntmps19
  go_wp2_with fail
  refine HN2.out.mono ?_
  rintro e w3 ⟨rfl, hb3⟩
  have HB3 := hid (HB2.out.trans (hb3.mono HB2.out.size))
  have HX3 := hid (HX2.out.below hb3)
  have HW3 := hid ((hb3.cell (World.block_lt_of_cell? _ _ HW2.out)).trans HW2.out)
  clear x0 x1 x2 x3 x4 x5 hb3 hX2 hX1
  obtain ⟨x0, x1, x2, x3, x4, x5⟩ := HX3.out
  simp only at x0 x1 x2 x3 x4 x5
  have hw4 := HW3.out
  have hl1 : w.heap.size < w3.heap.size := World.block_lt_of_cell? _ _ x0
  have hl2 : X1.heap.size < w3.heap.size := World.block_lt_of_cell? _ _ hw4
  have HB4 : Hid (∀ o, Below w.heap.size w (w3.alloc o)) := hid (fun o => HB3.out.alloc HB3.out.size o)
  go_wp2
  go_ret
  refine ⟨congrArg (fun s => Ending.returned (.string s)) (HFIN.out _ ?_), HB4.out _⟩
  try rw [← HV.out]
  try rw [← HA'.out]
  try rw [← HB'.out]
  simp [tailL, partL, bs, ByteArray.data_append]

end Go.Proofs.YtloeaihbnnnncaaGreatDoor.txts

set_option linter.unusedSimpArgs false
set_option linter.unusedVariables false
namespace Go.Proofs.YtloeaihbnnnncaaGreatDoor.txts
open Go.RowKit Go.Proofs.YtloeaihbnnnncaaGreatDoor.lib Go.Proofs.YtloeaihbnnnncaaGreatDoor.errs Go.Proofs.YtloeaihbnnnncaaGreatDoor.names Go.Proofs.YtloeaihbnnnncaaGreatDoor.descs Go.Proofs.YtloeaihbnnnncaaGreatDoor.ins Go.Proofs.YtloeaihbnnnncaaGreatDoor.nums

set_option maxRecDepth 100000 in
set_option maxHeartbeats 2000000 in
theorem rtext4 (k : Nat) (a b : Int) (t c n : ByteArray) (w : World) (ht : t.size ≤ 10000000) (hc : c.size ≤ 10000000) (hn : n.size ≤ 10000000) (ha : InR a) (hb : InR b)
    (wd nd : List UInt8) (hk : formTab[k]? = some (wd, nd)) (h1 : 1 ≤ k) (h2 : k ≤ 28) (hnd : nd = [65, 84]) :
    Calls Tryz.prog 19 #[.agg #[.int .i64 (k : Int), .int .i64 a, .int .i64 b, .string t, .string c, .string n]] w fun e w' => e = .returned (.string (bs (wd ++ tailL ⟨(k : Int), a, b, t, c, n⟩ nd))) ∧ Below w.heap.size w w' := by
  obtain ⟨eA, eB, eT, eC, eN, _⟩ := pat_of hk h1 h2
  have hw20 := (letters_ok hk).2.2
  have hwo := words_at hk
  subst hnd
  obtain ⟨X1, hX1⟩ : ∃ X1, w.alloc (.cells #[.int .i64 (k : Int), .int .i64 a, .int .i64 b, .string t, .string c, .string n] 61) = X1 := ⟨_, rfl⟩
  have HB1 : Hid (Below w.heap.size w X1) := hid (hX1 ▸ ext_alloc _ _)
  have HX : Hid (Box X1 w.heap.size ⟨(k : Int), a, b, t, c, n⟩) := hid (hX1 ▸ Box.new w ⟨(k : Int), a, b, t, c, n⟩ _)
  obtain ⟨X2, hX2⟩ : ∃ X2, X1.alloc (.cells #[.string { data := #[] }, .string { data := #[110, 111, 112] }, .string { data := #[112, 117, 115, 104] }, .string { data := #[110, 117, 108, 108] }, .string { data := #[108, 111, 97, 100] }, .string { data := #[115, 116, 111, 114, 101] }, .string { data := #[112, 111, 112] }, .string { data := #[100, 117, 112] }, .string { data := #[115, 119, 97, 112] }, .string { data := #[109, 97, 116, 104] }, .string { data := #[99, 111, 110, 118] }, .string { data := #[111, 114, 100, 101, 114] }, .string { data := #[105, 102] }, .string { data := #[105, 102, 110, 117, 108, 108] }, .string { data := #[103, 111, 116, 111] }, .string { data := #[110, 101, 119] }, .string { data := #[103, 101, 116] }, .string { data := #[112, 117, 116] }, .string { data := #[110, 101, 119, 97, 114, 114, 97, 121] }, .string { data := #[108, 101, 110, 103, 116, 104] }, .string { data := #[97, 108, 111, 97, 100] }, .string { data := #[97, 115, 116, 111, 114, 101] }, .string { data := #[99, 97, 115, 116] }, .string { data := #[105, 115] }, .string { data := #[99, 97, 108, 108] }, .string { data := #[99, 97, 108, 108, 115] }, .string { data := #[114, 101, 116, 117, 114, 110] }, .string { data := #[103, 105, 118, 101] }, .string { data := #[116, 104, 114, 111, 119] }] 9) = X2 := ⟨_, rfl⟩
  have HE2 : Hid (Below X1.heap.size X1 X2) := hid (hX2 ▸ ext_alloc _ _)
  have HB2 := hid (HB1.out.trans (HE2.out.mono HB1.out.size))
  have HW2 : Hid (X2.cell? ⟨X1.heap.size, k, none⟩ = some (.string (bs wd))) := hid (by rw [← hX2, World.cell?_alloc_at _ _ _ _ rfl]; exact hwo)
  have HX2 := hid (HX.out.below HE2.out)
  obtain ⟨x0, x1, x2, x3, x4, x5⟩ := HX2.out
  simp only at x0 x1 x2 x3 x4 x5
  have HN := hid (needs_any k h1 h2 X2)
  rw [eA, eB, eT, eC, eN] at HN
  have HN2 : Hid (Calls Tryz.prog 44 #[.int .i64 (k : Int)] X2 fun e w' => e = .returned (.agg #[.bool true, .bool false, .bool true, .bool false, .bool false]) ∧ Below X2.heap.size X2 w') := HN
  have Ha := hid (digits_any a · ha)
  have Hb := hid (digits_any b · hb)
  have ka := Lib.itoa_length_le a ha.1 ha.2
  have kb := Lib.itoa_length_le b hb.1 hb.2
  have k3 : (k : Int) < 29 := by omega
  have k4 : (0 : Int) ≤ (k : Int) := by omega
  have HFIN : Hid (∀ J : ByteArray, J.data.toList = wd ++ tailL ⟨(k : Int), a, b, t, c, n⟩ [65, 84] → J = bs (wd ++ tailL ⟨(k : Int), a, b, t, c, n⟩ [65, 84])) := hid (fun J h => bs_of h)
  have hwz : (bs wd).size ≤ 20 := hw20
  have hza : (bs (Lib.itoa a)).size ≤ 21 := ka
  have hzb : (bs (Lib.itoa b)).size ≤ 21 := kb
  obtain ⟨V, hV⟩ : ∃ V, bs wd = V := ⟨_, rfl⟩
  obtain ⟨A', hA'⟩ : ∃ V, bs (Lib.itoa a) = V := ⟨_, rfl⟩
  obtain ⟨B', hB'⟩ : ∃ V, bs (Lib.itoa b) = V := ⟨_, rfl⟩
  rw [hV] at HW2 hwz
  rw [hA'] at Ha hza
  rw [hB'] at Hb hzb
  have HV := hid hV
  have HA' := hid hA'
  have HB' := hid hB'
  clear ha hb ka kb hk h1 h2 eA eB eT eC eN hwo hw20 HN hV hA' hB'
  go_enter Tryz.func19, Tryz.ntmps19
  go_wp2_with fail
  refine HN2.out.mono ?_
  rintro e w3 ⟨rfl, hb3⟩
  have HB3 := hid (HB2.out.trans (hb3.mono HB2.out.size))
  have HX3 := hid (HX2.out.below hb3)
  have HW3 := hid ((hb3.cell (World.block_lt_of_cell? _ _ HW2.out)).trans HW2.out)
  clear x0 x1 x2 x3 x4 x5 hb3 hX2 hX1
  obtain ⟨x0, x1, x2, x3, x4, x5⟩ := HX3.out
  simp only at x0 x1 x2 x3 x4 x5
  have hw4 := HW3.out
  have hl1 : w.heap.size < w3.heap.size := World.block_lt_of_cell? _ _ x0
  have hl2 : X1.heap.size < w3.heap.size := World.block_lt_of_cell? _ _ hw4
  have HB4 : Hid (∀ o, Below w.heap.size w (w3.alloc o)) := hid (fun o => HB3.out.alloc HB3.out.size o)
  go_wp2_with fail
  refine (Ha.out _).mono ?_
  rintro e w65 ⟨rfl, hww⟩
  obtain rfl := hww.symm
  go_wp2
  go_ret
  refine ⟨congrArg (fun s => Ending.returned (.string s)) (HFIN.out _ ?_), HB4.out _⟩
  try rw [← HV.out]
  try rw [← HA'.out]
  try rw [← HB'.out]
  simp [tailL, partL, bs, ByteArray.data_append]

set_option maxRecDepth 100000 in
set_option maxHeartbeats 2000000 in
theorem rtext5 (k : Nat) (a b : Int) (t c n : ByteArray) (w : World) (ht : t.size ≤ 10000000) (hc : c.size ≤ 10000000) (hn : n.size ≤ 10000000) (ha : InR a) (hb : InR b)
    (wd nd : List UInt8) (hk : formTab[k]? = some (wd, nd)) (h1 : 1 ≤ k) (h2 : k ≤ 28) (hnd : nd = [65, 66]) :
    Calls Tryz.prog 19 #[.agg #[.int .i64 (k : Int), .int .i64 a, .int .i64 b, .string t, .string c, .string n]] w fun e w' => e = .returned (.string (bs (wd ++ tailL ⟨(k : Int), a, b, t, c, n⟩ nd))) ∧ Below w.heap.size w w' := by
  obtain ⟨eA, eB, eT, eC, eN, _⟩ := pat_of hk h1 h2
  have hw20 := (letters_ok hk).2.2
  have hwo := words_at hk
  subst hnd
  obtain ⟨X1, hX1⟩ : ∃ X1, w.alloc (.cells #[.int .i64 (k : Int), .int .i64 a, .int .i64 b, .string t, .string c, .string n] 61) = X1 := ⟨_, rfl⟩
  have HB1 : Hid (Below w.heap.size w X1) := hid (hX1 ▸ ext_alloc _ _)
  have HX : Hid (Box X1 w.heap.size ⟨(k : Int), a, b, t, c, n⟩) := hid (hX1 ▸ Box.new w ⟨(k : Int), a, b, t, c, n⟩ _)
  obtain ⟨X2, hX2⟩ : ∃ X2, X1.alloc (.cells #[.string { data := #[] }, .string { data := #[110, 111, 112] }, .string { data := #[112, 117, 115, 104] }, .string { data := #[110, 117, 108, 108] }, .string { data := #[108, 111, 97, 100] }, .string { data := #[115, 116, 111, 114, 101] }, .string { data := #[112, 111, 112] }, .string { data := #[100, 117, 112] }, .string { data := #[115, 119, 97, 112] }, .string { data := #[109, 97, 116, 104] }, .string { data := #[99, 111, 110, 118] }, .string { data := #[111, 114, 100, 101, 114] }, .string { data := #[105, 102] }, .string { data := #[105, 102, 110, 117, 108, 108] }, .string { data := #[103, 111, 116, 111] }, .string { data := #[110, 101, 119] }, .string { data := #[103, 101, 116] }, .string { data := #[112, 117, 116] }, .string { data := #[110, 101, 119, 97, 114, 114, 97, 121] }, .string { data := #[108, 101, 110, 103, 116, 104] }, .string { data := #[97, 108, 111, 97, 100] }, .string { data := #[97, 115, 116, 111, 114, 101] }, .string { data := #[99, 97, 115, 116] }, .string { data := #[105, 115] }, .string { data := #[99, 97, 108, 108] }, .string { data := #[99, 97, 108, 108, 115] }, .string { data := #[114, 101, 116, 117, 114, 110] }, .string { data := #[103, 105, 118, 101] }, .string { data := #[116, 104, 114, 111, 119] }] 9) = X2 := ⟨_, rfl⟩
  have HE2 : Hid (Below X1.heap.size X1 X2) := hid (hX2 ▸ ext_alloc _ _)
  have HB2 := hid (HB1.out.trans (HE2.out.mono HB1.out.size))
  have HW2 : Hid (X2.cell? ⟨X1.heap.size, k, none⟩ = some (.string (bs wd))) := hid (by rw [← hX2, World.cell?_alloc_at _ _ _ _ rfl]; exact hwo)
  have HX2 := hid (HX.out.below HE2.out)
  obtain ⟨x0, x1, x2, x3, x4, x5⟩ := HX2.out
  simp only at x0 x1 x2 x3 x4 x5
  have HN := hid (needs_any k h1 h2 X2)
  rw [eA, eB, eT, eC, eN] at HN
  have HN2 : Hid (Calls Tryz.prog 44 #[.int .i64 (k : Int)] X2 fun e w' => e = .returned (.agg #[.bool true, .bool true, .bool false, .bool false, .bool false]) ∧ Below X2.heap.size X2 w') := HN
  have Ha := hid (digits_any a · ha)
  have Hb := hid (digits_any b · hb)
  have ka := Lib.itoa_length_le a ha.1 ha.2
  have kb := Lib.itoa_length_le b hb.1 hb.2
  have k3 : (k : Int) < 29 := by omega
  have k4 : (0 : Int) ≤ (k : Int) := by omega
  have HFIN : Hid (∀ J : ByteArray, J.data.toList = wd ++ tailL ⟨(k : Int), a, b, t, c, n⟩ [65, 66] → J = bs (wd ++ tailL ⟨(k : Int), a, b, t, c, n⟩ [65, 66])) := hid (fun J h => bs_of h)
  have hwz : (bs wd).size ≤ 20 := hw20
  have hza : (bs (Lib.itoa a)).size ≤ 21 := ka
  have hzb : (bs (Lib.itoa b)).size ≤ 21 := kb
  obtain ⟨V, hV⟩ : ∃ V, bs wd = V := ⟨_, rfl⟩
  obtain ⟨A', hA'⟩ : ∃ V, bs (Lib.itoa a) = V := ⟨_, rfl⟩
  obtain ⟨B', hB'⟩ : ∃ V, bs (Lib.itoa b) = V := ⟨_, rfl⟩
  rw [hV] at HW2 hwz
  rw [hA'] at Ha hza
  rw [hB'] at Hb hzb
  have HV := hid hV
  have HA' := hid hA'
  have HB' := hid hB'
  clear ha hb ka kb hk h1 h2 eA eB eT eC eN hwo hw20 HN hV hA' hB'
  go_enter Tryz.func19, Tryz.ntmps19
  go_wp2_with fail
  refine HN2.out.mono ?_
  rintro e w3 ⟨rfl, hb3⟩
  have HB3 := hid (HB2.out.trans (hb3.mono HB2.out.size))
  have HX3 := hid (HX2.out.below hb3)
  have HW3 := hid ((hb3.cell (World.block_lt_of_cell? _ _ HW2.out)).trans HW2.out)
  clear x0 x1 x2 x3 x4 x5 hb3 hX2 hX1
  obtain ⟨x0, x1, x2, x3, x4, x5⟩ := HX3.out
  simp only at x0 x1 x2 x3 x4 x5
  have hw4 := HW3.out
  have hl1 : w.heap.size < w3.heap.size := World.block_lt_of_cell? _ _ x0
  have hl2 : X1.heap.size < w3.heap.size := World.block_lt_of_cell? _ _ hw4
  have HB4 : Hid (∀ o, Below w.heap.size w (w3.alloc o)) := hid (fun o => HB3.out.alloc HB3.out.size o)
  go_wp2_with fail
  refine (Ha.out _).mono ?_
  rintro e w65 ⟨rfl, hww⟩
  obtain rfl := hww.symm
  go_wp2_with fail
  refine (Hb.out _).mono ?_
  rintro e w66 ⟨rfl, hww⟩
  obtain rfl := hww.symm
  go_wp2
  go_ret
  refine ⟨congrArg (fun s => Ending.returned (.string s)) (HFIN.out _ ?_), HB4.out _⟩
  try rw [← HV.out]
  try rw [← HA'.out]
  try rw [← HB'.out]
  simp [tailL, partL, bs, ByteArray.data_append]

end Go.Proofs.YtloeaihbnnnncaaGreatDoor.txts

set_option linter.unusedSimpArgs false
set_option linter.unusedVariables false
namespace Go.Proofs.YtloeaihbnnnncaaGreatDoor.txts
open Go.RowKit Go.Proofs.YtloeaihbnnnncaaGreatDoor.lib Go.Proofs.YtloeaihbnnnncaaGreatDoor.errs Go.Proofs.YtloeaihbnnnncaaGreatDoor.names Go.Proofs.YtloeaihbnnnncaaGreatDoor.descs Go.Proofs.YtloeaihbnnnncaaGreatDoor.ins Go.Proofs.YtloeaihbnnnncaaGreatDoor.nums

set_option maxRecDepth 100000 in
set_option maxHeartbeats 2000000 in
theorem rtext6 (k : Nat) (a b : Int) (t c n : ByteArray) (w : World) (ht : t.size ≤ 10000000) (hc : c.size ≤ 10000000) (hn : n.size ≤ 10000000) (ha : InR a) (hb : InR b)
    (wd nd : List UInt8) (hk : formTab[k]? = some (wd, nd)) (h1 : 1 ≤ k) (h2 : k ≤ 28) (hnd : nd = [67, 78]) :
    Calls Tryz.prog 19 #[.agg #[.int .i64 (k : Int), .int .i64 a, .int .i64 b, .string t, .string c, .string n]] w fun e w' => e = .returned (.string (bs (wd ++ tailL ⟨(k : Int), a, b, t, c, n⟩ nd))) ∧ Below w.heap.size w w' := by
  obtain ⟨eA, eB, eT, eC, eN, _⟩ := pat_of hk h1 h2
  have hw20 := (letters_ok hk).2.2
  have hwo := words_at hk
  subst hnd
  obtain ⟨X1, hX1⟩ : ∃ X1, w.alloc (.cells #[.int .i64 (k : Int), .int .i64 a, .int .i64 b, .string t, .string c, .string n] 61) = X1 := ⟨_, rfl⟩
  have HB1 : Hid (Below w.heap.size w X1) := hid (hX1 ▸ ext_alloc _ _)
  have HX : Hid (Box X1 w.heap.size ⟨(k : Int), a, b, t, c, n⟩) := hid (hX1 ▸ Box.new w ⟨(k : Int), a, b, t, c, n⟩ _)
  obtain ⟨X2, hX2⟩ : ∃ X2, X1.alloc (.cells #[.string { data := #[] }, .string { data := #[110, 111, 112] }, .string { data := #[112, 117, 115, 104] }, .string { data := #[110, 117, 108, 108] }, .string { data := #[108, 111, 97, 100] }, .string { data := #[115, 116, 111, 114, 101] }, .string { data := #[112, 111, 112] }, .string { data := #[100, 117, 112] }, .string { data := #[115, 119, 97, 112] }, .string { data := #[109, 97, 116, 104] }, .string { data := #[99, 111, 110, 118] }, .string { data := #[111, 114, 100, 101, 114] }, .string { data := #[105, 102] }, .string { data := #[105, 102, 110, 117, 108, 108] }, .string { data := #[103, 111, 116, 111] }, .string { data := #[110, 101, 119] }, .string { data := #[103, 101, 116] }, .string { data := #[112, 117, 116] }, .string { data := #[110, 101, 119, 97, 114, 114, 97, 121] }, .string { data := #[108, 101, 110, 103, 116, 104] }, .string { data := #[97, 108, 111, 97, 100] }, .string { data := #[97, 115, 116, 111, 114, 101] }, .string { data := #[99, 97, 115, 116] }, .string { data := #[105, 115] }, .string { data := #[99, 97, 108, 108] }, .string { data := #[99, 97, 108, 108, 115] }, .string { data := #[114, 101, 116, 117, 114, 110] }, .string { data := #[103, 105, 118, 101] }, .string { data := #[116, 104, 114, 111, 119] }] 9) = X2 := ⟨_, rfl⟩
  have HE2 : Hid (Below X1.heap.size X1 X2) := hid (hX2 ▸ ext_alloc _ _)
  have HB2 := hid (HB1.out.trans (HE2.out.mono HB1.out.size))
  have HW2 : Hid (X2.cell? ⟨X1.heap.size, k, none⟩ = some (.string (bs wd))) := hid (by rw [← hX2, World.cell?_alloc_at _ _ _ _ rfl]; exact hwo)
  have HX2 := hid (HX.out.below HE2.out)
  obtain ⟨x0, x1, x2, x3, x4, x5⟩ := HX2.out
  simp only at x0 x1 x2 x3 x4 x5
  have HN := hid (needs_any k h1 h2 X2)
  rw [eA, eB, eT, eC, eN] at HN
  have HN2 : Hid (Calls Tryz.prog 44 #[.int .i64 (k : Int)] X2 fun e w' => e = .returned (.agg #[.bool false, .bool false, .bool false, .bool true, .bool true]) ∧ Below X2.heap.size X2 w') := HN
  have Ha := hid (digits_any a · ha)
  have Hb := hid (digits_any b · hb)
  have ka := Lib.itoa_length_le a ha.1 ha.2
  have kb := Lib.itoa_length_le b hb.1 hb.2
  have k3 : (k : Int) < 29 := by omega
  have k4 : (0 : Int) ≤ (k : Int) := by omega
  have HFIN : Hid (∀ J : ByteArray, J.data.toList = wd ++ tailL ⟨(k : Int), a, b, t, c, n⟩ [67, 78] → J = bs (wd ++ tailL ⟨(k : Int), a, b, t, c, n⟩ [67, 78])) := hid (fun J h => bs_of h)
  have hwz : (bs wd).size ≤ 20 := hw20
  have hza : (bs (Lib.itoa a)).size ≤ 21 := ka
  have hzb : (bs (Lib.itoa b)).size ≤ 21 := kb
  obtain ⟨V, hV⟩ : ∃ V, bs wd = V := ⟨_, rfl⟩
  obtain ⟨A', hA'⟩ : ∃ V, bs (Lib.itoa a) = V := ⟨_, rfl⟩
  obtain ⟨B', hB'⟩ : ∃ V, bs (Lib.itoa b) = V := ⟨_, rfl⟩
  rw [hV] at HW2 hwz
  rw [hA'] at Ha hza
  rw [hB'] at Hb hzb
  have HV := hid hV
  have HA' := hid hA'
  have HB' := hid hB'
  clear ha hb ka kb hk h1 h2 eA eB eT eC eN hwo hw20 HN hV hA' hB'
  go_enter Tryz.func19, Tryz.ntmps19
  go_wp2_with fail
  refine HN2.out.mono ?_
  rintro e w3 ⟨rfl, hb3⟩
  have HB3 := hid (HB2.out.trans (hb3.mono HB2.out.size))
  have HX3 := hid (HX2.out.below hb3)
  have HW3 := hid ((hb3.cell (World.block_lt_of_cell? _ _ HW2.out)).trans HW2.out)
  clear x0 x1 x2 x3 x4 x5 hb3 hX2 hX1
  obtain ⟨x0, x1, x2, x3, x4, x5⟩ := HX3.out
  simp only at x0 x1 x2 x3 x4 x5
  have hw4 := HW3.out
  have hl1 : w.heap.size < w3.heap.size := World.block_lt_of_cell? _ _ x0
  have hl2 : X1.heap.size < w3.heap.size := World.block_lt_of_cell? _ _ hw4
  have HB4 : Hid (∀ o, Below w.heap.size w (w3.alloc o)) := hid (fun o => HB3.out.alloc HB3.out.size o)
  go_wp2
  go_ret
  refine ⟨congrArg (fun s => Ending.returned (.string s)) (HFIN.out _ ?_), HB4.out _⟩
  try rw [← HV.out]
  try rw [← HA'.out]
  try rw [← HB'.out]
  simp [tailL, partL, bs, ByteArray.data_append]

set_option maxRecDepth 100000 in
set_option maxHeartbeats 2000000 in
theorem rtext7 (k : Nat) (a b : Int) (t c n : ByteArray) (w : World) (ht : t.size ≤ 10000000) (hc : c.size ≤ 10000000) (hn : n.size ≤ 10000000) (ha : InR a) (hb : InR b)
    (wd nd : List UInt8) (hk : formTab[k]? = some (wd, nd)) (h1 : 1 ≤ k) (h2 : k ≤ 28) (hnd : nd = [84, 67, 78]) :
    Calls Tryz.prog 19 #[.agg #[.int .i64 (k : Int), .int .i64 a, .int .i64 b, .string t, .string c, .string n]] w fun e w' => e = .returned (.string (bs (wd ++ tailL ⟨(k : Int), a, b, t, c, n⟩ nd))) ∧ Below w.heap.size w w' := by
  obtain ⟨eA, eB, eT, eC, eN, _⟩ := pat_of hk h1 h2
  have hw20 := (letters_ok hk).2.2
  have hwo := words_at hk
  subst hnd
  obtain ⟨X1, hX1⟩ : ∃ X1, w.alloc (.cells #[.int .i64 (k : Int), .int .i64 a, .int .i64 b, .string t, .string c, .string n] 61) = X1 := ⟨_, rfl⟩
  have HB1 : Hid (Below w.heap.size w X1) := hid (hX1 ▸ ext_alloc _ _)
  have HX : Hid (Box X1 w.heap.size ⟨(k : Int), a, b, t, c, n⟩) := hid (hX1 ▸ Box.new w ⟨(k : Int), a, b, t, c, n⟩ _)
  obtain ⟨X2, hX2⟩ : ∃ X2, X1.alloc (.cells #[.string { data := #[] }, .string { data := #[110, 111, 112] }, .string { data := #[112, 117, 115, 104] }, .string { data := #[110, 117, 108, 108] }, .string { data := #[108, 111, 97, 100] }, .string { data := #[115, 116, 111, 114, 101] }, .string { data := #[112, 111, 112] }, .string { data := #[100, 117, 112] }, .string { data := #[115, 119, 97, 112] }, .string { data := #[109, 97, 116, 104] }, .string { data := #[99, 111, 110, 118] }, .string { data := #[111, 114, 100, 101, 114] }, .string { data := #[105, 102] }, .string { data := #[105, 102, 110, 117, 108, 108] }, .string { data := #[103, 111, 116, 111] }, .string { data := #[110, 101, 119] }, .string { data := #[103, 101, 116] }, .string { data := #[112, 117, 116] }, .string { data := #[110, 101, 119, 97, 114, 114, 97, 121] }, .string { data := #[108, 101, 110, 103, 116, 104] }, .string { data := #[97, 108, 111, 97, 100] }, .string { data := #[97, 115, 116, 111, 114, 101] }, .string { data := #[99, 97, 115, 116] }, .string { data := #[105, 115] }, .string { data := #[99, 97, 108, 108] }, .string { data := #[99, 97, 108, 108, 115] }, .string { data := #[114, 101, 116, 117, 114, 110] }, .string { data := #[103, 105, 118, 101] }, .string { data := #[116, 104, 114, 111, 119] }] 9) = X2 := ⟨_, rfl⟩
  have HE2 : Hid (Below X1.heap.size X1 X2) := hid (hX2 ▸ ext_alloc _ _)
  have HB2 := hid (HB1.out.trans (HE2.out.mono HB1.out.size))
  have HW2 : Hid (X2.cell? ⟨X1.heap.size, k, none⟩ = some (.string (bs wd))) := hid (by rw [← hX2, World.cell?_alloc_at _ _ _ _ rfl]; exact hwo)
  have HX2 := hid (HX.out.below HE2.out)
  obtain ⟨x0, x1, x2, x3, x4, x5⟩ := HX2.out
  simp only at x0 x1 x2 x3 x4 x5
  have HN := hid (needs_any k h1 h2 X2)
  rw [eA, eB, eT, eC, eN] at HN
  have HN2 : Hid (Calls Tryz.prog 44 #[.int .i64 (k : Int)] X2 fun e w' => e = .returned (.agg #[.bool false, .bool false, .bool true, .bool true, .bool true]) ∧ Below X2.heap.size X2 w') := HN
  have Ha := hid (digits_any a · ha)
  have Hb := hid (digits_any b · hb)
  have ka := Lib.itoa_length_le a ha.1 ha.2
  have kb := Lib.itoa_length_le b hb.1 hb.2
  have k3 : (k : Int) < 29 := by omega
  have k4 : (0 : Int) ≤ (k : Int) := by omega
  have HFIN : Hid (∀ J : ByteArray, J.data.toList = wd ++ tailL ⟨(k : Int), a, b, t, c, n⟩ [84, 67, 78] → J = bs (wd ++ tailL ⟨(k : Int), a, b, t, c, n⟩ [84, 67, 78])) := hid (fun J h => bs_of h)
  have hwz : (bs wd).size ≤ 20 := hw20
  have hza : (bs (Lib.itoa a)).size ≤ 21 := ka
  have hzb : (bs (Lib.itoa b)).size ≤ 21 := kb
  obtain ⟨V, hV⟩ : ∃ V, bs wd = V := ⟨_, rfl⟩
  obtain ⟨A', hA'⟩ : ∃ V, bs (Lib.itoa a) = V := ⟨_, rfl⟩
  obtain ⟨B', hB'⟩ : ∃ V, bs (Lib.itoa b) = V := ⟨_, rfl⟩
  rw [hV] at HW2 hwz
  rw [hA'] at Ha hza
  rw [hB'] at Hb hzb
  have HV := hid hV
  have HA' := hid hA'
  have HB' := hid hB'
  clear ha hb ka kb hk h1 h2 eA eB eT eC eN hwo hw20 HN hV hA' hB'
  go_enter Tryz.func19, Tryz.ntmps19
  go_wp2_with fail
  refine HN2.out.mono ?_
  rintro e w3 ⟨rfl, hb3⟩
  have HB3 := hid (HB2.out.trans (hb3.mono HB2.out.size))
  have HX3 := hid (HX2.out.below hb3)
  have HW3 := hid ((hb3.cell (World.block_lt_of_cell? _ _ HW2.out)).trans HW2.out)
  clear x0 x1 x2 x3 x4 x5 hb3 hX2 hX1
  obtain ⟨x0, x1, x2, x3, x4, x5⟩ := HX3.out
  simp only at x0 x1 x2 x3 x4 x5
  have hw4 := HW3.out
  have hl1 : w.heap.size < w3.heap.size := World.block_lt_of_cell? _ _ x0
  have hl2 : X1.heap.size < w3.heap.size := World.block_lt_of_cell? _ _ hw4
  have HB4 : Hid (∀ o, Below w.heap.size w (w3.alloc o)) := hid (fun o => HB3.out.alloc HB3.out.size o)
  go_wp2
  go_ret
  refine ⟨congrArg (fun s => Ending.returned (.string s)) (HFIN.out _ ?_), HB4.out _⟩
  try rw [← HV.out]
  try rw [← HA'.out]
  try rw [← HB'.out]
  simp [tailL, partL, bs, ByteArray.data_append]

end Go.Proofs.YtloeaihbnnnncaaGreatDoor.txts

set_option linter.unusedSimpArgs false
set_option linter.unusedVariables false
namespace Go.Proofs.YtloeaihbnnnncaaGreatDoor.txts
open Go.RowKit Go.Proofs.YtloeaihbnnnncaaGreatDoor.lib Go.Proofs.YtloeaihbnnnncaaGreatDoor.errs Go.Proofs.YtloeaihbnnnncaaGreatDoor.names Go.Proofs.YtloeaihbnnnncaaGreatDoor.descs Go.Proofs.YtloeaihbnnnncaaGreatDoor.ins Go.Proofs.YtloeaihbnnnncaaGreatDoor.nums

theorem rtext_any (k : Nat) (a b : Int) (t c n : ByteArray) (w : World) (ht : t.size ≤ 10000000) (hc : c.size ≤ 10000000) (hn : n.size ≤ 10000000) (ha : InR a) (hb : InR b)
    (wd nd : List UInt8) (hk : formTab[k]? = some (wd, nd)) (h1 : 1 ≤ k) (h2 : k ≤ 28) :
    Calls Tryz.prog 19 #[.agg #[.int .i64 (k : Int), .int .i64 a, .int .i64 b, .string t, .string c, .string n]] w fun e w' => e = .returned (.string (bs (wd ++ tailL ⟨(k : Int), a, b, t, c, n⟩ nd))) ∧ Below w.heap.size w w' := by
  have h := (pat_of hk h1 h2).2.2.2.2.2
  simp only [patsL, List.mem_cons, List.not_mem_nil, or_false] at h
  rcases h with h | h | h | h | h | h | h | h
  · exact rtext0 k a b t c n w ht hc hn ha hb wd nd hk h1 h2 h
  · exact rtext1 k a b t c n w ht hc hn ha hb wd nd hk h1 h2 h
  · exact rtext2 k a b t c n w ht hc hn ha hb wd nd hk h1 h2 h
  · exact rtext3 k a b t c n w ht hc hn ha hb wd nd hk h1 h2 h
  · exact rtext4 k a b t c n w ht hc hn ha hb wd nd hk h1 h2 h
  · exact rtext5 k a b t c n w ht hc hn ha hb wd nd hk h1 h2 h
  · exact rtext6 k a b t c n w ht hc hn ha hb wd nd hk h1 h2 h
  · exact rtext7 k a b t c n w ht hc hn ha hb wd nd hk h1 h2 h
end Go.Proofs.YtloeaihbnnnncaaGreatDoor.txts

set_option linter.unusedSimpArgs false
set_option linter.unusedVariables false
namespace Go.Proofs.YtloeaihbnnnncaaGreatDoor.txts
open Go.RowKit Go.Proofs.YtloeaihbnnnncaaGreatDoor.lib Go.Proofs.YtloeaihbnnnncaaGreatDoor.errs Go.Proofs.YtloeaihbnnnncaaGreatDoor.names Go.Proofs.YtloeaihbnnnncaaGreatDoor.descs Go.Proofs.YtloeaihbnnnncaaGreatDoor.ins Go.Proofs.YtloeaihbnnnncaaGreatDoor.nums Go.Proofs.YtloeaihbnnnncaaGreatDoor.flows

theorem rinstext_any (op a b : Int) (t c n : ByteArray) (w : World) (hs : Small ⟨op, a, b, t, c, n⟩) (ha : InR a) (hb : InR b) (h0 : insFault ⟨op, a, b, t, c, n⟩ = 0) :
    Calls Tryz.prog 19 #[.agg #[.int .i64 op, .int .i64 a, .int .i64 b, .string t, .string c, .string n]] w fun e w' => e = .returned (.string (bs (textL ⟨op, a, b, t, c, n⟩))) ∧ Below w.heap.size w w' := by
  obtain ⟨k, wd, nd, hk, h1, h2, hp2, e⟩ := form_of h0
  obtain ⟨_, _, h3, h4⟩ := brief_of h0
  simp only at hk h3 h4
  subst hk
  rw [e]
  exact rtext_any k a b t c n w hs.1 (by omega) (by omega) ha hb wd nd hp2 h1 h2

theorem one_u8 (l : List Int) : ∀ u ∈ l.map (Value.int .u8), u.oneCell' = true := fun u hu => by
  obtain ⟨z, _, rfl⟩ := List.mem_map.1 hu
  rfl
theorem one_str (s : ByteArray) : ∀ u ∈ Lib.strCells s, u.oneCell' = true := fun u hu => by
  obtain ⟨z, _, rfl⟩ := List.mem_map.1 hu
  rfl
theorem sl_bytes (W : World) (s : ByteArray) (cap : Nat) (h : s.size ≤ cap) (fz : Nat × Nat) : Sl (W.alloc (.cells (bytesRow s cap) 5 fz)) (.slice (some ⟨W.heap.size, 0, none⟩) s.size cap) s.size 1 (Lib.strCells s) := by
  refine ⟨by rw [Lib.strCells_length]; omega, _, _, rfl, h, .inr ⟨_, _, rfl, fun j u hu => ?_⟩⟩
  have hj : j < s.data.size := by
    have := (List.getElem?_eq_some_iff.1 hu).1
    rw [Lib.strCells_length] at this
    exact this
  have hrow : (W.alloc (.cells (bytesRow s cap) 5 fz)).heap[W.heap.size]? = some (.cells (bytesRow s cap) 5 fz) := by
    show (W.heap.push _)[W.heap.size]? = _
    simp
  rw [Nat.zero_add, cell_of_row _ _ _ _ _ _ hrow]
  rw [show (bytesRow s cap)[j]? = some (.int .u8 (s.data[j].toNat : Int)) from bytesRow_at s cap j hj, ← hu]
  unfold Lib.strCells
  rw [List.getElem?_map, Array.getElem?_toList, Array.getElem?_eq_getElem hj]
  rfl

end Go.Proofs.YtloeaihbnnnncaaGreatDoor.txts
