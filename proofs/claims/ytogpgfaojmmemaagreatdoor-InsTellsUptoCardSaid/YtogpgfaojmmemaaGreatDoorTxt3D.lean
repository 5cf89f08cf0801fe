/- Instructions as text, as the document does it: InsText. Conditions: the numbers are of 64 bits; the texts are not long. -/
import Derived.Test.YtogpgfaojmmemaaGreatDoorTxt3
set_option linter.unusedSimpArgs false
set_option linter.unusedVariables false
namespace Go.Proofs.YtogpgfaojmmemaaGreatDoor.txts
open Go.RowKit Go.Proofs.YtogpgfaojmmemaaGreatDoor.lib Go.Proofs.YtogpgfaojmmemaaGreatDoor.errs Go.Proofs.YtogpgfaojmmemaaGreatDoor.names Go.Proofs.YtogpgfaojmmemaaGreatDoor.descs Go.Proofs.YtogpgfaojmmemaaGreatDoor.ins Go.Proofs.YtogpgfaojmmemaaGreatDoor.nums

set_option maxRecDepth 100000 in
set_option maxHeartbeats 2000000 in
theorem rtext6 (k : Nat) (a b : Int) (t c n : ByteArray) (w : World) (ht : t.size ≤ 10000000) (hc : c.size ≤ 10000000) (hn : n.size ≤ 10000000) (ha : InR a) (hb : InR b)
    (wd nd : List UInt8) (hk : formTab[k]? = some (wd, nd)) (h1 : 1 ≤ k) (h2 : k ≤ 28) (hnd : nd = [67, 78]) :
    Calls Tryz.prog 17 #[.agg #[.int .i64 (k : Int), .int .i64 a, .int .i64 b, .string t, .string c, .string n]] w fun e w' => e = .returned (.string (bs (wd ++ tailL ⟨(k : Int), a, b, t, c, n⟩ nd))) ∧ Below w.heap.size w w' := by
  obtain ⟨eA, eB, eT, eC, eN, _⟩ := pat_of hk h1 h2
  have hw20 := (letters_ok hk).2.2
  have hwo := words_at hk
  subst hnd
  obtain ⟨X1, hX1⟩ : ∃ X1, w.alloc (.cells #[.int .i64 (k : Int), .int .i64 a, .int .i64 b, .string t, .string c, .string n] 43) = X1 := ⟨_, rfl⟩
  have HB1 : Hid (Below w.heap.size w X1) := hid (hX1 ▸ ext_alloc _ _)
  have HX : Hid (Box X1 w.heap.size ⟨(k : Int), a, b, t, c, n⟩) := hid (hX1 ▸ Box.new w ⟨(k : Int), a, b, t, c, n⟩ _)
  obtain ⟨X2, hX2⟩ : ∃ X2, X1.alloc (.cells #[.string { data := #[] }, .string { data := #[110, 111, 112] }, .string { data := #[112, 117, 115, 104] }, .string { data := #[110, 117, 108, 108] }, .string { data := #[108, 111, 97, 100] }, .string { data := #[115, 116, 111, 114, 101] }, .string { data := #[112, 111, 112] }, .string { data := #[100, 117, 112] }, .string { data := #[115, 119, 97, 112] }, .string { data := #[109, 97, 116, 104] }, .string { data := #[99, 111, 110, 118] }, .string { data := #[111, 114, 100, 101, 114] }, .string { data := #[105, 102] }, .string { data := #[105, 102, 110, 117, 108, 108] }, .string { data := #[103, 111, 116, 111] }, .string { data := #[110, 101, 119] }, .string { data := #[103, 101, 116] }, .string { data := #[112, 117, 116] }, .string { data := #[110, 101, 119, 97, 114, 114, 97, 121] }, .string { data := #[108, 101, 110, 103, 116, 104] }, .string { data := #[97, 108, 111, 97, 100] }, .string { data := #[97, 115, 116, 111, 114, 101] }, .string { data := #[99, 97, 115, 116] }, .string { data := #[105, 115] }, .string { data := #[99, 97, 108, 108] }, .string { data := #[99, 97, 108, 108, 115] }, .string { data := #[114, 101, 116, 117, 114, 110] }, .string { data := #[103, 105, 118, 101] }, .string { data := #[116, 104, 114, 111, 119] }] 9) = X2 := ⟨_, rfl⟩
  have HE2 : Hid (Below X1.heap.size X1 X2) := hid (hX2 ▸ ext_alloc _ _)
  have HB2 := hid (HB1.out.trans (HE2.out.mono HB1.out.size))
  have HW2 : Hid (X2.cell? ⟨X1.heap.size, k, none⟩ = some (.string (bs wd))) := hid (by rw [← hX2, World.cell?_alloc_at _ _ _ _ rfl]; exact hwo)
  have HX2 := hid (HX.out.below HE2.out)
  obtain ⟨x0, x1, x2, x3, x4, x5⟩ := HX2.out
  simp only at x0 x1 x2 x3 x4 x5
  have HN := hid (needs_any k h1 h2 X2)
  rw [eA, eB, eT, eC, eN] at HN
  have HN2 : Hid (Calls Tryz.prog 34 #[.int .i64 (k : Int)] X2 fun e w' => e = .returned (.agg #[.bool false, .bool false, .bool false, .bool true, .bool true]) ∧ Below X2.heap.size X2 w') := HN
  have Ha := hid (digits_any a · ha)
  have Hb := hid (digits_any b · hb)
  have ka := Lib.itoa_length_le a ha.1 ha.2
  have kb := Lib.itoa_length_le b hb.1 hb.2
  have k3 : (k : Int) < 29 := by omega
  have k4 : (0 : Int) ≤ (k : Int) := by omega
  have HFIN : Hid (∀ J : ByteArray, J.data.toList = wd ++ tailL ⟨(k : Int), a, b, t, c, n⟩ [67, 78] → J = bs (wd ++ tailL ⟨(k : Int), a, b, t, c, n⟩ [67, 78])) := hid (fun J h => bs_of h)
  have hwz : (bs wd).size ≤ 20 := hw20
  have hza : (bs (Lib.itoa a)).size ≤ 21 := ka
  have hzb : (bs (Lib.itoa b)).size ≤ 21 := kb
  obtain ⟨V, hV⟩ : ∃ V, bs wd = V := ⟨_, rfl⟩
  obtain ⟨A', hA'⟩ : ∃ V, bs (Lib.itoa a) = V := ⟨_, rfl⟩
  obtain ⟨B', hB'⟩ : ∃ V, bs (Lib.itoa b) = V := ⟨_, rfl⟩
  rw [hV] at HW2 hwz
  rw [hA'] at Ha hza
  rw [hB'] at Hb hzb
  have HV := hid hV
  have HA' := hid hA'
  have HB' := hid hB'
  clear ha hb ka kb hk h1 h2 eA eB eT eC eN hwo hw20 HN hV hA' hB'
  go_enter Tryz.func17, Tryz.ntmps17
  go_wp2_with fail
  refine HN2.out.mono ?_
  rintro e w3 ⟨rfl, hb3⟩
  have HB3 := hid (HB2.out.trans (hb3.mono HB2.out.size))
  have HX3 := hid (HX2.out.below hb3)
  have HW3 := hid ((hb3.cell (World.block_lt_of_cell? _ _ HW2.out)).trans HW2.out)
  clear x0 x1 x2 x3 x4 x5 hb3 hX2 hX1
  obtain ⟨x0, x1, x2, x3, x4, x5⟩ := HX3.out
  simp only at x0 x1 x2 x3 x4 x5
  have hw4 := HW3.out
  have hl1 : w.heap.size < w3.heap.size := World.block_lt_of_cell? _ _ x0
  have hl2 : X1.heap.size < w3.heap.size := World.block_lt_of_cell? _ _ hw4
  have HB4 : Hid (∀ o, Below w.heap.size w (w3.alloc o)) := hid (fun o => HB3.out.alloc HB3.out.size o)
  go_wp2
  go_ret
  refine ⟨congrArg (fun s => Ending.returned (.string s)) (HFIN.out _ ?_), HB4.out _⟩
  try rw [← HV.out]
  try rw [← HA'.out]
  try rw [← HB'.out]
  simp [tailL, partL, bs, ByteArray.data_append]

set_option maxRecDepth 100000 in
set_option maxHeartbeats 2000000 in
theorem rtext7 (k : Nat) (a b : Int) (t c n : ByteArray) (w : World) (ht : t.size ≤ 10000000) (hc : c.size ≤ 10000000) (hn : n.size ≤ 10000000) (ha : InR a) (hb : InR b)
    (wd nd : List UInt8) (hk : formTab[k]? = some (wd, nd)) (h1 : 1 ≤ k) (h2 : k ≤ 28) (hnd : nd = [84, 67, 78]) :
    Calls Tryz.prog 17 #[.agg #[.int .i64 (k : Int), .int .i64 a, .int .i64 b, .string t, .string c, .string n]] w fun e w' => e = .returned (.string (bs (wd ++ tailL ⟨(k : Int), a, b, t, c, n⟩ nd))) ∧ Below w.heap.size w w' := by
  obtain ⟨eA, eB, eT, eC, eN, _⟩ := pat_of hk h1 h2
  have hw20 := (letters_ok hk).2.2
  have hwo := words_at hk
  subst hnd
  obtain ⟨X1, hX1⟩ : ∃ X1, w.alloc (.cells #[.int .i64 (k : Int), .int .i64 a, .int .i64 b, .string t, .string c, .string n] 43) = X1 := ⟨_, rfl⟩
  have HB1 : Hid (Below w.heap.size w X1) := hid (hX1 ▸ ext_alloc _ _)
  have HX : Hid (Box X1 w.heap.size ⟨(k : Int), a, b, t, c, n⟩) := hid (hX1 ▸ Box.new w ⟨(k : Int), a, b, t, c, n⟩ _)
  obtain ⟨X2, hX2⟩ : ∃ X2, X1.alloc (.cells #[.string { data := #[] }, .string { data := #[110, 111, 112] }, .string { data := #[112, 117, 115, 104] }, .string { data := #[110, 117, 108, 108] }, .string { data := #[108, 111, 97, 100] }, .string { data := #[115, 116, 111, 114, 101] }, .string { data := #[112, 111, 112] }, .string { data := #[100, 117, 112] }, .string { data := #[115, 119, 97, 112] }, .string { data := #[109, 97, 116, 104] }, .string { data := #[99, 111, 110, 118] }, .string { data := #[111, 114, 100, 101, 114] }, .string { data := #[105, 102] }, .string { data := #[105, 102, 110, 117, 108, 108] }, .string { data := #[103, 111, 116, 111] }, .string { data := #[110, 101, 119] }, .string { data := #[103, 101, 116] }, .string { data := #[112, 117, 116] }, .string { data := #[110, 101, 119, 97, 114, 114, 97, 121] }, .string { data := #[108, 101, 110, 103, 116, 104] }, .string { data := #[97, 108, 111, 97, 100] }, .string { data := #[97, 115, 116, 111, 114, 101] }, .string { data := #[99, 97, 115, 116] }, .string { data := #[105, 115] }, .string { data := #[99, 97, 108, 108] }, .string { data := #[99, 97, 108, 108, 115] }, .string { data := #[114, 101, 116, 117, 114, 110] }, .string { data := #[103, 105, 118, 101] }, .string { data := #[116, 104, 114, 111, 119] }] 9) = X2 := ⟨_, rfl⟩
  have HE2 : Hid (Below X1.heap.size X1 X2) := hid (hX2 ▸ ext_alloc _ _)
  have HB2 := hid (HB1.out.trans (HE2.out.mono HB1.out.size))
  have HW2 : Hid (X2.cell? ⟨X1.heap.size, k, none⟩ = some (.string (bs wd))) := hid (by rw [← hX2, World.cell?_alloc_at _ _ _ _ rfl]; exact hwo)
  have HX2 := hid (HX.out.below HE2.out)
  obtain ⟨x0, x1, x2, x3, x4, x5⟩ := HX2.out
  simp only at x0 x1 x2 x3 x4 x5
  have HN := hid (needs_any k h1 h2 X2)
  rw [eA, eB, eT, eC, eN] at HN
  have HN2 : Hid (Calls Tryz.prog 34 #[.int .i64 (k : Int)] X2 fun e w' => e = .returned (.agg #[.bool false, .bool false, .bool true, .bool true, .bool true]) ∧ Below X2.heap.size X2 w') := HN
  have Ha := hid (digits_any a · ha)
  have Hb := hid (digits_any b · hb)
  have ka := Lib.itoa_length_le a ha.1 ha.2
  have kb := Lib.itoa_length_le b hb.1 hb.2
  have k3 : (k : Int) < 29 := by omega
  have k4 : (0 : Int) ≤ (k : Int) := by omega
  have HFIN : Hid (∀ J : ByteArray, J.data.toList = wd ++ tailL ⟨(k : Int), a, b, t, c, n⟩ [84, 67, 78] → J = bs (wd ++ tailL ⟨(k : Int), a, b, t, c, n⟩ [84, 67, 78])) := hid (fun J h => bs_of h)
  have hwz : (bs wd).size ≤ 20 := hw20
  have hza : (bs (Lib.itoa a)).size ≤ 21 := ka
  have hzb : (bs (Lib.itoa b)).size ≤ 21 := kb
  obtain ⟨V, hV⟩ : ∃ V, bs wd = V := ⟨_, rfl⟩
  obtain ⟨A', hA'⟩ : ∃ V, bs (Lib.itoa a) = V := ⟨_, rfl⟩
  obtain ⟨B', hB'⟩ : ∃ V, bs (Lib.itoa b) = V := ⟨_, rfl⟩
  rw [hV] at HW2 hwz
  rw [hA'] at Ha hza
  rw [hB'] at Hb hzb
  have HV := hid hV
  have HA' := hid hA'
  have HB' := hid hB'
  clear ha hb ka kb hk h1 h2 eA eB eT eC eN hwo hw20 HN hV hA' hB'
  go_enter Tryz.func17, Tryz.ntmps17
  go_wp2_with fail
  refine HN2.out.mono ?_
  rintro e w3 ⟨rfl, hb3⟩
  have HB3 := hid (HB2.out.trans (hb3.mono HB2.out.size))
  have HX3 := hid (HX2.out.below hb3)
  have HW3 := hid ((hb3.cell (World.block_lt_of_cell? _ _ HW2.out)).trans HW2.out)
  clear x0 x1 x2 x3 x4 x5 hb3 hX2 hX1
  obtain ⟨x0, x1, x2, x3, x4, x5⟩ := HX3.out
  simp only at x0 x1 x2 x3 x4 x5
  have hw4 := HW3.out
  have hl1 : w.heap.size < w3.heap.size := World.block_lt_of_cell? _ _ x0
  have hl2 : X1.heap.size < w3.heap.size := World.block_lt_of_cell? _ _ hw4
  have HB4 : Hid (∀ o, Below w.heap.size w (w3.alloc o)) := hid (fun o => HB3.out.alloc HB3.out.size o)
  go_wp2
  go_ret
  refine ⟨congrArg (fun s => Ending.returned (.string s)) (HFIN.out _ ?_), HB4.out _⟩
  try rw [← HV.out]
  try rw [← HA'.out]
  try rw [← HB'.out]
  simp [tailL, partL, bs, ByteArray.data_append]

end Go.Proofs.YtogpgfaojmmemaaGreatDoor.txts
