/- Instructions: the reference's InsFault (4). Condition: the type's text is shorter than ten million bytes. -/
import Derived.Test.YtlhobhnbgdicjaaGreatDoorZInsJ
import Derived.Test.YtlhobhnbgdicjaaGreatDoorZIns3R
import Derived.Test.YtlhobhnbgdicjaaGreatDoorZIns5
import Derived.Test.YtlhobhnbgdicjaaGreatDoorZName
namespace Go.Proofs.YtlhobhnbgdicjaaGreatDoor.ins
open Go.RowKit lib errs names descs
set_option maxRecDepth 100000 in
set_option maxHeartbeats 2000000 in
theorem rbadCN_A (op : Int) (a b : Int) (t c n : ByteArray) (w : World) (hne : Hid (∀ w, Calls Tryz.prog 112 #[.int .i64 op] w fun e w' => e = .returned (.agg #[.bool false, .bool false, .bool false, .bool true, .bool true]) ∧ Below w.heap.size w w')) (ho : 1 ≤ op ∧ op ≤ 28) (hkA : needA op = false) (hx : ¬ a = 0) :
  Calls Tryz.prog 90 #[.agg #[.int .i64 op, .int .i64 a, .int .i64 b, .string t, .string c, .string n]] w fun e w' => e = .returned (.int .i64 (insFault ⟨op, a, b, t, c, n⟩)) ∧ Below w.heap.size w w' := by
 have hx2 : ¬ a = 0 := hx
 have HS : Hid (insFault ⟨op, a, b, t, c, n⟩ = 1) := hid (by
  unfold insFault
  rw [if_neg (by simp only; omega), if_pos]
  simp [bareOk, hkA, hx2])
 have k1 : ¬ op < 1 := by omega
 have k2 : ¬ (28 : Int) < op := by omega
 have hxb : (a == 0) = false := by simp [hx]
 have hxm : (a != 0) = true := by simp [hx]
 clear hkA ho hx2
 have HBX := hid (Box.new w (⟨op, a, b, t, c, n⟩ : I) 108)
 have HE := hid (ext_alloc w (.cells #[.int .i64 op, .int .i64 a, .int .i64 b, .string t, .string c, .string n] 108))
 go_enter Tryz.func90, Tryz.ntmps90
 go_wp2_with fail
 refine (hne.out _).mono ?_
 rintro e w1 ⟨rfl, hb1⟩
 have HB1 := hid (HE.out.trans (hb1.mono HE.out.size))
 have hlt1 : w.heap.size < w1.heap.size := Nat.lt_of_lt_of_le (by simp) hb1.size
 have HX1 := hid ((HBX.out.below hb1).below (ext_alloc w1 (.cells #[.bool false, .bool false, .bool false, .bool true, .bool true] 146)))
 have hE2 := ext_alloc w1 (.cells #[.bool false, .bool false, .bool false, .bool true, .bool true] 146)
 have HB2 := hid (HB1.out.trans (hE2.mono HB1.out.size))
 have HFC := hid (show (w1.alloc (.cells #[.bool false, .bool false, .bool false, .bool true, .bool true] 146)).cell? ⟨w1.heap.size, 3, none⟩ = some (.bool true) ∧ (w1.alloc (.cells #[.bool false, .bool false, .bool false, .bool true, .bool true] 146)).cell? ⟨w1.heap.size, 4, none⟩ = some (.bool true) from ⟨by rw [World.cell?_alloc_at _ _ _ _ rfl]; rfl, by rw [World.cell?_alloc_at _ _ _ _ rfl]; rfl⟩)
 obtain ⟨c0, c1, c2, c3, c4, c5⟩ := HX1.out
 clear hb1 hE2
 go_wp2
 go_ret
 rw [HS.out]
 exact ⟨rfl, HB2.out⟩
set_option maxRecDepth 100000 in
set_option maxHeartbeats 2000000 in
theorem rbadCN_B (op : Int) (b : Int) (t c n : ByteArray) (w : World) (hne : Hid (∀ w, Calls Tryz.prog 112 #[.int .i64 op] w fun e w' => e = .returned (.agg #[.bool false, .bool false, .bool false, .bool true, .bool true]) ∧ Below w.heap.size w w')) (ho : 1 ≤ op ∧ op ≤ 28) (hkB : needB op = false) (hx : ¬ b = 0) :
  Calls Tryz.prog 90 #[.agg #[.int .i64 op, .int .i64 0, .int .i64 b, .string t, .string c, .string n]] w fun e w' => e = .returned (.int .i64 (insFault ⟨op, 0, b, t, c, n⟩)) ∧ Below w.heap.size w w' := by
 have hx2 : ¬ b = 0 := hx
 have HS : Hid (insFault ⟨op, 0, b, t, c, n⟩ = 1) := hid (by
  unfold insFault
  rw [if_neg (by simp only; omega), if_pos]
  simp [bareOk, hkB, hx2])
 have k1 : ¬ op < 1 := by omega
 have k2 : ¬ (28 : Int) < op := by omega
 have hxb : (b == 0) = false := by simp [hx]
 have hxm : (b != 0) = true := by simp [hx]
 clear hkB ho hx2
 have HBX := hid (Box.new w (⟨op, 0, b, t, c, n⟩ : I) 108)
 have HE := hid (ext_alloc w (.cells #[.int .i64 op, .int .i64 0, .int .i64 b, .string t, .string c, .string n] 108))
 go_enter Tryz.func90, Tryz.ntmps90
 go_wp2_with fail
 refine (hne.out _).mono ?_
 rintro e w1 ⟨rfl, hb1⟩
 have HB1 := hid (HE.out.trans (hb1.mono HE.out.size))
 have hlt1 : w.heap.size < w1.heap.size := Nat.lt_of_lt_of_le (by simp) hb1.size
 have HX1 := hid ((HBX.out.below hb1).below (ext_alloc w1 (.cells #[.bool false, .bool false, .bool false, .bool true, .bool true] 146)))
 have hE2 := ext_alloc w1 (.cells #[.bool false, .bool false, .bool false, .bool true, .bool true] 146)
 have HB2 := hid (HB1.out.trans (hE2.mono HB1.out.size))
 have HFC := hid (show (w1.alloc (.cells #[.bool false, .bool false, .bool false, .bool true, .bool true] 146)).cell? ⟨w1.heap.size, 3, none⟩ = some (.bool true) ∧ (w1.alloc (.cells #[.bool false, .bool false, .bool false, .bool true, .bool true] 146)).cell? ⟨w1.heap.size, 4, none⟩ = some (.bool true) from ⟨by rw [World.cell?_alloc_at _ _ _ _ rfl]; rfl, by rw [World.cell?_alloc_at _ _ _ _ rfl]; rfl⟩)
 obtain ⟨c0, c1, c2, c3, c4, c5⟩ := HX1.out
 clear hb1 hE2
 go_wp2
 go_ret
 rw [HS.out]
 exact ⟨rfl, HB2.out⟩
set_option maxRecDepth 100000 in
set_option maxHeartbeats 2000000 in
theorem rbadCN_T (op : Int) (t c n : ByteArray) (w : World) (hne : Hid (∀ w, Calls Tryz.prog 112 #[.int .i64 op] w fun e w' => e = .returned (.agg #[.bool false, .bool false, .bool false, .bool true, .bool true]) ∧ Below w.heap.size w w')) (ho : 1 ≤ op ∧ op ≤ 28) (hkT : needT op = false) (hx : t.data.toList ≠ []) :
  Calls Tryz.prog 90 #[.agg #[.int .i64 op, .int .i64 0, .int .i64 0, .string t, .string c, .string n]] w fun e w' => e = .returned (.int .i64 (insFault ⟨op, 0, 0, t, c, n⟩)) ∧ Below w.heap.size w w' := by
 have hx2 : ¬ t.data = #[] := fun h => hx (by rw [h])
 have HS : Hid (insFault ⟨op, 0, 0, t, c, n⟩ = 1) := hid (by
  unfold insFault
  rw [if_neg (by simp only; omega), if_pos]
  simp [bareOk, hkT, hx2])
 have k1 : ¬ op < 1 := by omega
 have k2 : ¬ (28 : Int) < op := by omega
 have hxb : t.toList.isEmpty = false := by rw [ByteArray.toList_eq]; cases h : t.data.toList with
  | nil => exact absurd h hx
  | cons _ _ => rfl
 have hxl : ¬ t.toList = [] := fun h => hx (str_list.1 h)
 clear hkT ho hx2 hx
 have HBX := hid (Box.new w (⟨op, 0, 0, t, c, n⟩ : I) 108)
 have HE := hid (ext_alloc w (.cells #[.int .i64 op, .int .i64 0, .int .i64 0, .string t, .string c, .string n] 108))
 go_enter Tryz.func90, Tryz.ntmps90
 go_wp2_with fail
 refine (hne.out _).mono ?_
 rintro e w1 ⟨rfl, hb1⟩
 have HB1 := hid (HE.out.trans (hb1.mono HE.out.size))
 have hlt1 : w.heap.size < w1.heap.size := Nat.lt_of_lt_of_le (by simp) hb1.size
 have HX1 := hid ((HBX.out.below hb1).below (ext_alloc w1 (.cells #[.bool false, .bool false, .bool false, .bool true, .bool true] 146)))
 have hE2 := ext_alloc w1 (.cells #[.bool false, .bool false, .bool false, .bool true, .bool true] 146)
 have HB2 := hid (HB1.out.trans (hE2.mono HB1.out.size))
 have HFC := hid (show (w1.alloc (.cells #[.bool false, .bool false, .bool false, .bool true, .bool true] 146)).cell? ⟨w1.heap.size, 3, none⟩ = some (.bool true) ∧ (w1.alloc (.cells #[.bool false, .bool false, .bool false, .bool true, .bool true] 146)).cell? ⟨w1.heap.size, 4, none⟩ = some (.bool true) from ⟨by rw [World.cell?_alloc_at _ _ _ _ rfl]; rfl, by rw [World.cell?_alloc_at _ _ _ _ rfl]; rfl⟩)
 obtain ⟨c0, c1, c2, c3, c4, c5⟩ := HX1.out
 clear hb1 hE2
 go_wp2
 go_ret
 rw [HS.out]
 exact ⟨rfl, HB2.out⟩
set_option maxRecDepth 100000 in
set_option maxHeartbeats 4000000 in
theorem rgoodCN (op : Int) (c n : ByteArray) (w : World) (hne : Hid (∀ w, Calls Tryz.prog 112 #[.int .i64 op] w fun e w' => e = .returned (.agg #[.bool false, .bool false, .bool false, .bool true, .bool true]) ∧ Below w.heap.size w w')) (hkC : needC op = true) (hkN : needN op = true) (ho : 1 ≤ op ∧ op ≤ 28) (hJ : jumpsOp op = false) (h2 : op ≠ 2) (h4 : op ≠ 4) (h5 : op ≠ 5) (h9 : op ≠ 9) (hc : c.size ≤ 9223372036854775807) (hn : n.size ≤ 9223372036854775807) :
  Calls Tryz.prog 90 #[.agg #[.int .i64 op, .int .i64 0, .int .i64 0, .string { data := #[] }, .string c, .string n]] w fun e w' => e = .returned (.int .i64 (insFault ⟨op, 0, 0, { data := #[] }, c, n⟩)) ∧ Below w.heap.size w w' := by
 have HS : Hid (insFault ⟨op, 0, 0, { data := #[] }, c, n⟩ = if rangedOk ⟨op, 0, 0, { data := #[] }, c, n⟩ = false then 2 else if typedOk ⟨op, 0, 0, { data := #[] }, c, n⟩ = false ∨ (needC op = true ∧ nameOk (c : ByteArray).data.toList = false) ∨ (needN op = true ∧ nameOk (n : ByteArray).data.toList = false) then 1 else 0) := hid (by
  unfold insFault
  rw [if_neg (by simp only; omega), if_neg (by simp [bareOk, hkC, hkN])])
 have HR : Hid (rangedOk ⟨op, 0, 0, { data := #[] }, c, n⟩ = true) := hid (by
  unfold rangedOk
  simp only
  rw [if_neg h2, if_neg (by omega), if_neg h9, if_neg (by rw [hJ]; decide)])
 have g1 : ¬ op < 1 := by omega
 have g2 : ¬ (28 : Int) < op := by omega
 have k2 : (op == 2) = false := by simp [h2]
 have k4 : (op == 4) = false := by simp [h4]
 have k5 : (op == 5) = false := by simp [h5]
 have k9 : (op == 9) = false := by simp [h9]
 have k12 : (op == 12) = false := by
  cases h : op == 12 with
  | false => rfl
  | true => unfold jumpsOp at hJ; rw [h] at hJ; cases hJ
 have HJ := hid hJ
 clear ho hJ h2 h4 h5 h9
 have HBX := hid (Box.new w (⟨op, 0, 0, { data := #[] }, c, n⟩ : I) 108)
 have HE := hid (ext_alloc w (.cells #[.int .i64 op, .int .i64 0, .int .i64 0, .string { data := #[] }, .string c, .string n] 108))
 go_enter Tryz.func90, Tryz.ntmps90
 go_wp2_with fail
 refine (hne.out _).mono ?_
 rintro e w1 ⟨rfl, hb1⟩
 have HB1 := hid (HE.out.trans (hb1.mono HE.out.size))
 have hlt1 : w.heap.size < w1.heap.size := Nat.lt_of_lt_of_le (by simp) hb1.size
 have HX1 := hid ((HBX.out.below hb1).below (ext_alloc w1 (.cells #[.bool false, .bool false, .bool false, .bool true, .bool true] 146)))
 have hE2 := ext_alloc w1 (.cells #[.bool false, .bool false, .bool false, .bool true, .bool true] 146)
 have HB2 := hid (HB1.out.trans (hE2.mono HB1.out.size))
 have HFC := hid (show (w1.alloc (.cells #[.bool false, .bool false, .bool false, .bool true, .bool true] 146)).cell? ⟨w1.heap.size, 3, none⟩ = some (.bool true) ∧ (w1.alloc (.cells #[.bool false, .bool false, .bool false, .bool true, .bool true] 146)).cell? ⟨w1.heap.size, 4, none⟩ = some (.bool true) from ⟨by rw [World.cell?_alloc_at _ _ _ _ rfl]; rfl, by rw [World.cell?_alloc_at _ _ _ _ rfl]; rfl⟩)
 obtain ⟨c0, c1, c2, c3, c4, c5⟩ := HX1.out
 clear hb1 hE2
 go_wp2_with fail
 refine (rjumps_any op _).mono ?_
 rintro e wj ⟨rfl, rfl⟩
 rw [HJ.out]
 go_wp2_with fail
 refine (may_any op 0 0 { data := #[] } c n _ (by decide)).mono ?_
 rintro e w4 ⟨rfl, hb4⟩
 have HX4 := hid (HX1.out.below hb4)
 have HB4 := hid (HB2.out.trans (hb4.mono HB2.out.size))
 have HFC4 := hid (show w4.cell? ⟨w1.heap.size, 3, none⟩ = some (.bool true) ∧ w4.cell? ⟨w1.heap.size, 4, none⟩ = some (.bool true) from ⟨by rw [hb4.cell (World.block_lt_of_cell? _ _ HFC.out.1)]; exact HFC.out.1, by rw [hb4.cell (World.block_lt_of_cell? _ _ HFC.out.2)]; exact HFC.out.2⟩)
 clear c0 c1 c2 c3 c4 c5 hb4
 cases hT : typedOk ⟨op, 0, 0, { data := #[] }, c, n⟩ with
 | false =>
  have HZ : Hid (insFault ⟨op, 0, 0, { data := #[] }, c, n⟩ = 1) := hid (by rw [HS.out, if_neg (by rw [HR.out]; decide), if_pos (.inl hT)])
  clear hT
  go_wp2
  go_ret
  rw [HZ.out]
  exact ⟨rfl, HB4.out⟩
 | true =>
  have HT := hid hT
  clear hT
  obtain ⟨c0, c1, c2, c3, c4, c5⟩ := HX4.out
  obtain ⟨d3, d4⟩ := HFC4.out
  cases hC : nameOk c.data.toList with
  | false =>
   have HZ : Hid (insFault ⟨op, 0, 0, { data := #[] }, c, n⟩ = 1) := hid (by rw [HS.out, if_neg (by rw [HR.out]; decide), if_pos (.inr (.inl ⟨hkC, hC⟩))])
   have HC := hid hC
   clear hC
   go_wp2_with fail
   refine (isName_any c _ hc).mono ?_
   rintro e w5 ⟨rfl, rfl⟩
   rw [HC.out]
   go_wp2
   go_ret
   rw [HZ.out]
   exact ⟨rfl, HB4.out⟩
  | true =>
   have HC := hid hC
   clear hC
   go_wp2_with fail
   refine (isName_any c _ hc).mono ?_
   rintro e w5 ⟨rfl, rfl⟩
   rw [HC.out]
   cases hN : nameOk n.data.toList with
   | false =>
    have HZ : Hid (insFault ⟨op, 0, 0, { data := #[] }, c, n⟩ = 1) := hid (by rw [HS.out, if_neg (by rw [HR.out]; decide), if_pos (.inr (.inr ⟨hkN, hN⟩))])
    have HN := hid hN
    clear hN
    go_wp2_with fail
    refine (isName_any n _ hn).mono ?_
    rintro e w6 ⟨rfl, rfl⟩
    rw [HN.out]
    go_wp2
    go_ret
    rw [HZ.out]
    exact ⟨rfl, HB4.out⟩
   | true =>
    have HZ : Hid (insFault ⟨op, 0, 0, { data := #[] }, c, n⟩ = 0) := hid (by rw [HS.out, if_neg (by rw [HR.out]; decide)]; exact if_neg (fun h => h.elim (fun h => by rw [HT.out] at h; cases h) (fun h => h.elim (fun h => by have h := h.2; rw [HC.out] at h; cases h) (fun h => by have h := h.2; rw [hN] at h; cases h))))
    have HN := hid hN
    clear hN
    go_wp2_with fail
    refine (isName_any n _ hn).mono ?_
    rintro e w6 ⟨rfl, rfl⟩
    rw [HN.out]
    go_wp2
    go_ret
    rw [HZ.out]
    exact ⟨rfl, HB4.out⟩
theorem rclassCN (op a b : Int) (t c n : ByteArray) (w : World) (hne : Hid (∀ w, Calls Tryz.prog 112 #[.int .i64 op] w fun e w' => e = .returned (.agg #[.bool false, .bool false, .bool false, .bool true, .bool true]) ∧ Below w.heap.size w w')) (ho : 1 ≤ op ∧ op ≤ 28) (hkA : needA op = false) (hkB : needB op = false) (hkT : needT op = false) (hkC : needC op = true) (hkN : needN op = true) (hJ : jumpsOp op = false) (h2 : op ≠ 2) (h4 : op ≠ 4) (h5 : op ≠ 5) (h9 : op ≠ 9) (ht : t.size ≤ 10000000) (hc : c.size ≤ 9223372036854775807) (hn : n.size ≤ 9223372036854775807) :
  Calls Tryz.prog 90 #[.agg #[.int .i64 op, .int .i64 a, .int .i64 b, .string t, .string c, .string n]] w fun e w' => e = .returned (.int .i64 (insFault ⟨op, a, b, t, c, n⟩)) ∧ Below w.heap.size w w' := by
 by_cases zA : ¬ a = 0
 ·exact rbadCN_A op a b t c n w hne ho hkA zA
 obtain rfl : a = 0 := Classical.not_not.1 zA
 by_cases zB : ¬ b = 0
 ·exact rbadCN_B op b t c n w hne ho hkB zB
 obtain rfl : b = 0 := Classical.not_not.1 zB
 by_cases zT : t.data.toList ≠ []
 ·exact rbadCN_T op t c n w hne ho hkT zT
 obtain rfl : t = { data := #[] } := bs_of (Classical.not_not.1 zT)
 exact rgoodCN op c n w hne hkC hkN ho hJ h2 h4 h5 h9 hc hn
set_option maxRecDepth 100000 in
set_option maxHeartbeats 2000000 in
theorem rbadTCN_A (op : Int) (a b : Int) (t c n : ByteArray) (w : World) (hne : Hid (∀ w, Calls Tryz.prog 112 #[.int .i64 op] w fun e w' => e = .returned (.agg #[.bool false, .bool false, .bool true, .bool true, .bool true]) ∧ Below w.heap.size w w')) (ho : 1 ≤ op ∧ op ≤ 28) (hkA : needA op = false) (hx : ¬ a = 0) :
  Calls Tryz.prog 90 #[.agg #[.int .i64 op, .int .i64 a, .int .i64 b, .string t, .string c, .string n]] w fun e w' => e = .returned (.int .i64 (insFault ⟨op, a, b, t, c, n⟩)) ∧ Below w.heap.size w w' := by
 have hx2 : ¬ a = 0 := hx
 have HS : Hid (insFault ⟨op, a, b, t, c, n⟩ = 1) := hid (by
  unfold insFault
  rw [if_neg (by simp only; omega), if_pos]
  simp [bareOk, hkA, hx2])
 have k1 : ¬ op < 1 := by omega
 have k2 : ¬ (28 : Int) < op := by omega
 have hxb : (a == 0) = false := by simp [hx]
 have hxm : (a != 0) = true := by simp [hx]
 clear hkA ho hx2
 have HBX := hid (Box.new w (⟨op, a, b, t, c, n⟩ : I) 108)
 have HE := hid (ext_alloc w (.cells #[.int .i64 op, .int .i64 a, .int .i64 b, .string t, .string c, .string n] 108))
 go_enter Tryz.func90, Tryz.ntmps90
 go_wp2_with fail
 refine (hne.out _).mono ?_
 rintro e w1 ⟨rfl, hb1⟩
 have HB1 := hid (HE.out.trans (hb1.mono HE.out.size))
 have hlt1 : w.heap.size < w1.heap.size := Nat.lt_of_lt_of_le (by simp) hb1.size
 have HX1 := hid ((HBX.out.below hb1).below (ext_alloc w1 (.cells #[.bool false, .bool false, .bool true, .bool true, .bool true] 146)))
 have hE2 := ext_alloc w1 (.cells #[.bool false, .bool false, .bool true, .bool true, .bool true] 146)
 have HB2 := hid (HB1.out.trans (hE2.mono HB1.out.size))
 have HFC := hid (show (w1.alloc (.cells #[.bool false, .bool false, .bool true, .bool true, .bool true] 146)).cell? ⟨w1.heap.size, 3, none⟩ = some (.bool true) ∧ (w1.alloc (.cells #[.bool false, .bool false, .bool true, .bool true, .bool true] 146)).cell? ⟨w1.heap.size, 4, none⟩ = some (.bool true) from ⟨by rw [World.cell?_alloc_at _ _ _ _ rfl]; rfl, by rw [World.cell?_alloc_at _ _ _ _ rfl]; rfl⟩)
 obtain ⟨c0, c1, c2, c3, c4, c5⟩ := HX1.out
 clear hb1 hE2
 go_wp2
 go_ret
 rw [HS.out]
 exact ⟨rfl, HB2.out⟩
set_option maxRecDepth 100000 in
set_option maxHeartbeats 2000000 in
theorem rbadTCN_B (op : Int) (b : Int) (t c n : ByteArray) (w : World) (hne : Hid (∀ w, Calls Tryz.prog 112 #[.int .i64 op] w fun e w' => e = .returned (.agg #[.bool false, .bool false, .bool true, .bool true, .bool true]) ∧ Below w.heap.size w w')) (ho : 1 ≤ op ∧ op ≤ 28) (hkB : needB op = false) (hx : ¬ b = 0) :
  Calls Tryz.prog 90 #[.agg #[.int .i64 op, .int .i64 0, .int .i64 b, .string t, .string c, .string n]] w fun e w' => e = .returned (.int .i64 (insFault ⟨op, 0, b, t, c, n⟩)) ∧ Below w.heap.size w w' := by
 have hx2 : ¬ b = 0 := hx
 have HS : Hid (insFault ⟨op, 0, b, t, c, n⟩ = 1) := hid (by
  unfold insFault
  rw [if_neg (by simp only; omega), if_pos]
  simp [bareOk, hkB, hx2])
 have k1 : ¬ op < 1 := by omega
 have k2 : ¬ (28 : Int) < op := by omega
 have hxb : (b == 0) = false := by simp [hx]
 have hxm : (b != 0) = true := by simp [hx]
 clear hkB ho hx2
 have HBX := hid (Box.new w (⟨op, 0, b, t, c, n⟩ : I) 108)
 have HE := hid (ext_alloc w (.cells #[.int .i64 op, .int .i64 0, .int .i64 b, .string t, .string c, .string n] 108))
 go_enter Tryz.func90, Tryz.ntmps90
 go_wp2_with fail
 refine (hne.out _).mono ?_
 rintro e w1 ⟨rfl, hb1⟩
 have HB1 := hid (HE.out.trans (hb1.mono HE.out.size))
 have hlt1 : w.heap.size < w1.heap.size := Nat.lt_of_lt_of_le (by simp) hb1.size
 have HX1 := hid ((HBX.out.below hb1).below (ext_alloc w1 (.cells #[.bool false, .bool false, .bool true, .bool true, .bool true] 146)))
 have hE2 := ext_alloc w1 (.cells #[.bool false, .bool false, .bool true, .bool true, .bool true] 146)
 have HB2 := hid (HB1.out.trans (hE2.mono HB1.out.size))
 have HFC := hid (show (w1.alloc (.cells #[.bool false, .bool false, .bool true, .bool true, .bool true] 146)).cell? ⟨w1.heap.size, 3, none⟩ = some (.bool true) ∧ (w1.alloc (.cells #[.bool false, .bool false, .bool true, .bool true, .bool true] 146)).cell? ⟨w1.heap.size, 4, none⟩ = some (.bool true) from ⟨by rw [World.cell?_alloc_at _ _ _ _ rfl]; rfl, by rw [World.cell?_alloc_at _ _ _ _ rfl]; rfl⟩)
 obtain ⟨c0, c1, c2, c3, c4, c5⟩ := HX1.out
 clear hb1 hE2
 go_wp2
 go_ret
 rw [HS.out]
 exact ⟨rfl, HB2.out⟩
set_option maxRecDepth 100000 in
set_option maxHeartbeats 4000000 in
theorem rgoodTCN (op : Int) (t c n : ByteArray) (w : World) (hne : Hid (∀ w, Calls Tryz.prog 112 #[.int .i64 op] w fun e w' => e = .returned (.agg #[.bool false, .bool false, .bool true, .bool true, .bool true]) ∧ Below w.heap.size w w')) (hkT : needT op = true) (hkC : needC op = true) (hkN : needN op = true) (ho : 1 ≤ op ∧ op ≤ 28) (hJ : jumpsOp op = false) (h2 : op ≠ 2) (h4 : op ≠ 4) (h5 : op ≠ 5) (h9 : op ≠ 9) (ht : t.size ≤ 10000000) (hc : c.size ≤ 9223372036854775807) (hn : n.size ≤ 9223372036854775807) :
  Calls Tryz.prog 90 #[.agg #[.int .i64 op, .int .i64 0, .int .i64 0, .string t, .string c, .string n]] w fun e w' => e = .returned (.int .i64 (insFault ⟨op, 0, 0, t, c, n⟩)) ∧ Below w.heap.size w w' := by
 have HS : Hid (insFault ⟨op, 0, 0, t, c, n⟩ = if rangedOk ⟨op, 0, 0, t, c, n⟩ = false then 2 else if typedOk ⟨op, 0, 0, t, c, n⟩ = false ∨ (needC op = true ∧ nameOk (c : ByteArray).data.toList = false) ∨ (needN op = true ∧ nameOk (n : ByteArray).data.toList = false) then 1 else 0) := hid (by
  unfold insFault
  rw [if_neg (by simp only; omega), if_neg (by simp [bareOk, hkT, hkC, hkN])])
 have HR : Hid (rangedOk ⟨op, 0, 0, t, c, n⟩ = true) := hid (by
  unfold rangedOk
  simp only
  rw [if_neg h2, if_neg (by omega), if_neg h9, if_neg (by rw [hJ]; decide)])
 have g1 : ¬ op < 1 := by omega
 have g2 : ¬ (28 : Int) < op := by omega
 have k2 : (op == 2) = false := by simp [h2]
 have k4 : (op == 4) = false := by simp [h4]
 have k5 : (op == 5) = false := by simp [h5]
 have k9 : (op == 9) = false := by simp [h9]
 have k12 : (op == 12) = false := by
  cases h : op == 12 with
  | false => rfl
  | true => unfold jumpsOp at hJ; rw [h] at hJ; cases hJ
 have HJ := hid hJ
 clear ho hJ h2 h4 h5 h9 hkT
 have HBX := hid (Box.new w (⟨op, 0, 0, t, c, n⟩ : I) 108)
 have HE := hid (ext_alloc w (.cells #[.int .i64 op, .int .i64 0, .int .i64 0, .string t, .string c, .string n] 108))
 go_enter Tryz.func90, Tryz.ntmps90
 go_wp2_with fail
 refine (hne.out _).mono ?_
 rintro e w1 ⟨rfl, hb1⟩
 have HB1 := hid (HE.out.trans (hb1.mono HE.out.size))
 have hlt1 : w.heap.size < w1.heap.size := Nat.lt_of_lt_of_le (by simp) hb1.size
 have HX1 := hid ((HBX.out.below hb1).below (ext_alloc w1 (.cells #[.bool false, .bool false, .bool true, .bool true, .bool true] 146)))
 have hE2 := ext_alloc w1 (.cells #[.bool false, .bool false, .bool true, .bool true, .bool true] 146)
 have HB2 := hid (HB1.out.trans (hE2.mono HB1.out.size))
 have HFC := hid (show (w1.alloc (.cells #[.bool false, .bool false, .bool true, .bool true, .bool true] 146)).cell? ⟨w1.heap.size, 3, none⟩ = some (.bool true) ∧ (w1.alloc (.cells #[.bool false, .bool false, .bool true, .bool true, .bool true] 146)).cell? ⟨w1.heap.size, 4, none⟩ = some (.bool true) from ⟨by rw [World.cell?_alloc_at _ _ _ _ rfl]; rfl, by rw [World.cell?_alloc_at _ _ _ _ rfl]; rfl⟩)
 obtain ⟨c0, c1, c2, c3, c4, c5⟩ := HX1.out
 clear hb1 hE2
 go_wp2_with fail
 refine (rjumps_any op _).mono ?_
 rintro e wj ⟨rfl, rfl⟩
 rw [HJ.out]
 go_wp2_with fail
 refine (may_any op 0 0 t c n _ ht).mono ?_
 rintro e w4 ⟨rfl, hb4⟩
 have HX4 := hid (HX1.out.below hb4)
 have HB4 := hid (HB2.out.trans (hb4.mono HB2.out.size))
 have HFC4 := hid (show w4.cell? ⟨w1.heap.size, 3, none⟩ = some (.bool true) ∧ w4.cell? ⟨w1.heap.size, 4, none⟩ = some (.bool true) from ⟨by rw [hb4.cell (World.block_lt_of_cell? _ _ HFC.out.1)]; exact HFC.out.1, by rw [hb4.cell (World.block_lt_of_cell? _ _ HFC.out.2)]; exact HFC.out.2⟩)
 clear c0 c1 c2 c3 c4 c5 hb4
 cases hT : typedOk ⟨op, 0, 0, t, c, n⟩ with
 | false =>
  have HZ : Hid (insFault ⟨op, 0, 0, t, c, n⟩ = 1) := hid (by rw [HS.out, if_neg (by rw [HR.out]; decide), if_pos (.inl hT)])
  clear hT
  go_wp2
  go_ret
  rw [HZ.out]
  exact ⟨rfl, HB4.out⟩
 | true =>
  have HT := hid hT
  clear hT
  obtain ⟨c0, c1, c2, c3, c4, c5⟩ := HX4.out
  obtain ⟨d3, d4⟩ := HFC4.out
  cases hC : nameOk c.data.toList with
  | false =>
   have HZ : Hid (insFault ⟨op, 0, 0, t, c, n⟩ = 1) := hid (by rw [HS.out, if_neg (by rw [HR.out]; decide), if_pos (.inr (.inl ⟨hkC, hC⟩))])
   have HC := hid hC
   clear hC
   go_wp2_with fail
   refine (isName_any c _ hc).mono ?_
   rintro e w5 ⟨rfl, rfl⟩
   rw [HC.out]
   go_wp2
   go_ret
   rw [HZ.out]
   exact ⟨rfl, HB4.out⟩
  | true =>
   have HC := hid hC
   clear hC
   go_wp2_with fail
   refine (isName_any c _ hc).mono ?_
   rintro e w5 ⟨rfl, rfl⟩
   rw [HC.out]
   cases hN : nameOk n.data.toList with
   | false =>
    have HZ : Hid (insFault ⟨op, 0, 0, t, c, n⟩ = 1) := hid (by rw [HS.out, if_neg (by rw [HR.out]; decide), if_pos (.inr (.inr ⟨hkN, hN⟩))])
    have HN := hid hN
    clear hN
    go_wp2_with fail
    refine (isName_any n _ hn).mono ?_
    rintro e w6 ⟨rfl, rfl⟩
    rw [HN.out]
    go_wp2
    go_ret
    rw [HZ.out]
    exact ⟨rfl, HB4.out⟩
   | true =>
    have HZ : Hid (insFault ⟨op, 0, 0, t, c, n⟩ = 0) := hid (by rw [HS.out, if_neg (by rw [HR.out]; decide)]; exact if_neg (fun h => h.elim (fun h => by rw [HT.out] at h; cases h) (fun h => h.elim (fun h => by have h := h.2; rw [HC.out] at h; cases h) (fun h => by have h := h.2; rw [hN] at h; cases h))))
    have HN := hid hN
    clear hN
    go_wp2_with fail
    refine (isName_any n _ hn).mono ?_
    rintro e w6 ⟨rfl, rfl⟩
    rw [HN.out]
    go_wp2
    go_ret
    rw [HZ.out]
    exact ⟨rfl, HB4.out⟩
theorem rclassTCN (op a b : Int) (t c n : ByteArray) (w : World) (hne : Hid (∀ w, Calls Tryz.prog 112 #[.int .i64 op] w fun e w' => e = .returned (.agg #[.bool false, .bool false, .bool true, .bool true, .bool true]) ∧ Below w.heap.size w w')) (ho : 1 ≤ op ∧ op ≤ 28) (hkA : needA op = false) (hkB : needB op = false) (hkT : needT op = true) (hkC : needC op = true) (hkN : needN op = true) (hJ : jumpsOp op = false) (h2 : op ≠ 2) (h4 : op ≠ 4) (h5 : op ≠ 5) (h9 : op ≠ 9) (ht : t.size ≤ 10000000) (hc : c.size ≤ 9223372036854775807) (hn : n.size ≤ 9223372036854775807) :
  Calls Tryz.prog 90 #[.agg #[.int .i64 op, .int .i64 a, .int .i64 b, .string t, .string c, .string n]] w fun e w' => e = .returned (.int .i64 (insFault ⟨op, a, b, t, c, n⟩)) ∧ Below w.heap.size w w' := by
 by_cases zA : ¬ a = 0
 ·exact rbadTCN_A op a b t c n w hne ho hkA zA
 obtain rfl : a = 0 := Classical.not_not.1 zA
 by_cases zB : ¬ b = 0
 ·exact rbadTCN_B op b t c n w hne ho hkB zB
 obtain rfl : b = 0 := Classical.not_not.1 zB
 exact rgoodTCN op t c n w hne hkT hkC hkN ho hJ h2 h4 h5 h9 ht hc hn
end Go.Proofs.YtlhobhnbgdicjaaGreatDoor.ins
