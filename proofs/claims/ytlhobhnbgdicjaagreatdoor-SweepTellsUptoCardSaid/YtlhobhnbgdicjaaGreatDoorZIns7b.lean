/- Instructions: the reference's InsFault (2). Condition: the type's text is shorter than ten million bytes. -/
import Derived.Test.YtlhobhnbgdicjaaGreatDoorZInsJ
import Derived.Test.YtlhobhnbgdicjaaGreatDoorZIns3R
import Derived.Test.YtlhobhnbgdicjaaGreatDoorZIns5
import Derived.Test.YtlhobhnbgdicjaaGreatDoorZName
namespace Go.Proofs.YtlhobhnbgdicjaaGreatDoor.ins
open Go.RowKit lib errs names descs
set_option maxRecDepth 100000 in
set_option maxHeartbeats 2000000 in
theorem rbadA_B (op : Int) (a b : Int) (t c n : ByteArray) (w : World) (hne : Hid (∀ w, Calls Tryz.prog 112 #[.int .i64 op] w fun e w' => e = .returned (.agg #[.bool true, .bool false, .bool false, .bool false, .bool false]) ∧ Below w.heap.size w w')) (ho : 1 ≤ op ∧ op ≤ 28) (hkB : needB op = false) (hx : ¬ b = 0) :
  Calls Tryz.prog 90 #[.agg #[.int .i64 op, .int .i64 a, .int .i64 b, .string t, .string c, .string n]] w fun e w' => e = .returned (.int .i64 (insFault ⟨op, a, b, t, c, n⟩)) ∧ Below w.heap.size w w' := by
 have hx2 : ¬ b = 0 := hx
 have HS : Hid (insFault ⟨op, a, b, t, c, n⟩ = 1) := hid (by
  unfold insFault
  rw [if_neg (by simp only; omega), if_pos]
  simp [bareOk, hkB, hx2])
 have k1 : ¬ op < 1 := by omega
 have k2 : ¬ (28 : Int) < op := by omega
 have hxb : (b == 0) = false := by simp [hx]
 have hxm : (b != 0) = true := by simp [hx]
 clear hkB ho hx2
 have HBX := hid (Box.new w (⟨op, a, b, t, c, n⟩ : I) 108)
 have HE := hid (ext_alloc w (.cells #[.int .i64 op, .int .i64 a, .int .i64 b, .string t, .string c, .string n] 108))
 go_enter Tryz.func90, Tryz.ntmps90
 go_wp2_with fail
 refine (hne.out _).mono ?_
 rintro e w1 ⟨rfl, hb1⟩
 have HB1 := hid (HE.out.trans (hb1.mono HE.out.size))
 have hlt1 : w.heap.size < w1.heap.size := Nat.lt_of_lt_of_le (by simp) hb1.size
 have HX1 := hid ((HBX.out.below hb1).below (ext_alloc w1 (.cells #[.bool true, .bool false, .bool false, .bool false, .bool false] 146)))
 have hE2 := ext_alloc w1 (.cells #[.bool true, .bool false, .bool false, .bool false, .bool false] 146)
 have HB2 := hid (HB1.out.trans (hE2.mono HB1.out.size))
 have HFC := hid (show (w1.alloc (.cells #[.bool true, .bool false, .bool false, .bool false, .bool false] 146)).cell? ⟨w1.heap.size, 3, none⟩ = some (.bool false) ∧ (w1.alloc (.cells #[.bool true, .bool false, .bool false, .bool false, .bool false] 146)).cell? ⟨w1.heap.size, 4, none⟩ = some (.bool false) from ⟨by rw [World.cell?_alloc_at _ _ _ _ rfl]; rfl, by rw [World.cell?_alloc_at _ _ _ _ rfl]; rfl⟩)
 obtain ⟨c0, c1, c2, c3, c4, c5⟩ := HX1.out
 clear hb1 hE2
 go_wp2
 go_ret
 rw [HS.out]
 exact ⟨rfl, HB2.out⟩
set_option maxRecDepth 100000 in
set_option maxHeartbeats 2000000 in
theorem rbadA_T (op : Int) (a : Int) (t c n : ByteArray) (w : World) (hne : Hid (∀ w, Calls Tryz.prog 112 #[.int .i64 op] w fun e w' => e = .returned (.agg #[.bool true, .bool false, .bool false, .bool false, .bool false]) ∧ Below w.heap.size w w')) (ho : 1 ≤ op ∧ op ≤ 28) (hkT : needT op = false) (hx : t.data.toList ≠ []) :
  Calls Tryz.prog 90 #[.agg #[.int .i64 op, .int .i64 a, .int .i64 0, .string t, .string c, .string n]] w fun e w' => e = .returned (.int .i64 (insFault ⟨op, a, 0, t, c, n⟩)) ∧ Below w.heap.size w w' := by
 have hx2 : ¬ t.data = #[] := fun h => hx (by rw [h])
 have HS : Hid (insFault ⟨op, a, 0, t, c, n⟩ = 1) := hid (by
  unfold insFault
  rw [if_neg (by simp only; omega), if_pos]
  simp [bareOk, hkT, hx2])
 have k1 : ¬ op < 1 := by omega
 have k2 : ¬ (28 : Int) < op := by omega
 have hxb : t.toList.isEmpty = false := by rw [ByteArray.toList_eq]; cases h : t.data.toList with
  | nil => exact absurd h hx
  | cons _ _ => rfl
 have hxl : ¬ t.toList = [] := fun h => hx (str_list.1 h)
 clear hkT ho hx2 hx
 have HBX := hid (Box.new w (⟨op, a, 0, t, c, n⟩ : I) 108)
 have HE := hid (ext_alloc w (.cells #[.int .i64 op, .int .i64 a, .int .i64 0, .string t, .string c, .string n] 108))
 go_enter Tryz.func90, Tryz.ntmps90
 go_wp2_with fail
 refine (hne.out _).mono ?_
 rintro e w1 ⟨rfl, hb1⟩
 have HB1 := hid (HE.out.trans (hb1.mono HE.out.size))
 have hlt1 : w.heap.size < w1.heap.size := Nat.lt_of_lt_of_le (by simp) hb1.size
 have HX1 := hid ((HBX.out.below hb1).below (ext_alloc w1 (.cells #[.bool true, .bool false, .bool false, .bool false, .bool false] 146)))
 have hE2 := ext_alloc w1 (.cells #[.bool true, .bool false, .bool false, .bool false, .bool false] 146)
 have HB2 := hid (HB1.out.trans (hE2.mono HB1.out.size))
 have HFC := hid (show (w1.alloc (.cells #[.bool true, .bool false, .bool false, .bool false, .bool false] 146)).cell? ⟨w1.heap.size, 3, none⟩ = some (.bool false) ∧ (w1.alloc (.cells #[.bool true, .bool false, .bool false, .bool false, .bool false] 146)).cell? ⟨w1.heap.size, 4, none⟩ = some (.bool false) from ⟨by rw [World.cell?_alloc_at _ _ _ _ rfl]; rfl, by rw [World.cell?_alloc_at _ _ _ _ rfl]; rfl⟩)
 obtain ⟨c0, c1, c2, c3, c4, c5⟩ := HX1.out
 clear hb1 hE2
 go_wp2
 go_ret
 rw [HS.out]
 exact ⟨rfl, HB2.out⟩
set_option maxRecDepth 100000 in
set_option maxHeartbeats 2000000 in
theorem rbadA_C (op : Int) (a : Int) (c n : ByteArray) (w : World) (hne : Hid (∀ w, Calls Tryz.prog 112 #[.int .i64 op] w fun e w' => e = .returned (.agg #[.bool true, .bool false, .bool false, .bool false, .bool false]) ∧ Below w.heap.size w w')) (ho : 1 ≤ op ∧ op ≤ 28) (hkC : needC op = false) (hx : c.data.toList ≠ []) :
  Calls Tryz.prog 90 #[.agg #[.int .i64 op, .int .i64 a, .int .i64 0, .string { data := #[] }, .string c, .string n]] w fun e w' => e = .returned (.int .i64 (insFault ⟨op, a, 0, { data := #[] }, c, n⟩)) ∧ Below w.heap.size w w' := by
 have hx2 : ¬ c.data = #[] := fun h => hx (by rw [h])
 have HS : Hid (insFault ⟨op, a, 0, { data := #[] }, c, n⟩ = 1) := hid (by
  unfold insFault
  rw [if_neg (by simp only; omega), if_pos]
  simp [bareOk, hkC, hx2])
 have k1 : ¬ op < 1 := by omega
 have k2 : ¬ (28 : Int) < op := by omega
 have hxb : c.toList.isEmpty = false := by rw [ByteArray.toList_eq]; cases h : c.data.toList with
  | nil => exact absurd h hx
  | cons _ _ => rfl
 have hxl : ¬ c.toList = [] := fun h => hx (str_list.1 h)
 clear hkC ho hx2 hx
 have HBX := hid (Box.new w (⟨op, a, 0, { data := #[] }, c, n⟩ : I) 108)
 have HE := hid (ext_alloc w (.cells #[.int .i64 op, .int .i64 a, .int .i64 0, .string { data := #[] }, .string c, .string n] 108))
 go_enter Tryz.func90, Tryz.ntmps90
 go_wp2_with fail
 refine (hne.out _).mono ?_
 rintro e w1 ⟨rfl, hb1⟩
 have HB1 := hid (HE.out.trans (hb1.mono HE.out.size))
 have hlt1 : w.heap.size < w1.heap.size := Nat.lt_of_lt_of_le (by simp) hb1.size
 have HX1 := hid ((HBX.out.below hb1).below (ext_alloc w1 (.cells #[.bool true, .bool false, .bool false, .bool false, .bool false] 146)))
 have hE2 := ext_alloc w1 (.cells #[.bool true, .bool false, .bool false, .bool false, .bool false] 146)
 have HB2 := hid (HB1.out.trans (hE2.mono HB1.out.size))
 have HFC := hid (show (w1.alloc (.cells #[.bool true, .bool false, .bool false, .bool false, .bool false] 146)).cell? ⟨w1.heap.size, 3, none⟩ = some (.bool false) ∧ (w1.alloc (.cells #[.bool true, .bool false, .bool false, .bool false, .bool false] 146)).cell? ⟨w1.heap.size, 4, none⟩ = some (.bool false) from ⟨by rw [World.cell?_alloc_at _ _ _ _ rfl]; rfl, by rw [World.cell?_alloc_at _ _ _ _ rfl]; rfl⟩)
 obtain ⟨c0, c1, c2, c3, c4, c5⟩ := HX1.out
 clear hb1 hE2
 go_wp2
 go_ret
 rw [HS.out]
 exact ⟨rfl, HB2.out⟩
set_option maxRecDepth 100000 in
set_option maxHeartbeats 2000000 in
theorem rbadA_N (op : Int) (a : Int) (n : ByteArray) (w : World) (hne : Hid (∀ w, Calls Tryz.prog 112 #[.int .i64 op] w fun e w' => e = .returned (.agg #[.bool true, .bool false, .bool false, .bool false, .bool false]) ∧ Below w.heap.size w w')) (ho : 1 ≤ op ∧ op ≤ 28) (hkN : needN op = false) (hx : n.data.toList ≠ []) :
  Calls Tryz.prog 90 #[.agg #[.int .i64 op, .int .i64 a, .int .i64 0, .string { data := #[] }, .string { data := #[] }, .string n]] w fun e w' => e = .returned (.int .i64 (insFault ⟨op, a, 0, { data := #[] }, { data := #[] }, n⟩)) ∧ Below w.heap.size w w' := by
 have hx2 : ¬ n.data = #[] := fun h => hx (by rw [h])
 have HS : Hid (insFault ⟨op, a, 0, { data := #[] }, { data := #[] }, n⟩ = 1) := hid (by
  unfold insFault
  rw [if_neg (by simp only; omega), if_pos]
  simp [bareOk, hkN, hx2])
 have k1 : ¬ op < 1 := by omega
 have k2 : ¬ (28 : Int) < op := by omega
 have hxb : n.toList.isEmpty = false := by rw [ByteArray.toList_eq]; cases h : n.data.toList with
  | nil => exact absurd h hx
  | cons _ _ => rfl
 have hxl : ¬ n.toList = [] := fun h => hx (str_list.1 h)
 clear hkN ho hx2 hx
 have HBX := hid (Box.new w (⟨op, a, 0, { data := #[] }, { data := #[] }, n⟩ : I) 108)
 have HE := hid (ext_alloc w (.cells #[.int .i64 op, .int .i64 a, .int .i64 0, .string { data := #[] }, .string { data := #[] }, .string n] 108))
 go_enter Tryz.func90, Tryz.ntmps90
 go_wp2_with fail
 refine (hne.out _).mono ?_
 rintro e w1 ⟨rfl, hb1⟩
 have HB1 := hid (HE.out.trans (hb1.mono HE.out.size))
 have hlt1 : w.heap.size < w1.heap.size := Nat.lt_of_lt_of_le (by simp) hb1.size
 have HX1 := hid ((HBX.out.below hb1).below (ext_alloc w1 (.cells #[.bool true, .bool false, .bool false, .bool false, .bool false] 146)))
 have hE2 := ext_alloc w1 (.cells #[.bool true, .bool false, .bool false, .bool false, .bool false] 146)
 have HB2 := hid (HB1.out.trans (hE2.mono HB1.out.size))
 have HFC := hid (show (w1.alloc (.cells #[.bool true, .bool false, .bool false, .bool false, .bool false] 146)).cell? ⟨w1.heap.size, 3, none⟩ = some (.bool false) ∧ (w1.alloc (.cells #[.bool true, .bool false, .bool false, .bool false, .bool false] 146)).cell? ⟨w1.heap.size, 4, none⟩ = some (.bool false) from ⟨by rw [World.cell?_alloc_at _ _ _ _ rfl]; rfl, by rw [World.cell?_alloc_at _ _ _ _ rfl]; rfl⟩)
 obtain ⟨c0, c1, c2, c3, c4, c5⟩ := HX1.out
 clear hb1 hE2
 go_wp2
 go_ret
 rw [HS.out]
 exact ⟨rfl, HB2.out⟩
set_option maxRecDepth 100000 in
set_option maxHeartbeats 4000000 in
theorem rgoodA4 (a : Int) (w : World) (hne : Hid (∀ w, Calls Tryz.prog 112 #[.int .i64 4] w fun e w' => e = .returned (.agg #[.bool true, .bool false, .bool false, .bool false, .bool false]) ∧ Below w.heap.size w w'))  :
  Calls Tryz.prog 90 #[.agg #[.int .i64 4, .int .i64 a, .int .i64 0, .string { data := #[] }, .string { data := #[] }, .string { data := #[] }]] w fun e w' => e = .returned (.int .i64 (insFault ⟨4, a, 0, { data := #[] }, { data := #[] }, { data := #[] }⟩)) ∧ Below w.heap.size w w' := by
 have hkC : needC 4 = false := rfl
 have hkN : needN 4 = false := rfl
 have HS : Hid (insFault ⟨4, a, 0, { data := #[] }, { data := #[] }, { data := #[] }⟩ = if rangedOk ⟨4, a, 0, { data := #[] }, { data := #[] }, { data := #[] }⟩ = false then 2 else if typedOk ⟨4, a, 0, { data := #[] }, { data := #[] }, { data := #[] }⟩ = false ∨ (needC 4 = true ∧ nameOk ({ data := #[] } : ByteArray).data.toList = false) ∨ (needN 4 = true ∧ nameOk ({ data := #[] } : ByteArray).data.toList = false) then 1 else 0) := hid (by
  unfold insFault
  rw [if_neg (by simp only; omega), if_neg (by simp [bareOk, show needA 4 = true from rfl])])
 have hR : rangedOk ⟨4, a, 0, { data := #[] }, { data := #[] }, { data := #[] }⟩ = decide (0 ≤ a ∧ a < 8) := rfl
 by_cases ha1 : a < 0
 ·have HZ : Hid (insFault ⟨4, a, 0, { data := #[] }, { data := #[] }, { data := #[] }⟩ = 2) := hid (by rw [HS.out, if_pos (by rw [hR]; simp; omega)])
  clear hR
  have HBX := hid (Box.new w (⟨4, a, 0, { data := #[] }, { data := #[] }, { data := #[] }⟩ : I) 108)
  have HE := hid (ext_alloc w (.cells #[.int .i64 4, .int .i64 a, .int .i64 0, .string { data := #[] }, .string { data := #[] }, .string { data := #[] }] 108))
  go_enter Tryz.func90, Tryz.ntmps90
  go_wp2_with fail
  refine (hne.out _).mono ?_
  rintro e w1 ⟨rfl, hb1⟩
  have HB1 := hid (HE.out.trans (hb1.mono HE.out.size))
  have hlt1 : w.heap.size < w1.heap.size := Nat.lt_of_lt_of_le (by simp) hb1.size
  have HX1 := hid ((HBX.out.below hb1).below (ext_alloc w1 (.cells #[.bool true, .bool false, .bool false, .bool false, .bool false] 146)))
  have hE2 := ext_alloc w1 (.cells #[.bool true, .bool false, .bool false, .bool false, .bool false] 146)
  have HB2 := hid (HB1.out.trans (hE2.mono HB1.out.size))
  have HFC := hid (show (w1.alloc (.cells #[.bool true, .bool false, .bool false, .bool false, .bool false] 146)).cell? ⟨w1.heap.size, 3, none⟩ = some (.bool false) ∧ (w1.alloc (.cells #[.bool true, .bool false, .bool false, .bool false, .bool false] 146)).cell? ⟨w1.heap.size, 4, none⟩ = some (.bool false) from ⟨by rw [World.cell?_alloc_at _ _ _ _ rfl]; rfl, by rw [World.cell?_alloc_at _ _ _ _ rfl]; rfl⟩)
  obtain ⟨c0, c1, c2, c3, c4, c5⟩ := HX1.out
  clear hb1 hE2
  go_wp2
  go_ret
  rw [HZ.out]
  exact ⟨rfl, HB2.out⟩
 ·by_cases ha2 : 7 < a
  ·have HZ : Hid (insFault ⟨4, a, 0, { data := #[] }, { data := #[] }, { data := #[] }⟩ = 2) := hid (by rw [HS.out, if_pos (by rw [hR]; simp; omega)])
   clear hR
   have HBX := hid (Box.new w (⟨4, a, 0, { data := #[] }, { data := #[] }, { data := #[] }⟩ : I) 108)
   have HE := hid (ext_alloc w (.cells #[.int .i64 4, .int .i64 a, .int .i64 0, .string { data := #[] }, .string { data := #[] }, .string { data := #[] }] 108))
   go_enter Tryz.func90, Tryz.ntmps90
   go_wp2_with fail
   refine (hne.out _).mono ?_
   rintro e w1 ⟨rfl, hb1⟩
   have HB1 := hid (HE.out.trans (hb1.mono HE.out.size))
   have hlt1 : w.heap.size < w1.heap.size := Nat.lt_of_lt_of_le (by simp) hb1.size
   have HX1 := hid ((HBX.out.below hb1).below (ext_alloc w1 (.cells #[.bool true, .bool false, .bool false, .bool false, .bool false] 146)))
   have hE2 := ext_alloc w1 (.cells #[.bool true, .bool false, .bool false, .bool false, .bool false] 146)
   have HB2 := hid (HB1.out.trans (hE2.mono HB1.out.size))
   have HFC := hid (show (w1.alloc (.cells #[.bool true, .bool false, .bool false, .bool false, .bool false] 146)).cell? ⟨w1.heap.size, 3, none⟩ = some (.bool false) ∧ (w1.alloc (.cells #[.bool true, .bool false, .bool false, .bool false, .bool false] 146)).cell? ⟨w1.heap.size, 4, none⟩ = some (.bool false) from ⟨by rw [World.cell?_alloc_at _ _ _ _ rfl]; rfl, by rw [World.cell?_alloc_at _ _ _ _ rfl]; rfl⟩)
   obtain ⟨c0, c1, c2, c3, c4, c5⟩ := HX1.out
   clear hb1 hE2
   go_wp2
   go_ret
   rw [HZ.out]
   exact ⟨rfl, HB2.out⟩
  ·have HR : Hid (rangedOk ⟨4, a, 0, { data := #[] }, { data := #[] }, { data := #[] }⟩ = true) := hid (by rw [hR]; simp; omega)
   clear hR
   have HBX := hid (Box.new w (⟨4, a, 0, { data := #[] }, { data := #[] }, { data := #[] }⟩ : I) 108)
   have HE := hid (ext_alloc w (.cells #[.int .i64 4, .int .i64 a, .int .i64 0, .string { data := #[] }, .string { data := #[] }, .string { data := #[] }] 108))
   go_enter Tryz.func90, Tryz.ntmps90
   go_wp2_with fail
   refine (hne.out _).mono ?_
   rintro e w1 ⟨rfl, hb1⟩
   have HB1 := hid (HE.out.trans (hb1.mono HE.out.size))
   have hlt1 : w.heap.size < w1.heap.size := Nat.lt_of_lt_of_le (by simp) hb1.size
   have HX1 := hid ((HBX.out.below hb1).below (ext_alloc w1 (.cells #[.bool true, .bool false, .bool false, .bool false, .bool false] 146)))
   have hE2 := ext_alloc w1 (.cells #[.bool true, .bool false, .bool false, .bool false, .bool false] 146)
   have HB2 := hid (HB1.out.trans (hE2.mono HB1.out.size))
   have HFC := hid (show (w1.alloc (.cells #[.bool true, .bool false, .bool false, .bool false, .bool false] 146)).cell? ⟨w1.heap.size, 3, none⟩ = some (.bool false) ∧ (w1.alloc (.cells #[.bool true, .bool false, .bool false, .bool false, .bool false] 146)).cell? ⟨w1.heap.size, 4, none⟩ = some (.bool false) from ⟨by rw [World.cell?_alloc_at _ _ _ _ rfl]; rfl, by rw [World.cell?_alloc_at _ _ _ _ rfl]; rfl⟩)
   obtain ⟨c0, c1, c2, c3, c4, c5⟩ := HX1.out
   clear hb1 hE2
   go_wp2_with fail
   refine (rjumps_any 4 _).mono ?_
   rintro e wj ⟨rfl, rfl⟩
   rw [show jumpsOp 4 = false from rfl]
   go_wp2_with fail
   refine (may_any 4 a 0 { data := #[] } { data := #[] } { data := #[] } _ (by decide)).mono ?_
   rintro e w4 ⟨rfl, hb4⟩
   have HX4 := hid (HX1.out.below hb4)
   have HB4 := hid (HB2.out.trans (hb4.mono HB2.out.size))
   have HFC4 := hid (show w4.cell? ⟨w1.heap.size, 3, none⟩ = some (.bool false) ∧ w4.cell? ⟨w1.heap.size, 4, none⟩ = some (.bool false) from ⟨by rw [hb4.cell (World.block_lt_of_cell? _ _ HFC.out.1)]; exact HFC.out.1, by rw [hb4.cell (World.block_lt_of_cell? _ _ HFC.out.2)]; exact HFC.out.2⟩)
   clear c0 c1 c2 c3 c4 c5 hb4
   cases hT : typedOk ⟨4, a, 0, { data := #[] }, { data := #[] }, { data := #[] }⟩ with
   | false =>
    have HZ : Hid (insFault ⟨4, a, 0, { data := #[] }, { data := #[] }, { data := #[] }⟩ = 1) := hid (by rw [HS.out, if_neg (by rw [HR.out]; decide), if_pos (.inl hT)])
    clear hT
    go_wp2
    go_ret
    rw [HZ.out]
    exact ⟨rfl, HB4.out⟩
   | true =>
    have HT := hid hT
    clear hT
    obtain ⟨c0, c1, c2, c3, c4, c5⟩ := HX4.out
    obtain ⟨d3, d4⟩ := HFC4.out
    have HZ : Hid (insFault ⟨4, a, 0, { data := #[] }, { data := #[] }, { data := #[] }⟩ = 0) := hid (by rw [HS.out, if_neg (by rw [HR.out]; decide)]; exact if_neg (fun h => h.elim (fun h => by rw [HT.out] at h; cases h) (fun h => h.elim (fun h => by have h := h.1; rw [hkC] at h; cases h) (fun h => by have h := h.1; rw [hkN] at h; cases h))))
    go_wp2
    go_ret
    rw [HZ.out]
    exact ⟨rfl, HB4.out⟩
set_option maxRecDepth 100000 in
set_option maxHeartbeats 4000000 in
theorem rgoodA5 (a : Int) (w : World) (hne : Hid (∀ w, Calls Tryz.prog 112 #[.int .i64 5] w fun e w' => e = .returned (.agg #[.bool true, .bool false, .bool false, .bool false, .bool false]) ∧ Below w.heap.size w w'))  :
  Calls Tryz.prog 90 #[.agg #[.int .i64 5, .int .i64 a, .int .i64 0, .string { data := #[] }, .string { data := #[] }, .string { data := #[] }]] w fun e w' => e = .returned (.int .i64 (insFault ⟨5, a, 0, { data := #[] }, { data := #[] }, { data := #[] }⟩)) ∧ Below w.heap.size w w' := by
 have hkC : needC 5 = false := rfl
 have hkN : needN 5 = false := rfl
 have HS : Hid (insFault ⟨5, a, 0, { data := #[] }, { data := #[] }, { data := #[] }⟩ = if rangedOk ⟨5, a, 0, { data := #[] }, { data := #[] }, { data := #[] }⟩ = false then 2 else if typedOk ⟨5, a, 0, { data := #[] }, { data := #[] }, { data := #[] }⟩ = false ∨ (needC 5 = true ∧ nameOk ({ data := #[] } : ByteArray).data.toList = false) ∨ (needN 5 = true ∧ nameOk ({ data := #[] } : ByteArray).data.toList = false) then 1 else 0) := hid (by
  unfold insFault
  rw [if_neg (by simp only; omega), if_neg (by simp [bareOk, show needA 5 = true from rfl])])
 have hR : rangedOk ⟨5, a, 0, { data := #[] }, { data := #[] }, { data := #[] }⟩ = decide (0 ≤ a ∧ a < 8) := rfl
 by_cases ha1 : a < 0
 ·have HZ : Hid (insFault ⟨5, a, 0, { data := #[] }, { data := #[] }, { data := #[] }⟩ = 2) := hid (by rw [HS.out, if_pos (by rw [hR]; simp; omega)])
  clear hR
  have HBX := hid (Box.new w (⟨5, a, 0, { data := #[] }, { data := #[] }, { data := #[] }⟩ : I) 108)
  have HE := hid (ext_alloc w (.cells #[.int .i64 5, .int .i64 a, .int .i64 0, .string { data := #[] }, .string { data := #[] }, .string { data := #[] }] 108))
  go_enter Tryz.func90, Tryz.ntmps90
  go_wp2_with fail
  refine (hne.out _).mono ?_
  rintro e w1 ⟨rfl, hb1⟩
  have HB1 := hid (HE.out.trans (hb1.mono HE.out.size))
  have hlt1 : w.heap.size < w1.heap.size := Nat.lt_of_lt_of_le (by simp) hb1.size
  have HX1 := hid ((HBX.out.below hb1).below (ext_alloc w1 (.cells #[.bool true, .bool false, .bool false, .bool false, .bool false] 146)))
  have hE2 := ext_alloc w1 (.cells #[.bool true, .bool false, .bool false, .bool false, .bool false] 146)
  have HB2 := hid (HB1.out.trans (hE2.mono HB1.out.size))
  have HFC := hid (show (w1.alloc (.cells #[.bool true, .bool false, .bool false, .bool false, .bool false] 146)).cell? ⟨w1.heap.size, 3, none⟩ = some (.bool false) ∧ (w1.alloc (.cells #[.bool true, .bool false, .bool false, .bool false, .bool false] 146)).cell? ⟨w1.heap.size, 4, none⟩ = some (.bool false) from ⟨by rw [World.cell?_alloc_at _ _ _ _ rfl]; rfl, by rw [World.cell?_alloc_at _ _ _ _ rfl]; rfl⟩)
  obtain ⟨c0, c1, c2, c3, c4, c5⟩ := HX1.out
  clear hb1 hE2
  go_wp2
  go_ret
  rw [HZ.out]
  exact ⟨rfl, HB2.out⟩
 ·by_cases ha2 : 7 < a
  ·have HZ : Hid (insFault ⟨5, a, 0, { data := #[] }, { data := #[] }, { data := #[] }⟩ = 2) := hid (by rw [HS.out, if_pos (by rw [hR]; simp; omega)])
   clear hR
   have HBX := hid (Box.new w (⟨5, a, 0, { data := #[] }, { data := #[] }, { data := #[] }⟩ : I) 108)
   have HE := hid (ext_alloc w (.cells #[.int .i64 5, .int .i64 a, .int .i64 0, .string { data := #[] }, .string { data := #[] }, .string { data := #[] }] 108))
   go_enter Tryz.func90, Tryz.ntmps90
   go_wp2_with fail
   refine (hne.out _).mono ?_
   rintro e w1 ⟨rfl, hb1⟩
   have HB1 := hid (HE.out.trans (hb1.mono HE.out.size))
   have hlt1 : w.heap.size < w1.heap.size := Nat.lt_of_lt_of_le (by simp) hb1.size
   have HX1 := hid ((HBX.out.below hb1).below (ext_alloc w1 (.cells #[.bool true, .bool false, .bool false, .bool false, .bool false] 146)))
   have hE2 := ext_alloc w1 (.cells #[.bool true, .bool false, .bool false, .bool false, .bool false] 146)
   have HB2 := hid (HB1.out.trans (hE2.mono HB1.out.size))
   have HFC := hid (show (w1.alloc (.cells #[.bool true, .bool false, .bool false, .bool false, .bool false] 146)).cell? ⟨w1.heap.size, 3, none⟩ = some (.bool false) ∧ (w1.alloc (.cells #[.bool true, .bool false, .bool false, .bool false, .bool false] 146)).cell? ⟨w1.heap.size, 4, none⟩ = some (.bool false) from ⟨by rw [World.cell?_alloc_at _ _ _ _ rfl]; rfl, by rw [World.cell?_alloc_at _ _ _ _ rfl]; rfl⟩)
   obtain ⟨c0, c1, c2, c3, c4, c5⟩ := HX1.out
   clear hb1 hE2
   go_wp2
   go_ret
   rw [HZ.out]
   exact ⟨rfl, HB2.out⟩
  ·have HR : Hid (rangedOk ⟨5, a, 0, { data := #[] }, { data := #[] }, { data := #[] }⟩ = true) := hid (by rw [hR]; simp; omega)
   clear hR
   have HBX := hid (Box.new w (⟨5, a, 0, { data := #[] }, { data := #[] }, { data := #[] }⟩ : I) 108)
   have HE := hid (ext_alloc w (.cells #[.int .i64 5, .int .i64 a, .int .i64 0, .string { data := #[] }, .string { data := #[] }, .string { data := #[] }] 108))
   go_enter Tryz.func90, Tryz.ntmps90
   go_wp2_with fail
   refine (hne.out _).mono ?_
   rintro e w1 ⟨rfl, hb1⟩
   have HB1 := hid (HE.out.trans (hb1.mono HE.out.size))
   have hlt1 : w.heap.size < w1.heap.size := Nat.lt_of_lt_of_le (by simp) hb1.size
   have HX1 := hid ((HBX.out.below hb1).below (ext_alloc w1 (.cells #[.bool true, .bool false, .bool false, .bool false, .bool false] 146)))
   have hE2 := ext_alloc w1 (.cells #[.bool true, .bool false, .bool false, .bool false, .bool false] 146)
   have HB2 := hid (HB1.out.trans (hE2.mono HB1.out.size))
   have HFC := hid (show (w1.alloc (.cells #[.bool true, .bool false, .bool false, .bool false, .bool false] 146)).cell? ⟨w1.heap.size, 3, none⟩ = some (.bool false) ∧ (w1.alloc (.cells #[.bool true, .bool false, .bool false, .bool false, .bool false] 146)).cell? ⟨w1.heap.size, 4, none⟩ = some (.bool false) from ⟨by rw [World.cell?_alloc_at _ _ _ _ rfl]; rfl, by rw [World.cell?_alloc_at _ _ _ _ rfl]; rfl⟩)
   obtain ⟨c0, c1, c2, c3, c4, c5⟩ := HX1.out
   clear hb1 hE2
   go_wp2_with fail
   refine (rjumps_any 5 _).mono ?_
   rintro e wj ⟨rfl, rfl⟩
   rw [show jumpsOp 5 = false from rfl]
   go_wp2_with fail
   refine (may_any 5 a 0 { data := #[] } { data := #[] } { data := #[] } _ (by decide)).mono ?_
   rintro e w4 ⟨rfl, hb4⟩
   have HX4 := hid (HX1.out.below hb4)
   have HB4 := hid (HB2.out.trans (hb4.mono HB2.out.size))
   have HFC4 := hid (show w4.cell? ⟨w1.heap.size, 3, none⟩ = some (.bool false) ∧ w4.cell? ⟨w1.heap.size, 4, none⟩ = some (.bool false) from ⟨by rw [hb4.cell (World.block_lt_of_cell? _ _ HFC.out.1)]; exact HFC.out.1, by rw [hb4.cell (World.block_lt_of_cell? _ _ HFC.out.2)]; exact HFC.out.2⟩)
   clear c0 c1 c2 c3 c4 c5 hb4
   cases hT : typedOk ⟨5, a, 0, { data := #[] }, { data := #[] }, { data := #[] }⟩ with
   | false =>
    have HZ : Hid (insFault ⟨5, a, 0, { data := #[] }, { data := #[] }, { data := #[] }⟩ = 1) := hid (by rw [HS.out, if_neg (by rw [HR.out]; decide), if_pos (.inl hT)])
    clear hT
    go_wp2
    go_ret
    rw [HZ.out]
    exact ⟨rfl, HB4.out⟩
   | true =>
    have HT := hid hT
    clear hT
    obtain ⟨c0, c1, c2, c3, c4, c5⟩ := HX4.out
    obtain ⟨d3, d4⟩ := HFC4.out
    have HZ : Hid (insFault ⟨5, a, 0, { data := #[] }, { data := #[] }, { data := #[] }⟩ = 0) := hid (by rw [HS.out, if_neg (by rw [HR.out]; decide)]; exact if_neg (fun h => h.elim (fun h => by rw [HT.out] at h; cases h) (fun h => h.elim (fun h => by have h := h.1; rw [hkC] at h; cases h) (fun h => by have h := h.1; rw [hkN] at h; cases h))))
    go_wp2
    go_ret
    rw [HZ.out]
    exact ⟨rfl, HB4.out⟩
set_option maxRecDepth 100000 in
set_option maxHeartbeats 4000000 in
theorem rgoodA13 (a : Int) (w : World) (hne : Hid (∀ w, Calls Tryz.prog 112 #[.int .i64 13] w fun e w' => e = .returned (.agg #[.bool true, .bool false, .bool false, .bool false, .bool false]) ∧ Below w.heap.size w w'))  :
  Calls Tryz.prog 90 #[.agg #[.int .i64 13, .int .i64 a, .int .i64 0, .string { data := #[] }, .string { data := #[] }, .string { data := #[] }]] w fun e w' => e = .returned (.int .i64 (insFault ⟨13, a, 0, { data := #[] }, { data := #[] }, { data := #[] }⟩)) ∧ Below w.heap.size w w' := by
 have hkC : needC 13 = false := rfl
 have hkN : needN 13 = false := rfl
 have HS : Hid (insFault ⟨13, a, 0, { data := #[] }, { data := #[] }, { data := #[] }⟩ = if rangedOk ⟨13, a, 0, { data := #[] }, { data := #[] }, { data := #[] }⟩ = false then 2 else if typedOk ⟨13, a, 0, { data := #[] }, { data := #[] }, { data := #[] }⟩ = false ∨ (needC 13 = true ∧ nameOk ({ data := #[] } : ByteArray).data.toList = false) ∨ (needN 13 = true ∧ nameOk ({ data := #[] } : ByteArray).data.toList = false) then 1 else 0) := hid (by
  unfold insFault
  rw [if_neg (by simp only; omega), if_neg (by simp [bareOk, show needA 13 = true from rfl])])
 have hR : rangedOk ⟨13, a, 0, { data := #[] }, { data := #[] }, { data := #[] }⟩ = decide (0 ≤ a ∧ a ≤ 40 ∧ (0 : Int) ≤ 0 ∧ 0 ≤ (5 : Int)) := rfl
 by_cases ha1 : a < 0
 ·have HZ : Hid (insFault ⟨13, a, 0, { data := #[] }, { data := #[] }, { data := #[] }⟩ = 2) := hid (by rw [HS.out, if_pos (by rw [hR]; simp; omega)])
  clear hR
  have HBX := hid (Box.new w (⟨13, a, 0, { data := #[] }, { data := #[] }, { data := #[] }⟩ : I) 108)
  have HE := hid (ext_alloc w (.cells #[.int .i64 13, .int .i64 a, .int .i64 0, .string { data := #[] }, .string { data := #[] }, .string { data := #[] }] 108))
  go_enter Tryz.func90, Tryz.ntmps90
  go_wp2_with fail
  refine (hne.out _).mono ?_
  rintro e w1 ⟨rfl, hb1⟩
  have HB1 := hid (HE.out.trans (hb1.mono HE.out.size))
  have hlt1 : w.heap.size < w1.heap.size := Nat.lt_of_lt_of_le (by simp) hb1.size
  have HX1 := hid ((HBX.out.below hb1).below (ext_alloc w1 (.cells #[.bool true, .bool false, .bool false, .bool false, .bool false] 146)))
  have hE2 := ext_alloc w1 (.cells #[.bool true, .bool false, .bool false, .bool false, .bool false] 146)
  have HB2 := hid (HB1.out.trans (hE2.mono HB1.out.size))
  have HFC := hid (show (w1.alloc (.cells #[.bool true, .bool false, .bool false, .bool false, .bool false] 146)).cell? ⟨w1.heap.size, 3, none⟩ = some (.bool false) ∧ (w1.alloc (.cells #[.bool true, .bool false, .bool false, .bool false, .bool false] 146)).cell? ⟨w1.heap.size, 4, none⟩ = some (.bool false) from ⟨by rw [World.cell?_alloc_at _ _ _ _ rfl]; rfl, by rw [World.cell?_alloc_at _ _ _ _ rfl]; rfl⟩)
  obtain ⟨c0, c1, c2, c3, c4, c5⟩ := HX1.out
  clear hb1 hE2
  go_wp2_with fail
  refine (rjumps_any 13 _).mono ?_
  rintro e wj ⟨rfl, rfl⟩
  rw [show jumpsOp 13 = true from rfl]
  go_wp2
  go_ret
  rw [HZ.out]
  exact ⟨rfl, HB2.out⟩
 ·by_cases ha2 : 40 < a
  ·have HZ : Hid (insFault ⟨13, a, 0, { data := #[] }, { data := #[] }, { data := #[] }⟩ = 2) := hid (by rw [HS.out, if_pos (by rw [hR]; simp; omega)])
   clear hR
   have HBX := hid (Box.new w (⟨13, a, 0, { data := #[] }, { data := #[] }, { data := #[] }⟩ : I) 108)
   have HE := hid (ext_alloc w (.cells #[.int .i64 13, .int .i64 a, .int .i64 0, .string { data := #[] }, .string { data := #[] }, .string { data := #[] }] 108))
   go_enter Tryz.func90, Tryz.ntmps90
   go_wp2_with fail
   refine (hne.out _).mono ?_
   rintro e w1 ⟨rfl, hb1⟩
   have HB1 := hid (HE.out.trans (hb1.mono HE.out.size))
   have hlt1 : w.heap.size < w1.heap.size := Nat.lt_of_lt_of_le (by simp) hb1.size
   have HX1 := hid ((HBX.out.below hb1).below (ext_alloc w1 (.cells #[.bool true, .bool false, .bool false, .bool false, .bool false] 146)))
   have hE2 := ext_alloc w1 (.cells #[.bool true, .bool false, .bool false, .bool false, .bool false] 146)
   have HB2 := hid (HB1.out.trans (hE2.mono HB1.out.size))
   have HFC := hid (show (w1.alloc (.cells #[.bool true, .bool false, .bool false, .bool false, .bool false] 146)).cell? ⟨w1.heap.size, 3, none⟩ = some (.bool false) ∧ (w1.alloc (.cells #[.bool true, .bool false, .bool false, .bool false, .bool false] 146)).cell? ⟨w1.heap.size, 4, none⟩ = some (.bool false) from ⟨by rw [World.cell?_alloc_at _ _ _ _ rfl]; rfl, by rw [World.cell?_alloc_at _ _ _ _ rfl]; rfl⟩)
   obtain ⟨c0, c1, c2, c3, c4, c5⟩ := HX1.out
   clear hb1 hE2
   go_wp2_with fail
   refine (rjumps_any 13 _).mono ?_
   rintro e wj ⟨rfl, rfl⟩
   rw [show jumpsOp 13 = true from rfl]
   go_wp2
   go_ret
   rw [HZ.out]
   exact ⟨rfl, HB2.out⟩
  ·have HR : Hid (rangedOk ⟨13, a, 0, { data := #[] }, { data := #[] }, { data := #[] }⟩ = true) := hid (by rw [hR]; simp; omega)
   clear hR
   have HBX := hid (Box.new w (⟨13, a, 0, { data := #[] }, { data := #[] }, { data := #[] }⟩ : I) 108)
   have HE := hid (ext_alloc w (.cells #[.int .i64 13, .int .i64 a, .int .i64 0, .string { data := #[] }, .string { data := #[] }, .string { data := #[] }] 108))
   go_enter Tryz.func90, Tryz.ntmps90
   go_wp2_with fail
   refine (hne.out _).mono ?_
   rintro e w1 ⟨rfl, hb1⟩
   have HB1 := hid (HE.out.trans (hb1.mono HE.out.size))
   have hlt1 : w.heap.size < w1.heap.size := Nat.lt_of_lt_of_le (by simp) hb1.size
   have HX1 := hid ((HBX.out.below hb1).below (ext_alloc w1 (.cells #[.bool true, .bool false, .bool false, .bool false, .bool false] 146)))
   have hE2 := ext_alloc w1 (.cells #[.bool true, .bool false, .bool false, .bool false, .bool false] 146)
   have HB2 := hid (HB1.out.trans (hE2.mono HB1.out.size))
   have HFC := hid (show (w1.alloc (.cells #[.bool true, .bool false, .bool false, .bool false, .bool false] 146)).cell? ⟨w1.heap.size, 3, none⟩ = some (.bool false) ∧ (w1.alloc (.cells #[.bool true, .bool false, .bool false, .bool false, .bool false] 146)).cell? ⟨w1.heap.size, 4, none⟩ = some (.bool false) from ⟨by rw [World.cell?_alloc_at _ _ _ _ rfl]; rfl, by rw [World.cell?_alloc_at _ _ _ _ rfl]; rfl⟩)
   obtain ⟨c0, c1, c2, c3, c4, c5⟩ := HX1.out
   clear hb1 hE2
   go_wp2_with fail
   refine (rjumps_any 13 _).mono ?_
   rintro e wj ⟨rfl, rfl⟩
   rw [show jumpsOp 13 = true from rfl]
   go_wp2_with fail
   refine (may_any 13 a 0 { data := #[] } { data := #[] } { data := #[] } _ (by decide)).mono ?_
   rintro e w4 ⟨rfl, hb4⟩
   have HX4 := hid (HX1.out.below hb4)
   have HB4 := hid (HB2.out.trans (hb4.mono HB2.out.size))
   have HFC4 := hid (show w4.cell? ⟨w1.heap.size, 3, none⟩ = some (.bool false) ∧ w4.cell? ⟨w1.heap.size, 4, none⟩ = some (.bool false) from ⟨by rw [hb4.cell (World.block_lt_of_cell? _ _ HFC.out.1)]; exact HFC.out.1, by rw [hb4.cell (World.block_lt_of_cell? _ _ HFC.out.2)]; exact HFC.out.2⟩)
   clear c0 c1 c2 c3 c4 c5 hb4
   cases hT : typedOk ⟨13, a, 0, { data := #[] }, { data := #[] }, { data := #[] }⟩ with
   | false =>
    have HZ : Hid (insFault ⟨13, a, 0, { data := #[] }, { data := #[] }, { data := #[] }⟩ = 1) := hid (by rw [HS.out, if_neg (by rw [HR.out]; decide), if_pos (.inl hT)])
    clear hT
    go_wp2
    go_ret
    rw [HZ.out]
    exact ⟨rfl, HB4.out⟩
   | true =>
    have HT := hid hT
    clear hT
    obtain ⟨c0, c1, c2, c3, c4, c5⟩ := HX4.out
    obtain ⟨d3, d4⟩ := HFC4.out
    have HZ : Hid (insFault ⟨13, a, 0, { data := #[] }, { data := #[] }, { data := #[] }⟩ = 0) := hid (by rw [HS.out, if_neg (by rw [HR.out]; decide)]; exact if_neg (fun h => h.elim (fun h => by rw [HT.out] at h; cases h) (fun h => h.elim (fun h => by have h := h.1; rw [hkC] at h; cases h) (fun h => by have h := h.1; rw [hkN] at h; cases h))))
    go_wp2
    go_ret
    rw [HZ.out]
    exact ⟨rfl, HB4.out⟩
set_option maxRecDepth 100000 in
set_option maxHeartbeats 4000000 in
theorem rgoodA14 (a : Int) (w : World) (hne : Hid (∀ w, Calls Tryz.prog 112 #[.int .i64 14] w fun e w' => e = .returned (.agg #[.bool true, .bool false, .bool false, .bool false, .bool false]) ∧ Below w.heap.size w w'))  :
  Calls Tryz.prog 90 #[.agg #[.int .i64 14, .int .i64 a, .int .i64 0, .string { data := #[] }, .string { data := #[] }, .string { data := #[] }]] w fun e w' => e = .returned (.int .i64 (insFault ⟨14, a, 0, { data := #[] }, { data := #[] }, { data := #[] }⟩)) ∧ Below w.heap.size w w' := by
 have hkC : needC 14 = false := rfl
 have hkN : needN 14 = false := rfl
 have HS : Hid (insFault ⟨14, a, 0, { data := #[] }, { data := #[] }, { data := #[] }⟩ = if rangedOk ⟨14, a, 0, { data := #[] }, { data := #[] }, { data := #[] }⟩ = false then 2 else if typedOk ⟨14, a, 0, { data := #[] }, { data := #[] }, { data := #[] }⟩ = false ∨ (needC 14 = true ∧ nameOk ({ data := #[] } : ByteArray).data.toList = false) ∨ (needN 14 = true ∧ nameOk ({ data := #[] } : ByteArray).data.toList = false) then 1 else 0) := hid (by
  unfold insFault
  rw [if_neg (by simp only; omega), if_neg (by simp [bareOk, show needA 14 = true from rfl])])
 have hR : rangedOk ⟨14, a, 0, { data := #[] }, { data := #[] }, { data := #[] }⟩ = decide (0 ≤ a ∧ a ≤ 40 ∧ (0 : Int) ≤ 0 ∧ 0 ≤ (5 : Int)) := rfl
 by_cases ha1 : a < 0
 ·have HZ : Hid (insFault ⟨14, a, 0, { data := #[] }, { data := #[] }, { data := #[] }⟩ = 2) := hid (by rw [HS.out, if_pos (by rw [hR]; simp; omega)])
  clear hR
  have HBX := hid (Box.new w (⟨14, a, 0, { data := #[] }, { data := #[] }, { data := #[] }⟩ : I) 108)
  have HE := hid (ext_alloc w (.cells #[.int .i64 14, .int .i64 a, .int .i64 0, .string { data := #[] }, .string { data := #[] }, .string { data := #[] }] 108))
  go_enter Tryz.func90, Tryz.ntmps90
  go_wp2_with fail
  refine (hne.out _).mono ?_
  rintro e w1 ⟨rfl, hb1⟩
  have HB1 := hid (HE.out.trans (hb1.mono HE.out.size))
  have hlt1 : w.heap.size < w1.heap.size := Nat.lt_of_lt_of_le (by simp) hb1.size
  have HX1 := hid ((HBX.out.below hb1).below (ext_alloc w1 (.cells #[.bool true, .bool false, .bool false, .bool false, .bool false] 146)))
  have hE2 := ext_alloc w1 (.cells #[.bool true, .bool false, .bool false, .bool false, .bool false] 146)
  have HB2 := hid (HB1.out.trans (hE2.mono HB1.out.size))
  have HFC := hid (show (w1.alloc (.cells #[.bool true, .bool false, .bool false, .bool false, .bool false] 146)).cell? ⟨w1.heap.size, 3, none⟩ = some (.bool false) ∧ (w1.alloc (.cells #[.bool true, .bool false, .bool false, .bool false, .bool false] 146)).cell? ⟨w1.heap.size, 4, none⟩ = some (.bool false) from ⟨by rw [World.cell?_alloc_at _ _ _ _ rfl]; rfl, by rw [World.cell?_alloc_at _ _ _ _ rfl]; rfl⟩)
  obtain ⟨c0, c1, c2, c3, c4, c5⟩ := HX1.out
  clear hb1 hE2
  go_wp2_with fail
  refine (rjumps_any 14 _).mono ?_
  rintro e wj ⟨rfl, rfl⟩
  rw [show jumpsOp 14 = true from rfl]
  go_wp2
  go_ret
  rw [HZ.out]
  exact ⟨rfl, HB2.out⟩
 ·by_cases ha2 : 40 < a
  ·have HZ : Hid (insFault ⟨14, a, 0, { data := #[] }, { data := #[] }, { data := #[] }⟩ = 2) := hid (by rw [HS.out, if_pos (by rw [hR]; simp; omega)])
   clear hR
   have HBX := hid (Box.new w (⟨14, a, 0, { data := #[] }, { data := #[] }, { data := #[] }⟩ : I) 108)
   have HE := hid (ext_alloc w (.cells #[.int .i64 14, .int .i64 a, .int .i64 0, .string { data := #[] }, .string { data := #[] }, .string { data := #[] }] 108))
   go_enter Tryz.func90, Tryz.ntmps90
   go_wp2_with fail
   refine (hne.out _).mono ?_
   rintro e w1 ⟨rfl, hb1⟩
   have HB1 := hid (HE.out.trans (hb1.mono HE.out.size))
   have hlt1 : w.heap.size < w1.heap.size := Nat.lt_of_lt_of_le (by simp) hb1.size
   have HX1 := hid ((HBX.out.below hb1).below (ext_alloc w1 (.cells #[.bool true, .bool false, .bool false, .bool false, .bool false] 146)))
   have hE2 := ext_alloc w1 (.cells #[.bool true, .bool false, .bool false, .bool false, .bool false] 146)
   have HB2 := hid (HB1.out.trans (hE2.mono HB1.out.size))
   have HFC := hid (show (w1.alloc (.cells #[.bool true, .bool false, .bool false, .bool false, .bool false] 146)).cell? ⟨w1.heap.size, 3, none⟩ = some (.bool false) ∧ (w1.alloc (.cells #[.bool true, .bool false, .bool false, .bool false, .bool false] 146)).cell? ⟨w1.heap.size, 4, none⟩ = some (.bool false) from ⟨by rw [World.cell?_alloc_at _ _ _ _ rfl]; rfl, by rw [World.cell?_alloc_at _ _ _ _ rfl]; rfl⟩)
   obtain ⟨c0, c1, c2, c3, c4, c5⟩ := HX1.out
   clear hb1 hE2
   go_wp2_with fail
   refine (rjumps_any 14 _).mono ?_
   rintro e wj ⟨rfl, rfl⟩
   rw [show jumpsOp 14 = true from rfl]
   go_wp2
   go_ret
   rw [HZ.out]
   exact ⟨rfl, HB2.out⟩
  ·have HR : Hid (rangedOk ⟨14, a, 0, { data := #[] }, { data := #[] }, { data := #[] }⟩ = true) := hid (by rw [hR]; simp; omega)
   clear hR
   have HBX := hid (Box.new w (⟨14, a, 0, { data := #[] }, { data := #[] }, { data := #[] }⟩ : I) 108)
   have HE := hid (ext_alloc w (.cells #[.int .i64 14, .int .i64 a, .int .i64 0, .string { data := #[] }, .string { data := #[] }, .string { data := #[] }] 108))
   go_enter Tryz.func90, Tryz.ntmps90
   go_wp2_with fail
   refine (hne.out _).mono ?_
   rintro e w1 ⟨rfl, hb1⟩
   have HB1 := hid (HE.out.trans (hb1.mono HE.out.size))
   have hlt1 : w.heap.size < w1.heap.size := Nat.lt_of_lt_of_le (by simp) hb1.size
   have HX1 := hid ((HBX.out.below hb1).below (ext_alloc w1 (.cells #[.bool true, .bool false, .bool false, .bool false, .bool false] 146)))
   have hE2 := ext_alloc w1 (.cells #[.bool true, .bool false, .bool false, .bool false, .bool false] 146)
   have HB2 := hid (HB1.out.trans (hE2.mono HB1.out.size))
   have HFC := hid (show (w1.alloc (.cells #[.bool true, .bool false, .bool false, .bool false, .bool false] 146)).cell? ⟨w1.heap.size, 3, none⟩ = some (.bool false) ∧ (w1.alloc (.cells #[.bool true, .bool false, .bool false, .bool false, .bool false] 146)).cell? ⟨w1.heap.size, 4, none⟩ = some (.bool false) from ⟨by rw [World.cell?_alloc_at _ _ _ _ rfl]; rfl, by rw [World.cell?_alloc_at _ _ _ _ rfl]; rfl⟩)
   obtain ⟨c0, c1, c2, c3, c4, c5⟩ := HX1.out
   clear hb1 hE2
   go_wp2_with fail
   refine (rjumps_any 14 _).mono ?_
   rintro e wj ⟨rfl, rfl⟩
   rw [show jumpsOp 14 = true from rfl]
   go_wp2_with fail
   refine (may_any 14 a 0 { data := #[] } { data := #[] } { data := #[] } _ (by decide)).mono ?_
   rintro e w4 ⟨rfl, hb4⟩
   have HX4 := hid (HX1.out.below hb4)
   have HB4 := hid (HB2.out.trans (hb4.mono HB2.out.size))
   have HFC4 := hid (show w4.cell? ⟨w1.heap.size, 3, none⟩ = some (.bool false) ∧ w4.cell? ⟨w1.heap.size, 4, none⟩ = some (.bool false) from ⟨by rw [hb4.cell (World.block_lt_of_cell? _ _ HFC.out.1)]; exact HFC.out.1, by rw [hb4.cell (World.block_lt_of_cell? _ _ HFC.out.2)]; exact HFC.out.2⟩)
   clear c0 c1 c2 c3 c4 c5 hb4
   cases hT : typedOk ⟨14, a, 0, { data := #[] }, { data := #[] }, { data := #[] }⟩ with
   | false =>
    have HZ : Hid (insFault ⟨14, a, 0, { data := #[] }, { data := #[] }, { data := #[] }⟩ = 1) := hid (by rw [HS.out, if_neg (by rw [HR.out]; decide), if_pos (.inl hT)])
    clear hT
    go_wp2
    go_ret
    rw [HZ.out]
    exact ⟨rfl, HB4.out⟩
   | true =>
    have HT := hid hT
    clear hT
    obtain ⟨c0, c1, c2, c3, c4, c5⟩ := HX4.out
    obtain ⟨d3, d4⟩ := HFC4.out
    have HZ : Hid (insFault ⟨14, a, 0, { data := #[] }, { data := #[] }, { data := #[] }⟩ = 0) := hid (by rw [HS.out, if_neg (by rw [HR.out]; decide)]; exact if_neg (fun h => h.elim (fun h => by rw [HT.out] at h; cases h) (fun h => h.elim (fun h => by have h := h.1; rw [hkC] at h; cases h) (fun h => by have h := h.1; rw [hkN] at h; cases h))))
    go_wp2
    go_ret
    rw [HZ.out]
    exact ⟨rfl, HB4.out⟩
theorem rclassA (op a b : Int) (t c n : ByteArray) (w : World) (hne : Hid (∀ w, Calls Tryz.prog 112 #[.int .i64 op] w fun e w' => e = .returned (.agg #[.bool true, .bool false, .bool false, .bool false, .bool false]) ∧ Below w.heap.size w w')) (ho : 1 ≤ op ∧ op ≤ 28) (hkB : needB op = false) (hkT : needT op = false) (hkC : needC op = false) (hkN : needN op = false) (hop : op = 4 ∨ op = 5 ∨ op = 13 ∨ op = 14) (ht : t.size ≤ 10000000) (hc : c.size ≤ 9223372036854775807) (hn : n.size ≤ 9223372036854775807) :
  Calls Tryz.prog 90 #[.agg #[.int .i64 op, .int .i64 a, .int .i64 b, .string t, .string c, .string n]] w fun e w' => e = .returned (.int .i64 (insFault ⟨op, a, b, t, c, n⟩)) ∧ Below w.heap.size w w' := by
 by_cases zB : ¬ b = 0
 ·exact rbadA_B op a b t c n w hne ho hkB zB
 obtain rfl : b = 0 := Classical.not_not.1 zB
 by_cases zT : t.data.toList ≠ []
 ·exact rbadA_T op a t c n w hne ho hkT zT
 obtain rfl : t = { data := #[] } := bs_of (Classical.not_not.1 zT)
 by_cases zC : c.data.toList ≠ []
 ·exact rbadA_C op a c n w hne ho hkC zC
 obtain rfl : c = { data := #[] } := bs_of (Classical.not_not.1 zC)
 by_cases zN : n.data.toList ≠ []
 ·exact rbadA_N op a n w hne ho hkN zN
 obtain rfl : n = { data := #[] } := bs_of (Classical.not_not.1 zN)
 rcases hop with rfl | rfl | rfl | rfl
 ·exact rgoodA4 a w hne 
 ·exact rgoodA5 a w hne 
 ·exact rgoodA13 a w hne 
 ·exact rgoodA14 a w hne 
end Go.Proofs.YtlhobhnbgdicjaaGreatDoor.ins
