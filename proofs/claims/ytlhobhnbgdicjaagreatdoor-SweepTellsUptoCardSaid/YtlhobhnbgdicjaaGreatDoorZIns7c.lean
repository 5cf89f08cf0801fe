/- Instructions: the reference's InsFault (3). Condition: the type's text is shorter than ten million bytes. -/
import Derived.Test.YtlhobhnbgdicjaaGreatDoorZInsJ
import Derived.Test.YtlhobhnbgdicjaaGreatDoorZIns3R
import Derived.Test.YtlhobhnbgdicjaaGreatDoorZIns5
import Derived.Test.YtlhobhnbgdicjaaGreatDoorZName
namespace Go.Proofs.YtlhobhnbgdicjaaGreatDoor.ins
open Go.RowKit lib errs names descs
set_option maxRecDepth 100000 in
set_option maxHeartbeats 2000000 in
theorem rbadAB_T (op : Int) (a b : Int) (t c n : ByteArray) (w : World) (hne : Hid (∀ w, Calls Tryz.prog 112 #[.int .i64 op] w fun e w' => e = .returned (.agg #[.bool true, .bool true, .bool false, .bool false, .bool false]) ∧ Below w.heap.size w w')) (ho : 1 ≤ op ∧ op ≤ 28) (hkT : needT op = false) (hx : t.data.toList ≠ []) :
  Calls Tryz.prog 90 #[.agg #[.int .i64 op, .int .i64 a, .int .i64 b, .string t, .string c, .string n]] w fun e w' => e = .returned (.int .i64 (insFault ⟨op, a, b, t, c, n⟩)) ∧ Below w.heap.size w w' := by
 have hx2 : ¬ t.data = #[] := fun h => hx (by rw [h])
 have HS : Hid (insFault ⟨op, a, b, t, c, n⟩ = 1) := hid (by
  unfold insFault
  rw [if_neg (by simp only; omega), if_pos]
  simp [bareOk, hkT, hx2])
 have k1 : ¬ op < 1 := by omega
 have k2 : ¬ (28 : Int) < op := by omega
 have hxb : t.toList.isEmpty = false := by rw [ByteArray.toList_eq]; cases h : t.data.toList with
  | nil => exact absurd h hx
  | cons _ _ => rfl
 have hxl : ¬ t.toList = [] := fun h => hx (str_list.1 h)
 clear hkT ho hx2 hx
 have HBX := hid (Box.new w (⟨op, a, b, t, c, n⟩ : I) 108)
 have HE := hid (ext_alloc w (.cells #[.int .i64 op, .int .i64 a, .int .i64 b, .string t, .string c, .string n] 108))
 go_enter Tryz.func90, Tryz.ntmps90
 go_wp2_with fail
 refine (hne.out _).mono ?_
 rintro e w1 ⟨rfl, hb1⟩
 have HB1 := hid (HE.out.trans (hb1.mono HE.out.size))
 have hlt1 : w.heap.size < w1.heap.size := Nat.lt_of_lt_of_le (by simp) hb1.size
 have HX1 := hid ((HBX.out.below hb1).below (ext_alloc w1 (.cells #[.bool true, .bool true, .bool false, .bool false, .bool false] 146)))
 have hE2 := ext_alloc w1 (.cells #[.bool true, .bool true, .bool false, .bool false, .bool false] 146)
 have HB2 := hid (HB1.out.trans (hE2.mono HB1.out.size))
 have HFC := hid (show (w1.alloc (.cells #[.bool true, .bool true, .bool false, .bool false, .bool false] 146)).cell? ⟨w1.heap.size, 3, none⟩ = some (.bool false) ∧ (w1.alloc (.cells #[.bool true, .bool true, .bool false, .bool false, .bool false] 146)).cell? ⟨w1.heap.size, 4, none⟩ = some (.bool false) from ⟨by rw [World.cell?_alloc_at _ _ _ _ rfl]; rfl, by rw [World.cell?_alloc_at _ _ _ _ rfl]; rfl⟩)
 obtain ⟨c0, c1, c2, c3, c4, c5⟩ := HX1.out
 clear hb1 hE2
 go_wp2
 go_ret
 rw [HS.out]
 exact ⟨rfl, HB2.out⟩
set_option maxRecDepth 100000 in
set_option maxHeartbeats 2000000 in
theorem rbadAB_C (op : Int) (a b : Int) (c n : ByteArray) (w : World) (hne : Hid (∀ w, Calls Tryz.prog 112 #[.int .i64 op] w fun e w' => e = .returned (.agg #[.bool true, .bool true, .bool false, .bool false, .bool false]) ∧ Below w.heap.size w w')) (ho : 1 ≤ op ∧ op ≤ 28) (hkC : needC op = false) (hx : c.data.toList ≠ []) :
  Calls Tryz.prog 90 #[.agg #[.int .i64 op, .int .i64 a, .int .i64 b, .string { data := #[] }, .string c, .string n]] w fun e w' => e = .returned (.int .i64 (insFault ⟨op, a, b, { data := #[] }, c, n⟩)) ∧ Below w.heap.size w w' := by
 have hx2 : ¬ c.data = #[] := fun h => hx (by rw [h])
 have HS : Hid (insFault ⟨op, a, b, { data := #[] }, c, n⟩ = 1) := hid (by
  unfold insFault
  rw [if_neg (by simp only; omega), if_pos]
  simp [bareOk, hkC, hx2])
 have k1 : ¬ op < 1 := by omega
 have k2 : ¬ (28 : Int) < op := by omega
 have hxb : c.toList.isEmpty = false := by rw [ByteArray.toList_eq]; cases h : c.data.toList with
  | nil => exact absurd h hx
  | cons _ _ => rfl
 have hxl : ¬ c.toList = [] := fun h => hx (str_list.1 h)
 clear hkC ho hx2 hx
 have HBX := hid (Box.new w (⟨op, a, b, { data := #[] }, c, n⟩ : I) 108)
 have HE := hid (ext_alloc w (.cells #[.int .i64 op, .int .i64 a, .int .i64 b, .string { data := #[] }, .string c, .string n] 108))
 go_enter Tryz.func90, Tryz.ntmps90
 go_wp2_with fail
 refine (hne.out _).mono ?_
 rintro e w1 ⟨rfl, hb1⟩
 have HB1 := hid (HE.out.trans (hb1.mono HE.out.size))
 have hlt1 : w.heap.size < w1.heap.size := Nat.lt_of_lt_of_le (by simp) hb1.size
 have HX1 := hid ((HBX.out.below hb1).below (ext_alloc w1 (.cells #[.bool true, .bool true, .bool false, .bool false, .bool false] 146)))
 have hE2 := ext_alloc w1 (.cells #[.bool true, .bool true, .bool false, .bool false, .bool false] 146)
 have HB2 := hid (HB1.out.trans (hE2.mono HB1.out.size))
 have HFC := hid (show (w1.alloc (.cells #[.bool true, .bool true, .bool false, .bool false, .bool false] 146)).cell? ⟨w1.heap.size, 3, none⟩ = some (.bool false) ∧ (w1.alloc (.cells #[.bool true, .bool true, .bool false, .bool false, .bool false] 146)).cell? ⟨w1.heap.size, 4, none⟩ = some (.bool false) from ⟨by rw [World.cell?_alloc_at _ _ _ _ rfl]; rfl, by rw [World.cell?_alloc_at _ _ _ _ rfl]; rfl⟩)
 obtain ⟨c0, c1, c2, c3, c4, c5⟩ := HX1.out
 clear hb1 hE2
 go_wp2
 go_ret
 rw [HS.out]
 exact ⟨rfl, HB2.out⟩
set_option maxRecDepth 100000 in
set_option maxHeartbeats 2000000 in
theorem rbadAB_N (op : Int) (a b : Int) (n : ByteArray) (w : World) (hne : Hid (∀ w, Calls Tryz.prog 112 #[.int .i64 op] w fun e w' => e = .returned (.agg #[.bool true, .bool true, .bool false, .bool false, .bool false]) ∧ Below w.heap.size w w')) (ho : 1 ≤ op ∧ op ≤ 28) (hkN : needN op = false) (hx : n.data.toList ≠ []) :
  Calls Tryz.prog 90 #[.agg #[.int .i64 op, .int .i64 a, .int .i64 b, .string { data := #[] }, .string { data := #[] }, .string n]] w fun e w' => e = .returned (.int .i64 (insFault ⟨op, a, b, { data := #[] }, { data := #[] }, n⟩)) ∧ Below w.heap.size w w' := by
 have hx2 : ¬ n.data = #[] := fun h => hx (by rw [h])
 have HS : Hid (insFault ⟨op, a, b, { data := #[] }, { data := #[] }, n⟩ = 1) := hid (by
  unfold insFault
  rw [if_neg (by simp only; omega), if_pos]
  simp [bareOk, hkN, hx2])
 have k1 : ¬ op < 1 := by omega
 have k2 : ¬ (28 : Int) < op := by omega
 have hxb : n.toList.isEmpty = false := by rw [ByteArray.toList_eq]; cases h : n.data.toList with
  | nil => exact absurd h hx
  | cons _ _ => rfl
 have hxl : ¬ n.toList = [] := fun h => hx (str_list.1 h)
 clear hkN ho hx2 hx
 have HBX := hid (Box.new w (⟨op, a, b, { data := #[] }, { data := #[] }, n⟩ : I) 108)
 have HE := hid (ext_alloc w (.cells #[.int .i64 op, .int .i64 a, .int .i64 b, .string { data := #[] }, .string { data := #[] }, .string n] 108))
 go_enter Tryz.func90, Tryz.ntmps90
 go_wp2_with fail
 refine (hne.out _).mono ?_
 rintro e w1 ⟨rfl, hb1⟩
 have HB1 := hid (HE.out.trans (hb1.mono HE.out.size))
 have hlt1 : w.heap.size < w1.heap.size := Nat.lt_of_lt_of_le (by simp) hb1.size
 have HX1 := hid ((HBX.out.below hb1).below (ext_alloc w1 (.cells #[.bool true, .bool true, .bool false, .bool false, .bool false] 146)))
 have hE2 := ext_alloc w1 (.cells #[.bool true, .bool true, .bool false, .bool false, .bool false] 146)
 have HB2 := hid (HB1.out.trans (hE2.mono HB1.out.size))
 have HFC := hid (show (w1.alloc (.cells #[.bool true, .bool true, .bool false, .bool false, .bool false] 146)).cell? ⟨w1.heap.size, 3, none⟩ = some (.bool false) ∧ (w1.alloc (.cells #[.bool true, .bool true, .bool false, .bool false, .bool false] 146)).cell? ⟨w1.heap.size, 4, none⟩ = some (.bool false) from ⟨by rw [World.cell?_alloc_at _ _ _ _ rfl]; rfl, by rw [World.cell?_alloc_at _ _ _ _ rfl]; rfl⟩)
 obtain ⟨c0, c1, c2, c3, c4, c5⟩ := HX1.out
 clear hb1 hE2
 go_wp2
 go_ret
 rw [HS.out]
 exact ⟨rfl, HB2.out⟩
set_option maxRecDepth 100000 in
set_option maxHeartbeats 4000000 in
theorem rgoodAB12 (a b : Int) (w : World) (hne : Hid (∀ w, Calls Tryz.prog 112 #[.int .i64 12] w fun e w' => e = .returned (.agg #[.bool true, .bool true, .bool false, .bool false, .bool false]) ∧ Below w.heap.size w w'))  :
  Calls Tryz.prog 90 #[.agg #[.int .i64 12, .int .i64 a, .int .i64 b, .string { data := #[] }, .string { data := #[] }, .string { data := #[] }]] w fun e w' => e = .returned (.int .i64 (insFault ⟨12, a, b, { data := #[] }, { data := #[] }, { data := #[] }⟩)) ∧ Below w.heap.size w w' := by
 have hkC : needC 12 = false := rfl
 have hkN : needN 12 = false := rfl
 have HS : Hid (insFault ⟨12, a, b, { data := #[] }, { data := #[] }, { data := #[] }⟩ = if rangedOk ⟨12, a, b, { data := #[] }, { data := #[] }, { data := #[] }⟩ = false then 2 else if typedOk ⟨12, a, b, { data := #[] }, { data := #[] }, { data := #[] }⟩ = false ∨ (needC 12 = true ∧ nameOk ({ data := #[] } : ByteArray).data.toList = false) ∨ (needN 12 = true ∧ nameOk ({ data := #[] } : ByteArray).data.toList = false) then 1 else 0) := hid (by
  unfold insFault
  rw [if_neg (by simp only; omega), if_neg (by simp [bareOk, show needA 12 = true from rfl, show needB 12 = true from rfl])])
 have hR : rangedOk ⟨12, a, b, { data := #[] }, { data := #[] }, { data := #[] }⟩ = decide (0 ≤ a ∧ a ≤ 40 ∧ (0 : Int) ≤ b ∧ b ≤ (5 : Int)) := rfl
 by_cases ha1 : a < 0
 ·have HZ : Hid (insFault ⟨12, a, b, { data := #[] }, { data := #[] }, { data := #[] }⟩ = 2) := hid (by rw [HS.out, if_pos (by rw [hR]; simp; omega)])
  clear hR
  have HBX := hid (Box.new w (⟨12, a, b, { data := #[] }, { data := #[] }, { data := #[] }⟩ : I) 108)
  have HE := hid (ext_alloc w (.cells #[.int .i64 12, .int .i64 a, .int .i64 b, .string { data := #[] }, .string { data := #[] }, .string { data := #[] }] 108))
  go_enter Tryz.func90, Tryz.ntmps90
  go_wp2_with fail
  refine (hne.out _).mono ?_
  rintro e w1 ⟨rfl, hb1⟩
  have HB1 := hid (HE.out.trans (hb1.mono HE.out.size))
  have hlt1 : w.heap.size < w1.heap.size := Nat.lt_of_lt_of_le (by simp) hb1.size
  have HX1 := hid ((HBX.out.below hb1).below (ext_alloc w1 (.cells #[.bool true, .bool true, .bool false, .bool false, .bool false] 146)))
  have hE2 := ext_alloc w1 (.cells #[.bool true, .bool true, .bool false, .bool false, .bool false] 146)
  have HB2 := hid (HB1.out.trans (hE2.mono HB1.out.size))
  have HFC := hid (show (w1.alloc (.cells #[.bool true, .bool true, .bool false, .bool false, .bool false] 146)).cell? ⟨w1.heap.size, 3, none⟩ = some (.bool false) ∧ (w1.alloc (.cells #[.bool true, .bool true, .bool false, .bool false, .bool false] 146)).cell? ⟨w1.heap.size, 4, none⟩ = some (.bool false) from ⟨by rw [World.cell?_alloc_at _ _ _ _ rfl]; rfl, by rw [World.cell?_alloc_at _ _ _ _ rfl]; rfl⟩)
  obtain ⟨c0, c1, c2, c3, c4, c5⟩ := HX1.out
  clear hb1 hE2
  go_wp2_with fail
  refine (rjumps_any 12 _).mono ?_
  rintro e wj ⟨rfl, rfl⟩
  rw [show jumpsOp 12 = true from rfl]
  go_wp2
  go_ret
  rw [HZ.out]
  exact ⟨rfl, HB2.out⟩
 ·by_cases ha2 : 40 < a
  ·have HZ : Hid (insFault ⟨12, a, b, { data := #[] }, { data := #[] }, { data := #[] }⟩ = 2) := hid (by rw [HS.out, if_pos (by rw [hR]; simp; omega)])
   clear hR
   have HBX := hid (Box.new w (⟨12, a, b, { data := #[] }, { data := #[] }, { data := #[] }⟩ : I) 108)
   have HE := hid (ext_alloc w (.cells #[.int .i64 12, .int .i64 a, .int .i64 b, .string { data := #[] }, .string { data := #[] }, .string { data := #[] }] 108))
   go_enter Tryz.func90, Tryz.ntmps90
   go_wp2_with fail
   refine (hne.out _).mono ?_
   rintro e w1 ⟨rfl, hb1⟩
   have HB1 := hid (HE.out.trans (hb1.mono HE.out.size))
   have hlt1 : w.heap.size < w1.heap.size := Nat.lt_of_lt_of_le (by simp) hb1.size
   have HX1 := hid ((HBX.out.below hb1).below (ext_alloc w1 (.cells #[.bool true, .bool true, .bool false, .bool false, .bool false] 146)))
   have hE2 := ext_alloc w1 (.cells #[.bool true, .bool true, .bool false, .bool false, .bool false] 146)
   have HB2 := hid (HB1.out.trans (hE2.mono HB1.out.size))
   have HFC := hid (show (w1.alloc (.cells #[.bool true, .bool true, .bool false, .bool false, .bool false] 146)).cell? ⟨w1.heap.size, 3, none⟩ = some (.bool false) ∧ (w1.alloc (.cells #[.bool true, .bool true, .bool false, .bool false, .bool false] 146)).cell? ⟨w1.heap.size, 4, none⟩ = some (.bool false) from ⟨by rw [World.cell?_alloc_at _ _ _ _ rfl]; rfl, by rw [World.cell?_alloc_at _ _ _ _ rfl]; rfl⟩)
   obtain ⟨c0, c1, c2, c3, c4, c5⟩ := HX1.out
   clear hb1 hE2
   go_wp2_with fail
   refine (rjumps_any 12 _).mono ?_
   rintro e wj ⟨rfl, rfl⟩
   rw [show jumpsOp 12 = true from rfl]
   go_wp2
   go_ret
   rw [HZ.out]
   exact ⟨rfl, HB2.out⟩
  ·by_cases hq1 : b < 0
   ·have HZ : Hid (insFault ⟨12, a, b, { data := #[] }, { data := #[] }, { data := #[] }⟩ = 2) := hid (by rw [HS.out, if_pos (by rw [hR]; simp; omega)])
    clear hR
    have HBX := hid (Box.new w (⟨12, a, b, { data := #[] }, { data := #[] }, { data := #[] }⟩ : I) 108)
    have HE := hid (ext_alloc w (.cells #[.int .i64 12, .int .i64 a, .int .i64 b, .string { data := #[] }, .string { data := #[] }, .string { data := #[] }] 108))
    go_enter Tryz.func90, Tryz.ntmps90
    go_wp2_with fail
    refine (hne.out _).mono ?_
    rintro e w1 ⟨rfl, hb1⟩
    have HB1 := hid (HE.out.trans (hb1.mono HE.out.size))
    have hlt1 : w.heap.size < w1.heap.size := Nat.lt_of_lt_of_le (by simp) hb1.size
    have HX1 := hid ((HBX.out.below hb1).below (ext_alloc w1 (.cells #[.bool true, .bool true, .bool false, .bool false, .bool false] 146)))
    have hE2 := ext_alloc w1 (.cells #[.bool true, .bool true, .bool false, .bool false, .bool false] 146)
    have HB2 := hid (HB1.out.trans (hE2.mono HB1.out.size))
    have HFC := hid (show (w1.alloc (.cells #[.bool true, .bool true, .bool false, .bool false, .bool false] 146)).cell? ⟨w1.heap.size, 3, none⟩ = some (.bool false) ∧ (w1.alloc (.cells #[.bool true, .bool true, .bool false, .bool false, .bool false] 146)).cell? ⟨w1.heap.size, 4, none⟩ = some (.bool false) from ⟨by rw [World.cell?_alloc_at _ _ _ _ rfl]; rfl, by rw [World.cell?_alloc_at _ _ _ _ rfl]; rfl⟩)
    obtain ⟨c0, c1, c2, c3, c4, c5⟩ := HX1.out
    clear hb1 hE2
    go_wp2_with fail
    refine (rjumps_any 12 _).mono ?_
    rintro e wj ⟨rfl, rfl⟩
    rw [show jumpsOp 12 = true from rfl]
    go_wp2
    go_ret
    rw [HZ.out]
    exact ⟨rfl, HB2.out⟩
   ·by_cases hq2 : 5 < b
    ·have HZ : Hid (insFault ⟨12, a, b, { data := #[] }, { data := #[] }, { data := #[] }⟩ = 2) := hid (by rw [HS.out, if_pos (by rw [hR]; simp; omega)])
     clear hR
     have HBX := hid (Box.new w (⟨12, a, b, { data := #[] }, { data := #[] }, { data := #[] }⟩ : I) 108)
     have HE := hid (ext_alloc w (.cells #[.int .i64 12, .int .i64 a, .int .i64 b, .string { data := #[] }, .string { data := #[] }, .string { data := #[] }] 108))
     go_enter Tryz.func90, Tryz.ntmps90
     go_wp2_with fail
     refine (hne.out _).mono ?_
     rintro e w1 ⟨rfl, hb1⟩
     have HB1 := hid (HE.out.trans (hb1.mono HE.out.size))
     have hlt1 : w.heap.size < w1.heap.size := Nat.lt_of_lt_of_le (by simp) hb1.size
     have HX1 := hid ((HBX.out.below hb1).below (ext_alloc w1 (.cells #[.bool true, .bool true, .bool false, .bool false, .bool false] 146)))
     have hE2 := ext_alloc w1 (.cells #[.bool true, .bool true, .bool false, .bool false, .bool false] 146)
     have HB2 := hid (HB1.out.trans (hE2.mono HB1.out.size))
     have HFC := hid (show (w1.alloc (.cells #[.bool true, .bool true, .bool false, .bool false, .bool false] 146)).cell? ⟨w1.heap.size, 3, none⟩ = some (.bool false) ∧ (w1.alloc (.cells #[.bool true, .bool true, .bool false, .bool false, .bool false] 146)).cell? ⟨w1.heap.size, 4, none⟩ = some (.bool false) from ⟨by rw [World.cell?_alloc_at _ _ _ _ rfl]; rfl, by rw [World.cell?_alloc_at _ _ _ _ rfl]; rfl⟩)
     obtain ⟨c0, c1, c2, c3, c4, c5⟩ := HX1.out
     clear hb1 hE2
     go_wp2_with fail
     refine (rjumps_any 12 _).mono ?_
     rintro e wj ⟨rfl, rfl⟩
     rw [show jumpsOp 12 = true from rfl]
     go_wp2
     go_ret
     rw [HZ.out]
     exact ⟨rfl, HB2.out⟩
    ·have HR : Hid (rangedOk ⟨12, a, b, { data := #[] }, { data := #[] }, { data := #[] }⟩ = true) := hid (by rw [hR]; simp; omega)
     clear hR
     have HBX := hid (Box.new w (⟨12, a, b, { data := #[] }, { data := #[] }, { data := #[] }⟩ : I) 108)
     have HE := hid (ext_alloc w (.cells #[.int .i64 12, .int .i64 a, .int .i64 b, .string { data := #[] }, .string { data := #[] }, .string { data := #[] }] 108))
     go_enter Tryz.func90, Tryz.ntmps90
     go_wp2_with fail
     refine (hne.out _).mono ?_
     rintro e w1 ⟨rfl, hb1⟩
     have HB1 := hid (HE.out.trans (hb1.mono HE.out.size))
     have hlt1 : w.heap.size < w1.heap.size := Nat.lt_of_lt_of_le (by simp) hb1.size
     have HX1 := hid ((HBX.out.below hb1).below (ext_alloc w1 (.cells #[.bool true, .bool true, .bool false, .bool false, .bool false] 146)))
     have hE2 := ext_alloc w1 (.cells #[.bool true, .bool true, .bool false, .bool false, .bool false] 146)
     have HB2 := hid (HB1.out.trans (hE2.mono HB1.out.size))
     have HFC := hid (show (w1.alloc (.cells #[.bool true, .bool true, .bool false, .bool false, .bool false] 146)).cell? ⟨w1.heap.size, 3, none⟩ = some (.bool false) ∧ (w1.alloc (.cells #[.bool true, .bool true, .bool false, .bool false, .bool false] 146)).cell? ⟨w1.heap.size, 4, none⟩ = some (.bool false) from ⟨by rw [World.cell?_alloc_at _ _ _ _ rfl]; rfl, by rw [World.cell?_alloc_at _ _ _ _ rfl]; rfl⟩)
     obtain ⟨c0, c1, c2, c3, c4, c5⟩ := HX1.out
     clear hb1 hE2
     go_wp2_with fail
     refine (rjumps_any 12 _).mono ?_
     rintro e wj ⟨rfl, rfl⟩
     rw [show jumpsOp 12 = true from rfl]
     go_wp2_with fail
     refine (may_any 12 a b { data := #[] } { data := #[] } { data := #[] } _ (by decide)).mono ?_
     rintro e w4 ⟨rfl, hb4⟩
     have HX4 := hid (HX1.out.below hb4)
     have HB4 := hid (HB2.out.trans (hb4.mono HB2.out.size))
     have HFC4 := hid (show w4.cell? ⟨w1.heap.size, 3, none⟩ = some (.bool false) ∧ w4.cell? ⟨w1.heap.size, 4, none⟩ = some (.bool false) from ⟨by rw [hb4.cell (World.block_lt_of_cell? _ _ HFC.out.1)]; exact HFC.out.1, by rw [hb4.cell (World.block_lt_of_cell? _ _ HFC.out.2)]; exact HFC.out.2⟩)
     clear c0 c1 c2 c3 c4 c5 hb4
     cases hT : typedOk ⟨12, a, b, { data := #[] }, { data := #[] }, { data := #[] }⟩ with
     | false =>
      have HZ : Hid (insFault ⟨12, a, b, { data := #[] }, { data := #[] }, { data := #[] }⟩ = 1) := hid (by rw [HS.out, if_neg (by rw [HR.out]; decide), if_pos (.inl hT)])
      clear hT
      go_wp2
      go_ret
      rw [HZ.out]
      exact ⟨rfl, HB4.out⟩
     | true =>
      have HT := hid hT
      clear hT
      obtain ⟨c0, c1, c2, c3, c4, c5⟩ := HX4.out
      obtain ⟨d3, d4⟩ := HFC4.out
      have HZ : Hid (insFault ⟨12, a, b, { data := #[] }, { data := #[] }, { data := #[] }⟩ = 0) := hid (by rw [HS.out, if_neg (by rw [HR.out]; decide)]; exact if_neg (fun h => h.elim (fun h => by rw [HT.out] at h; cases h) (fun h => h.elim (fun h => by have h := h.1; rw [hkC] at h; cases h) (fun h => by have h := h.1; rw [hkN] at h; cases h))))
      go_wp2
      go_ret
      rw [HZ.out]
      exact ⟨rfl, HB4.out⟩
theorem rclassAB (op a b : Int) (t c n : ByteArray) (w : World) (hne : Hid (∀ w, Calls Tryz.prog 112 #[.int .i64 op] w fun e w' => e = .returned (.agg #[.bool true, .bool true, .bool false, .bool false, .bool false]) ∧ Below w.heap.size w w')) (ho : 1 ≤ op ∧ op ≤ 28) (hkT : needT op = false) (hkC : needC op = false) (hkN : needN op = false) (hop : op = 12) (ht : t.size ≤ 10000000) (hc : c.size ≤ 9223372036854775807) (hn : n.size ≤ 9223372036854775807) :
  Calls Tryz.prog 90 #[.agg #[.int .i64 op, .int .i64 a, .int .i64 b, .string t, .string c, .string n]] w fun e w' => e = .returned (.int .i64 (insFault ⟨op, a, b, t, c, n⟩)) ∧ Below w.heap.size w w' := by
 by_cases zT : t.data.toList ≠ []
 ·exact rbadAB_T op a b t c n w hne ho hkT zT
 obtain rfl : t = { data := #[] } := bs_of (Classical.not_not.1 zT)
 by_cases zC : c.data.toList ≠ []
 ·exact rbadAB_C op a b c n w hne ho hkC zC
 obtain rfl : c = { data := #[] } := bs_of (Classical.not_not.1 zC)
 by_cases zN : n.data.toList ≠ []
 ·exact rbadAB_N op a b n w hne ho hkN zN
 obtain rfl : n = { data := #[] } := bs_of (Classical.not_not.1 zN)
 subst hop
 exact rgoodAB12 a b w hne 
set_option maxRecDepth 100000 in
set_option maxHeartbeats 2000000 in
theorem rbadT_A (op : Int) (a b : Int) (t c n : ByteArray) (w : World) (hne : Hid (∀ w, Calls Tryz.prog 112 #[.int .i64 op] w fun e w' => e = .returned (.agg #[.bool false, .bool false, .bool true, .bool false, .bool false]) ∧ Below w.heap.size w w')) (ho : 1 ≤ op ∧ op ≤ 28) (hkA : needA op = false) (hx : ¬ a = 0) :
  Calls Tryz.prog 90 #[.agg #[.int .i64 op, .int .i64 a, .int .i64 b, .string t, .string c, .string n]] w fun e w' => e = .returned (.int .i64 (insFault ⟨op, a, b, t, c, n⟩)) ∧ Below w.heap.size w w' := by
 have hx2 : ¬ a = 0 := hx
 have HS : Hid (insFault ⟨op, a, b, t, c, n⟩ = 1) := hid (by
  unfold insFault
  rw [if_neg (by simp only; omega), if_pos]
  simp [bareOk, hkA, hx2])
 have k1 : ¬ op < 1 := by omega
 have k2 : ¬ (28 : Int) < op := by omega
 have hxb : (a == 0) = false := by simp [hx]
 have hxm : (a != 0) = true := by simp [hx]
 clear hkA ho hx2
 have HBX := hid (Box.new w (⟨op, a, b, t, c, n⟩ : I) 108)
 have HE := hid (ext_alloc w (.cells #[.int .i64 op, .int .i64 a, .int .i64 b, .string t, .string c, .string n] 108))
 go_enter Tryz.func90, Tryz.ntmps90
 go_wp2_with fail
 refine (hne.out _).mono ?_
 rintro e w1 ⟨rfl, hb1⟩
 have HB1 := hid (HE.out.trans (hb1.mono HE.out.size))
 have hlt1 : w.heap.size < w1.heap.size := Nat.lt_of_lt_of_le (by simp) hb1.size
 have HX1 := hid ((HBX.out.below hb1).below (ext_alloc w1 (.cells #[.bool false, .bool false, .bool true, .bool false, .bool false] 146)))
 have hE2 := ext_alloc w1 (.cells #[.bool false, .bool false, .bool true, .bool false, .bool false] 146)
 have HB2 := hid (HB1.out.trans (hE2.mono HB1.out.size))
 have HFC := hid (show (w1.alloc (.cells #[.bool false, .bool false, .bool true, .bool false, .bool false] 146)).cell? ⟨w1.heap.size, 3, none⟩ = some (.bool false) ∧ (w1.alloc (.cells #[.bool false, .bool false, .bool true, .bool false, .bool false] 146)).cell? ⟨w1.heap.size, 4, none⟩ = some (.bool false) from ⟨by rw [World.cell?_alloc_at _ _ _ _ rfl]; rfl, by rw [World.cell?_alloc_at _ _ _ _ rfl]; rfl⟩)
 obtain ⟨c0, c1, c2, c3, c4, c5⟩ := HX1.out
 clear hb1 hE2
 go_wp2
 go_ret
 rw [HS.out]
 exact ⟨rfl, HB2.out⟩
set_option maxRecDepth 100000 in
set_option maxHeartbeats 2000000 in
theorem rbadT_B (op : Int) (b : Int) (t c n : ByteArray) (w : World) (hne : Hid (∀ w, Calls Tryz.prog 112 #[.int .i64 op] w fun e w' => e = .returned (.agg #[.bool false, .bool false, .bool true, .bool false, .bool false]) ∧ Below w.heap.size w w')) (ho : 1 ≤ op ∧ op ≤ 28) (hkB : needB op = false) (hx : ¬ b = 0) :
  Calls Tryz.prog 90 #[.agg #[.int .i64 op, .int .i64 0, .int .i64 b, .string t, .string c, .string n]] w fun e w' => e = .returned (.int .i64 (insFault ⟨op, 0, b, t, c, n⟩)) ∧ Below w.heap.size w w' := by
 have hx2 : ¬ b = 0 := hx
 have HS : Hid (insFault ⟨op, 0, b, t, c, n⟩ = 1) := hid (by
  unfold insFault
  rw [if_neg (by simp only; omega), if_pos]
  simp [bareOk, hkB, hx2])
 have k1 : ¬ op < 1 := by omega
 have k2 : ¬ (28 : Int) < op := by omega
 have hxb : (b == 0) = false := by simp [hx]
 have hxm : (b != 0) = true := by simp [hx]
 clear hkB ho hx2
 have HBX := hid (Box.new w (⟨op, 0, b, t, c, n⟩ : I) 108)
 have HE := hid (ext_alloc w (.cells #[.int .i64 op, .int .i64 0, .int .i64 b, .string t, .string c, .string n] 108))
 go_enter Tryz.func90, Tryz.ntmps90
 go_wp2_with fail
 refine (hne.out _).mono ?_
 rintro e w1 ⟨rfl, hb1⟩
 have HB1 := hid (HE.out.trans (hb1.mono HE.out.size))
 have hlt1 : w.heap.size < w1.heap.size := Nat.lt_of_lt_of_le (by simp) hb1.size
 have HX1 := hid ((HBX.out.below hb1).below (ext_alloc w1 (.cells #[.bool false, .bool false, .bool true, .bool false, .bool false] 146)))
 have hE2 := ext_alloc w1 (.cells #[.bool false, .bool false, .bool true, .bool false, .bool false] 146)
 have HB2 := hid (HB1.out.trans (hE2.mono HB1.out.size))
 have HFC := hid (show (w1.alloc (.cells #[.bool false, .bool false, .bool true, .bool false, .bool false] 146)).cell? ⟨w1.heap.size, 3, none⟩ = some (.bool false) ∧ (w1.alloc (.cells #[.bool false, .bool false, .bool true, .bool false, .bool false] 146)).cell? ⟨w1.heap.size, 4, none⟩ = some (.bool false) from ⟨by rw [World.cell?_alloc_at _ _ _ _ rfl]; rfl, by rw [World.cell?_alloc_at _ _ _ _ rfl]; rfl⟩)
 obtain ⟨c0, c1, c2, c3, c4, c5⟩ := HX1.out
 clear hb1 hE2
 go_wp2
 go_ret
 rw [HS.out]
 exact ⟨rfl, HB2.out⟩
set_option maxRecDepth 100000 in
set_option maxHeartbeats 2000000 in
theorem rbadT_C (op : Int) (t c n : ByteArray) (w : World) (hne : Hid (∀ w, Calls Tryz.prog 112 #[.int .i64 op] w fun e w' => e = .returned (.agg #[.bool false, .bool false, .bool true, .bool false, .bool false]) ∧ Below w.heap.size w w')) (ho : 1 ≤ op ∧ op ≤ 28) (hkC : needC op = false) (hx : c.data.toList ≠ []) :
  Calls Tryz.prog 90 #[.agg #[.int .i64 op, .int .i64 0, .int .i64 0, .string t, .string c, .string n]] w fun e w' => e = .returned (.int .i64 (insFault ⟨op, 0, 0, t, c, n⟩)) ∧ Below w.heap.size w w' := by
 have hx2 : ¬ c.data = #[] := fun h => hx (by rw [h])
 have HS : Hid (insFault ⟨op, 0, 0, t, c, n⟩ = 1) := hid (by
  unfold insFault
  rw [if_neg (by simp only; omega), if_pos]
  simp [bareOk, hkC, hx2])
 have k1 : ¬ op < 1 := by omega
 have k2 : ¬ (28 : Int) < op := by omega
 have hxb : c.toList.isEmpty = false := by rw [ByteArray.toList_eq]; cases h : c.data.toList with
  | nil => exact absurd h hx
  | cons _ _ => rfl
 have hxl : ¬ c.toList = [] := fun h => hx (str_list.1 h)
 clear hkC ho hx2 hx
 have HBX := hid (Box.new w (⟨op, 0, 0, t, c, n⟩ : I) 108)
 have HE := hid (ext_alloc w (.cells #[.int .i64 op, .int .i64 0, .int .i64 0, .string t, .string c, .string n] 108))
 go_enter Tryz.func90, Tryz.ntmps90
 go_wp2_with fail
 refine (hne.out _).mono ?_
 rintro e w1 ⟨rfl, hb1⟩
 have HB1 := hid (HE.out.trans (hb1.mono HE.out.size))
 have hlt1 : w.heap.size < w1.heap.size := Nat.lt_of_lt_of_le (by simp) hb1.size
 have HX1 := hid ((HBX.out.below hb1).below (ext_alloc w1 (.cells #[.bool false, .bool false, .bool true, .bool false, .bool false] 146)))
 have hE2 := ext_alloc w1 (.cells #[.bool false, .bool false, .bool true, .bool false, .bool false] 146)
 have HB2 := hid (HB1.out.trans (hE2.mono HB1.out.size))
 have HFC := hid (show (w1.alloc (.cells #[.bool false, .bool false, .bool true, .bool false, .bool false] 146)).cell? ⟨w1.heap.size, 3, none⟩ = some (.bool false) ∧ (w1.alloc (.cells #[.bool false, .bool false, .bool true, .bool false, .bool false] 146)).cell? ⟨w1.heap.size, 4, none⟩ = some (.bool false) from ⟨by rw [World.cell?_alloc_at _ _ _ _ rfl]; rfl, by rw [World.cell?_alloc_at _ _ _ _ rfl]; rfl⟩)
 obtain ⟨c0, c1, c2, c3, c4, c5⟩ := HX1.out
 clear hb1 hE2
 go_wp2
 go_ret
 rw [HS.out]
 exact ⟨rfl, HB2.out⟩
set_option maxRecDepth 100000 in
set_option maxHeartbeats 2000000 in
theorem rbadT_N (op : Int) (t n : ByteArray) (w : World) (hne : Hid (∀ w, Calls Tryz.prog 112 #[.int .i64 op] w fun e w' => e = .returned (.agg #[.bool false, .bool false, .bool true, .bool false, .bool false]) ∧ Below w.heap.size w w')) (ho : 1 ≤ op ∧ op ≤ 28) (hkN : needN op = false) (hx : n.data.toList ≠ []) :
  Calls Tryz.prog 90 #[.agg #[.int .i64 op, .int .i64 0, .int .i64 0, .string t, .string { data := #[] }, .string n]] w fun e w' => e = .returned (.int .i64 (insFault ⟨op, 0, 0, t, { data := #[] }, n⟩)) ∧ Below w.heap.size w w' := by
 have hx2 : ¬ n.data = #[] := fun h => hx (by rw [h])
 have HS : Hid (insFault ⟨op, 0, 0, t, { data := #[] }, n⟩ = 1) := hid (by
  unfold insFault
  rw [if_neg (by simp only; omega), if_pos]
  simp [bareOk, hkN, hx2])
 have k1 : ¬ op < 1 := by omega
 have k2 : ¬ (28 : Int) < op := by omega
 have hxb : n.toList.isEmpty = false := by rw [ByteArray.toList_eq]; cases h : n.data.toList with
  | nil => exact absurd h hx
  | cons _ _ => rfl
 have hxl : ¬ n.toList = [] := fun h => hx (str_list.1 h)
 clear hkN ho hx2 hx
 have HBX := hid (Box.new w (⟨op, 0, 0, t, { data := #[] }, n⟩ : I) 108)
 have HE := hid (ext_alloc w (.cells #[.int .i64 op, .int .i64 0, .int .i64 0, .string t, .string { data := #[] }, .string n] 108))
 go_enter Tryz.func90, Tryz.ntmps90
 go_wp2_with fail
 refine (hne.out _).mono ?_
 rintro e w1 ⟨rfl, hb1⟩
 have HB1 := hid (HE.out.trans (hb1.mono HE.out.size))
 have hlt1 : w.heap.size < w1.heap.size := Nat.lt_of_lt_of_le (by simp) hb1.size
 have HX1 := hid ((HBX.out.below hb1).below (ext_alloc w1 (.cells #[.bool false, .bool false, .bool true, .bool false, .bool false] 146)))
 have hE2 := ext_alloc w1 (.cells #[.bool false, .bool false, .bool true, .bool false, .bool false] 146)
 have HB2 := hid (HB1.out.trans (hE2.mono HB1.out.size))
 have HFC := hid (show (w1.alloc (.cells #[.bool false, .bool false, .bool true, .bool false, .bool false] 146)).cell? ⟨w1.heap.size, 3, none⟩ = some (.bool false) ∧ (w1.alloc (.cells #[.bool false, .bool false, .bool true, .bool false, .bool false] 146)).cell? ⟨w1.heap.size, 4, none⟩ = some (.bool false) from ⟨by rw [World.cell?_alloc_at _ _ _ _ rfl]; rfl, by rw [World.cell?_alloc_at _ _ _ _ rfl]; rfl⟩)
 obtain ⟨c0, c1, c2, c3, c4, c5⟩ := HX1.out
 clear hb1 hE2
 go_wp2
 go_ret
 rw [HS.out]
 exact ⟨rfl, HB2.out⟩
set_option maxRecDepth 100000 in
set_option maxHeartbeats 4000000 in
theorem rgoodT (op : Int) (t : ByteArray) (w : World) (hne : Hid (∀ w, Calls Tryz.prog 112 #[.int .i64 op] w fun e w' => e = .returned (.agg #[.bool false, .bool false, .bool true, .bool false, .bool false]) ∧ Below w.heap.size w w')) (hkT : needT op = true) (hkC : needC op = false) (hkN : needN op = false) (ho : 1 ≤ op ∧ op ≤ 28) (hJ : jumpsOp op = false) (h2 : op ≠ 2) (h4 : op ≠ 4) (h5 : op ≠ 5) (h9 : op ≠ 9) (ht : t.size ≤ 10000000) :
  Calls Tryz.prog 90 #[.agg #[.int .i64 op, .int .i64 0, .int .i64 0, .string t, .string { data := #[] }, .string { data := #[] }]] w fun e w' => e = .returned (.int .i64 (insFault ⟨op, 0, 0, t, { data := #[] }, { data := #[] }⟩)) ∧ Below w.heap.size w w' := by
 have HS : Hid (insFault ⟨op, 0, 0, t, { data := #[] }, { data := #[] }⟩ = if rangedOk ⟨op, 0, 0, t, { data := #[] }, { data := #[] }⟩ = false then 2 else if typedOk ⟨op, 0, 0, t, { data := #[] }, { data := #[] }⟩ = false ∨ (needC op = true ∧ nameOk ({ data := #[] } : ByteArray).data.toList = false) ∨ (needN op = true ∧ nameOk ({ data := #[] } : ByteArray).data.toList = false) then 1 else 0) := hid (by
  unfold insFault
  rw [if_neg (by simp only; omega), if_neg (by simp [bareOk, hkT])])
 have HR : Hid (rangedOk ⟨op, 0, 0, t, { data := #[] }, { data := #[] }⟩ = true) := hid (by
  unfold rangedOk
  simp only
  rw [if_neg h2, if_neg (by omega), if_neg h9, if_neg (by rw [hJ]; decide)])
 have g1 : ¬ op < 1 := by omega
 have g2 : ¬ (28 : Int) < op := by omega
 have k2 : (op == 2) = false := by simp [h2]
 have k4 : (op == 4) = false := by simp [h4]
 have k5 : (op == 5) = false := by simp [h5]
 have k9 : (op == 9) = false := by simp [h9]
 have k12 : (op == 12) = false := by
  cases h : op == 12 with
  | false => rfl
  | true => unfold jumpsOp at hJ; rw [h] at hJ; cases hJ
 have HJ := hid hJ
 clear ho hJ h2 h4 h5 h9 hkT
 have HBX := hid (Box.new w (⟨op, 0, 0, t, { data := #[] }, { data := #[] }⟩ : I) 108)
 have HE := hid (ext_alloc w (.cells #[.int .i64 op, .int .i64 0, .int .i64 0, .string t, .string { data := #[] }, .string { data := #[] }] 108))
 go_enter Tryz.func90, Tryz.ntmps90
 go_wp2_with fail
 refine (hne.out _).mono ?_
 rintro e w1 ⟨rfl, hb1⟩
 have HB1 := hid (HE.out.trans (hb1.mono HE.out.size))
 have hlt1 : w.heap.size < w1.heap.size := Nat.lt_of_lt_of_le (by simp) hb1.size
 have HX1 := hid ((HBX.out.below hb1).below (ext_alloc w1 (.cells #[.bool false, .bool false, .bool true, .bool false, .bool false] 146)))
 have hE2 := ext_alloc w1 (.cells #[.bool false, .bool false, .bool true, .bool false, .bool false] 146)
 have HB2 := hid (HB1.out.trans (hE2.mono HB1.out.size))
 have HFC := hid (show (w1.alloc (.cells #[.bool false, .bool false, .bool true, .bool false, .bool false] 146)).cell? ⟨w1.heap.size, 3, none⟩ = some (.bool false) ∧ (w1.alloc (.cells #[.bool false, .bool false, .bool true, .bool false, .bool false] 146)).cell? ⟨w1.heap.size, 4, none⟩ = some (.bool false) from ⟨by rw [World.cell?_alloc_at _ _ _ _ rfl]; rfl, by rw [World.cell?_alloc_at _ _ _ _ rfl]; rfl⟩)
 obtain ⟨c0, c1, c2, c3, c4, c5⟩ := HX1.out
 clear hb1 hE2
 go_wp2_with fail
 refine (rjumps_any op _).mono ?_
 rintro e wj ⟨rfl, rfl⟩
 rw [HJ.out]
 go_wp2_with fail
 refine (may_any op 0 0 t { data := #[] } { data := #[] } _ ht).mono ?_
 rintro e w4 ⟨rfl, hb4⟩
 have HX4 := hid (HX1.out.below hb4)
 have HB4 := hid (HB2.out.trans (hb4.mono HB2.out.size))
 have HFC4 := hid (show w4.cell? ⟨w1.heap.size, 3, none⟩ = some (.bool false) ∧ w4.cell? ⟨w1.heap.size, 4, none⟩ = some (.bool false) from ⟨by rw [hb4.cell (World.block_lt_of_cell? _ _ HFC.out.1)]; exact HFC.out.1, by rw [hb4.cell (World.block_lt_of_cell? _ _ HFC.out.2)]; exact HFC.out.2⟩)
 clear c0 c1 c2 c3 c4 c5 hb4
 cases hT : typedOk ⟨op, 0, 0, t, { data := #[] }, { data := #[] }⟩ with
 | false =>
  have HZ : Hid (insFault ⟨op, 0, 0, t, { data := #[] }, { data := #[] }⟩ = 1) := hid (by rw [HS.out, if_neg (by rw [HR.out]; decide), if_pos (.inl hT)])
  clear hT
  go_wp2
  go_ret
  rw [HZ.out]
  exact ⟨rfl, HB4.out⟩
 | true =>
  have HT := hid hT
  clear hT
  obtain ⟨c0, c1, c2, c3, c4, c5⟩ := HX4.out
  obtain ⟨d3, d4⟩ := HFC4.out
  have HZ : Hid (insFault ⟨op, 0, 0, t, { data := #[] }, { data := #[] }⟩ = 0) := hid (by rw [HS.out, if_neg (by rw [HR.out]; decide)]; exact if_neg (fun h => h.elim (fun h => by rw [HT.out] at h; cases h) (fun h => h.elim (fun h => by have h := h.1; rw [hkC] at h; cases h) (fun h => by have h := h.1; rw [hkN] at h; cases h))))
  go_wp2
  go_ret
  rw [HZ.out]
  exact ⟨rfl, HB4.out⟩
theorem rclassT (op a b : Int) (t c n : ByteArray) (w : World) (hne : Hid (∀ w, Calls Tryz.prog 112 #[.int .i64 op] w fun e w' => e = .returned (.agg #[.bool false, .bool false, .bool true, .bool false, .bool false]) ∧ Below w.heap.size w w')) (ho : 1 ≤ op ∧ op ≤ 28) (hkA : needA op = false) (hkB : needB op = false) (hkT : needT op = true) (hkC : needC op = false) (hkN : needN op = false) (hJ : jumpsOp op = false) (h2 : op ≠ 2) (h4 : op ≠ 4) (h5 : op ≠ 5) (h9 : op ≠ 9) (ht : t.size ≤ 10000000) (hc : c.size ≤ 9223372036854775807) (hn : n.size ≤ 9223372036854775807) :
  Calls Tryz.prog 90 #[.agg #[.int .i64 op, .int .i64 a, .int .i64 b, .string t, .string c, .string n]] w fun e w' => e = .returned (.int .i64 (insFault ⟨op, a, b, t, c, n⟩)) ∧ Below w.heap.size w w' := by
 by_cases zA : ¬ a = 0
 ·exact rbadT_A op a b t c n w hne ho hkA zA
 obtain rfl : a = 0 := Classical.not_not.1 zA
 by_cases zB : ¬ b = 0
 ·exact rbadT_B op b t c n w hne ho hkB zB
 obtain rfl : b = 0 := Classical.not_not.1 zB
 by_cases zC : c.data.toList ≠ []
 ·exact rbadT_C op t c n w hne ho hkC zC
 obtain rfl : c = { data := #[] } := bs_of (Classical.not_not.1 zC)
 by_cases zN : n.data.toList ≠ []
 ·exact rbadT_N op t n w hne ho hkN zN
 obtain rfl : n = { data := #[] } := bs_of (Classical.not_not.1 zN)
 exact rgoodT op t w hne hkT hkC hkN ho hJ h2 h4 h5 h9 ht
set_option maxRecDepth 100000 in
set_option maxHeartbeats 2000000 in
theorem rbadZ_A (op : Int) (a b : Int) (t c n : ByteArray) (w : World) (hne : Hid (∀ w, Calls Tryz.prog 112 #[.int .i64 op] w fun e w' => e = .returned (.agg #[.bool false, .bool false, .bool false, .bool false, .bool false]) ∧ Below w.heap.size w w')) (ho : 1 ≤ op ∧ op ≤ 28) (hkA : needA op = false) (hx : ¬ a = 0) :
  Calls Tryz.prog 90 #[.agg #[.int .i64 op, .int .i64 a, .int .i64 b, .string t, .string c, .string n]] w fun e w' => e = .returned (.int .i64 (insFault ⟨op, a, b, t, c, n⟩)) ∧ Below w.heap.size w w' := by
 have hx2 : ¬ a = 0 := hx
 have HS : Hid (insFault ⟨op, a, b, t, c, n⟩ = 1) := hid (by
  unfold insFault
  rw [if_neg (by simp only; omega), if_pos]
  simp [bareOk, hkA, hx2])
 have k1 : ¬ op < 1 := by omega
 have k2 : ¬ (28 : Int) < op := by omega
 have hxb : (a == 0) = false := by simp [hx]
 have hxm : (a != 0) = true := by simp [hx]
 clear hkA ho hx2
 have HBX := hid (Box.new w (⟨op, a, b, t, c, n⟩ : I) 108)
 have HE := hid (ext_alloc w (.cells #[.int .i64 op, .int .i64 a, .int .i64 b, .string t, .string c, .string n] 108))
 go_enter Tryz.func90, Tryz.ntmps90
 go_wp2_with fail
 refine (hne.out _).mono ?_
 rintro e w1 ⟨rfl, hb1⟩
 have HB1 := hid (HE.out.trans (hb1.mono HE.out.size))
 have hlt1 : w.heap.size < w1.heap.size := Nat.lt_of_lt_of_le (by simp) hb1.size
 have HX1 := hid ((HBX.out.below hb1).below (ext_alloc w1 (.cells #[.bool false, .bool false, .bool false, .bool false, .bool false] 146)))
 have hE2 := ext_alloc w1 (.cells #[.bool false, .bool false, .bool false, .bool false, .bool false] 146)
 have HB2 := hid (HB1.out.trans (hE2.mono HB1.out.size))
 have HFC := hid (show (w1.alloc (.cells #[.bool false, .bool false, .bool false, .bool false, .bool false] 146)).cell? ⟨w1.heap.size, 3, none⟩ = some (.bool false) ∧ (w1.alloc (.cells #[.bool false, .bool false, .bool false, .bool false, .bool false] 146)).cell? ⟨w1.heap.size, 4, none⟩ = some (.bool false) from ⟨by rw [World.cell?_alloc_at _ _ _ _ rfl]; rfl, by rw [World.cell?_alloc_at _ _ _ _ rfl]; rfl⟩)
 obtain ⟨c0, c1, c2, c3, c4, c5⟩ := HX1.out
 clear hb1 hE2
 go_wp2
 go_ret
 rw [HS.out]
 exact ⟨rfl, HB2.out⟩
set_option maxRecDepth 100000 in
set_option maxHeartbeats 2000000 in
theorem rbadZ_B (op : Int) (b : Int) (t c n : ByteArray) (w : World) (hne : Hid (∀ w, Calls Tryz.prog 112 #[.int .i64 op] w fun e w' => e = .returned (.agg #[.bool false, .bool false, .bool false, .bool false, .bool false]) ∧ Below w.heap.size w w')) (ho : 1 ≤ op ∧ op ≤ 28) (hkB : needB op = false) (hx : ¬ b = 0) :
  Calls Tryz.prog 90 #[.agg #[.int .i64 op, .int .i64 0, .int .i64 b, .string t, .string c, .string n]] w fun e w' => e = .returned (.int .i64 (insFault ⟨op, 0, b, t, c, n⟩)) ∧ Below w.heap.size w w' := by
 have hx2 : ¬ b = 0 := hx
 have HS : Hid (insFault ⟨op, 0, b, t, c, n⟩ = 1) := hid (by
  unfold insFault
  rw [if_neg (by simp only; omega), if_pos]
  simp [bareOk, hkB, hx2])
 have k1 : ¬ op < 1 := by omega
 have k2 : ¬ (28 : Int) < op := by omega
 have hxb : (b == 0) = false := by simp [hx]
 have hxm : (b != 0) = true := by simp [hx]
 clear hkB ho hx2
 have HBX := hid (Box.new w (⟨op, 0, b, t, c, n⟩ : I) 108)
 have HE := hid (ext_alloc w (.cells #[.int .i64 op, .int .i64 0, .int .i64 b, .string t, .string c, .string n] 108))
 go_enter Tryz.func90, Tryz.ntmps90
 go_wp2_with fail
 refine (hne.out _).mono ?_
 rintro e w1 ⟨rfl, hb1⟩
 have HB1 := hid (HE.out.trans (hb1.mono HE.out.size))
 have hlt1 : w.heap.size < w1.heap.size := Nat.lt_of_lt_of_le (by simp) hb1.size
 have HX1 := hid ((HBX.out.below hb1).below (ext_alloc w1 (.cells #[.bool false, .bool false, .bool false, .bool false, .bool false] 146)))
 have hE2 := ext_alloc w1 (.cells #[.bool false, .bool false, .bool false, .bool false, .bool false] 146)
 have HB2 := hid (HB1.out.trans (hE2.mono HB1.out.size))
 have HFC := hid (show (w1.alloc (.cells #[.bool false, .bool false, .bool false, .bool false, .bool false] 146)).cell? ⟨w1.heap.size, 3, none⟩ = some (.bool false) ∧ (w1.alloc (.cells #[.bool false, .bool false, .bool false, .bool false, .bool false] 146)).cell? ⟨w1.heap.size, 4, none⟩ = some (.bool false) from ⟨by rw [World.cell?_alloc_at _ _ _ _ rfl]; rfl, by rw [World.cell?_alloc_at _ _ _ _ rfl]; rfl⟩)
 obtain ⟨c0, c1, c2, c3, c4, c5⟩ := HX1.out
 clear hb1 hE2
 go_wp2
 go_ret
 rw [HS.out]
 exact ⟨rfl, HB2.out⟩
set_option maxRecDepth 100000 in
set_option maxHeartbeats 2000000 in
theorem rbadZ_T (op : Int) (t c n : ByteArray) (w : World) (hne : Hid (∀ w, Calls Tryz.prog 112 #[.int .i64 op] w fun e w' => e = .returned (.agg #[.bool false, .bool false, .bool false, .bool false, .bool false]) ∧ Below w.heap.size w w')) (ho : 1 ≤ op ∧ op ≤ 28) (hkT : needT op = false) (hx : t.data.toList ≠ []) :
  Calls Tryz.prog 90 #[.agg #[.int .i64 op, .int .i64 0, .int .i64 0, .string t, .string c, .string n]] w fun e w' => e = .returned (.int .i64 (insFault ⟨op, 0, 0, t, c, n⟩)) ∧ Below w.heap.size w w' := by
 have hx2 : ¬ t.data = #[] := fun h => hx (by rw [h])
 have HS : Hid (insFault ⟨op, 0, 0, t, c, n⟩ = 1) := hid (by
  unfold insFault
  rw [if_neg (by simp only; omega), if_pos]
  simp [bareOk, hkT, hx2])
 have k1 : ¬ op < 1 := by omega
 have k2 : ¬ (28 : Int) < op := by omega
 have hxb : t.toList.isEmpty = false := by rw [ByteArray.toList_eq]; cases h : t.data.toList with
  | nil => exact absurd h hx
  | cons _ _ => rfl
 have hxl : ¬ t.toList = [] := fun h => hx (str_list.1 h)
 clear hkT ho hx2 hx
 have HBX := hid (Box.new w (⟨op, 0, 0, t, c, n⟩ : I) 108)
 have HE := hid (ext_alloc w (.cells #[.int .i64 op, .int .i64 0, .int .i64 0, .string t, .string c, .string n] 108))
 go_enter Tryz.func90, Tryz.ntmps90
 go_wp2_with fail
 refine (hne.out _).mono ?_
 rintro e w1 ⟨rfl, hb1⟩
 have HB1 := hid (HE.out.trans (hb1.mono HE.out.size))
 have hlt1 : w.heap.size < w1.heap.size := Nat.lt_of_lt_of_le (by simp) hb1.size
 have HX1 := hid ((HBX.out.below hb1).below (ext_alloc w1 (.cells #[.bool false, .bool false, .bool false, .bool false, .bool false] 146)))
 have hE2 := ext_alloc w1 (.cells #[.bool false, .bool false, .bool false, .bool false, .bool false] 146)
 have HB2 := hid (HB1.out.trans (hE2.mono HB1.out.size))
 have HFC := hid (show (w1.alloc (.cells #[.bool false, .bool false, .bool false, .bool false, .bool false] 146)).cell? ⟨w1.heap.size, 3, none⟩ = some (.bool false) ∧ (w1.alloc (.cells #[.bool false, .bool false, .bool false, .bool false, .bool false] 146)).cell? ⟨w1.heap.size, 4, none⟩ = some (.bool false) from ⟨by rw [World.cell?_alloc_at _ _ _ _ rfl]; rfl, by rw [World.cell?_alloc_at _ _ _ _ rfl]; rfl⟩)
 obtain ⟨c0, c1, c2, c3, c4, c5⟩ := HX1.out
 clear hb1 hE2
 go_wp2
 go_ret
 rw [HS.out]
 exact ⟨rfl, HB2.out⟩
set_option maxRecDepth 100000 in
set_option maxHeartbeats 2000000 in
theorem rbadZ_C (op : Int) (c n : ByteArray) (w : World) (hne : Hid (∀ w, Calls Tryz.prog 112 #[.int .i64 op] w fun e w' => e = .returned (.agg #[.bool false, .bool false, .bool false, .bool false, .bool false]) ∧ Below w.heap.size w w')) (ho : 1 ≤ op ∧ op ≤ 28) (hkC : needC op = false) (hx : c.data.toList ≠ []) :
  Calls Tryz.prog 90 #[.agg #[.int .i64 op, .int .i64 0, .int .i64 0, .string { data := #[] }, .string c, .string n]] w fun e w' => e = .returned (.int .i64 (insFault ⟨op, 0, 0, { data := #[] }, c, n⟩)) ∧ Below w.heap.size w w' := by
 have hx2 : ¬ c.data = #[] := fun h => hx (by rw [h])
 have HS : Hid (insFault ⟨op, 0, 0, { data := #[] }, c, n⟩ = 1) := hid (by
  unfold insFault
  rw [if_neg (by simp only; omega), if_pos]
  simp [bareOk, hkC, hx2])
 have k1 : ¬ op < 1 := by omega
 have k2 : ¬ (28 : Int) < op := by omega
 have hxb : c.toList.isEmpty = false := by rw [ByteArray.toList_eq]; cases h : c.data.toList with
  | nil => exact absurd h hx
  | cons _ _ => rfl
 have hxl : ¬ c.toList = [] := fun h => hx (str_list.1 h)
 clear hkC ho hx2 hx
 have HBX := hid (Box.new w (⟨op, 0, 0, { data := #[] }, c, n⟩ : I) 108)
 have HE := hid (ext_alloc w (.cells #[.int .i64 op, .int .i64 0, .int .i64 0, .string { data := #[] }, .string c, .string n] 108))
 go_enter Tryz.func90, Tryz.ntmps90
 go_wp2_with fail
 refine (hne.out _).mono ?_
 rintro e w1 ⟨rfl, hb1⟩
 have HB1 := hid (HE.out.trans (hb1.mono HE.out.size))
 have hlt1 : w.heap.size < w1.heap.size := Nat.lt_of_lt_of_le (by simp) hb1.size
 have HX1 := hid ((HBX.out.below hb1).below (ext_alloc w1 (.cells #[.bool false, .bool false, .bool false, .bool false, .bool false] 146)))
 have hE2 := ext_alloc w1 (.cells #[.bool false, .bool false, .bool false, .bool false, .bool false] 146)
 have HB2 := hid (HB1.out.trans (hE2.mono HB1.out.size))
 have HFC := hid (show (w1.alloc (.cells #[.bool false, .bool false, .bool false, .bool false, .bool false] 146)).cell? ⟨w1.heap.size, 3, none⟩ = some (.bool false) ∧ (w1.alloc (.cells #[.bool false, .bool false, .bool false, .bool false, .bool false] 146)).cell? ⟨w1.heap.size, 4, none⟩ = some (.bool false) from ⟨by rw [World.cell?_alloc_at _ _ _ _ rfl]; rfl, by rw [World.cell?_alloc_at _ _ _ _ rfl]; rfl⟩)
 obtain ⟨c0, c1, c2, c3, c4, c5⟩ := HX1.out
 clear hb1 hE2
 go_wp2
 go_ret
 rw [HS.out]
 exact ⟨rfl, HB2.out⟩
set_option maxRecDepth 100000 in
set_option maxHeartbeats 2000000 in
theorem rbadZ_N (op : Int) (n : ByteArray) (w : World) (hne : Hid (∀ w, Calls Tryz.prog 112 #[.int .i64 op] w fun e w' => e = .returned (.agg #[.bool false, .bool false, .bool false, .bool false, .bool false]) ∧ Below w.heap.size w w')) (ho : 1 ≤ op ∧ op ≤ 28) (hkN : needN op = false) (hx : n.data.toList ≠ []) :
  Calls Tryz.prog 90 #[.agg #[.int .i64 op, .int .i64 0, .int .i64 0, .string { data := #[] }, .string { data := #[] }, .string n]] w fun e w' => e = .returned (.int .i64 (insFault ⟨op, 0, 0, { data := #[] }, { data := #[] }, n⟩)) ∧ Below w.heap.size w w' := by
 have hx2 : ¬ n.data = #[] := fun h => hx (by rw [h])
 have HS : Hid (insFault ⟨op, 0, 0, { data := #[] }, { data := #[] }, n⟩ = 1) := hid (by
  unfold insFault
  rw [if_neg (by simp only; omega), if_pos]
  simp [bareOk, hkN, hx2])
 have k1 : ¬ op < 1 := by omega
 have k2 : ¬ (28 : Int) < op := by omega
 have hxb : n.toList.isEmpty = false := by rw [ByteArray.toList_eq]; cases h : n.data.toList with
  | nil => exact absurd h hx
  | cons _ _ => rfl
 have hxl : ¬ n.toList = [] := fun h => hx (str_list.1 h)
 clear hkN ho hx2 hx
 have HBX := hid (Box.new w (⟨op, 0, 0, { data := #[] }, { data := #[] }, n⟩ : I) 108)
 have HE := hid (ext_alloc w (.cells #[.int .i64 op, .int .i64 0, .int .i64 0, .string { data := #[] }, .string { data := #[] }, .string n] 108))
 go_enter Tryz.func90, Tryz.ntmps90
 go_wp2_with fail
 refine (hne.out _).mono ?_
 rintro e w1 ⟨rfl, hb1⟩
 have HB1 := hid (HE.out.trans (hb1.mono HE.out.size))
 have hlt1 : w.heap.size < w1.heap.size := Nat.lt_of_lt_of_le (by simp) hb1.size
 have HX1 := hid ((HBX.out.below hb1).below (ext_alloc w1 (.cells #[.bool false, .bool false, .bool false, .bool false, .bool false] 146)))
 have hE2 := ext_alloc w1 (.cells #[.bool false, .bool false, .bool false, .bool false, .bool false] 146)
 have HB2 := hid (HB1.out.trans (hE2.mono HB1.out.size))
 have HFC := hid (show (w1.alloc (.cells #[.bool false, .bool false, .bool false, .bool false, .bool false] 146)).cell? ⟨w1.heap.size, 3, none⟩ = some (.bool false) ∧ (w1.alloc (.cells #[.bool false, .bool false, .bool false, .bool false, .bool false] 146)).cell? ⟨w1.heap.size, 4, none⟩ = some (.bool false) from ⟨by rw [World.cell?_alloc_at _ _ _ _ rfl]; rfl, by rw [World.cell?_alloc_at _ _ _ _ rfl]; rfl⟩)
 obtain ⟨c0, c1, c2, c3, c4, c5⟩ := HX1.out
 clear hb1 hE2
 go_wp2
 go_ret
 rw [HS.out]
 exact ⟨rfl, HB2.out⟩
set_option maxRecDepth 100000 in
set_option maxHeartbeats 4000000 in
theorem rgoodZ (op : Int) (w : World) (hne : Hid (∀ w, Calls Tryz.prog 112 #[.int .i64 op] w fun e w' => e = .returned (.agg #[.bool false, .bool false, .bool false, .bool false, .bool false]) ∧ Below w.heap.size w w')) (hkC : needC op = false) (hkN : needN op = false) (ho : 1 ≤ op ∧ op ≤ 28) (hJ : jumpsOp op = false) (h2 : op ≠ 2) (h4 : op ≠ 4) (h5 : op ≠ 5) (h9 : op ≠ 9) :
  Calls Tryz.prog 90 #[.agg #[.int .i64 op, .int .i64 0, .int .i64 0, .string { data := #[] }, .string { data := #[] }, .string { data := #[] }]] w fun e w' => e = .returned (.int .i64 (insFault ⟨op, 0, 0, { data := #[] }, { data := #[] }, { data := #[] }⟩)) ∧ Below w.heap.size w w' := by
 have HS : Hid (insFault ⟨op, 0, 0, { data := #[] }, { data := #[] }, { data := #[] }⟩ = if rangedOk ⟨op, 0, 0, { data := #[] }, { data := #[] }, { data := #[] }⟩ = false then 2 else if typedOk ⟨op, 0, 0, { data := #[] }, { data := #[] }, { data := #[] }⟩ = false ∨ (needC op = true ∧ nameOk ({ data := #[] } : ByteArray).data.toList = false) ∨ (needN op = true ∧ nameOk ({ data := #[] } : ByteArray).data.toList = false) then 1 else 0) := hid (by
  unfold insFault
  rw [if_neg (by simp only; omega), if_neg (by simp [bareOk])])
 have HR : Hid (rangedOk ⟨op, 0, 0, { data := #[] }, { data := #[] }, { data := #[] }⟩ = true) := hid (by
  unfold rangedOk
  simp only
  rw [if_neg h2, if_neg (by omega), if_neg h9, if_neg (by rw [hJ]; decide)])
 have g1 : ¬ op < 1 := by omega
 have g2 : ¬ (28 : Int) < op := by omega
 have k2 : (op == 2) = false := by simp [h2]
 have k4 : (op == 4) = false := by simp [h4]
 have k5 : (op == 5) = false := by simp [h5]
 have k9 : (op == 9) = false := by simp [h9]
 have k12 : (op == 12) = false := by
  cases h : op == 12 with
  | false => rfl
  | true => unfold jumpsOp at hJ; rw [h] at hJ; cases hJ
 have HJ := hid hJ
 clear ho hJ h2 h4 h5 h9
 have HBX := hid (Box.new w (⟨op, 0, 0, { data := #[] }, { data := #[] }, { data := #[] }⟩ : I) 108)
 have HE := hid (ext_alloc w (.cells #[.int .i64 op, .int .i64 0, .int .i64 0, .string { data := #[] }, .string { data := #[] }, .string { data := #[] }] 108))
 go_enter Tryz.func90, Tryz.ntmps90
 go_wp2_with fail
 refine (hne.out _).mono ?_
 rintro e w1 ⟨rfl, hb1⟩
 have HB1 := hid (HE.out.trans (hb1.mono HE.out.size))
 have hlt1 : w.heap.size < w1.heap.size := Nat.lt_of_lt_of_le (by simp) hb1.size
 have HX1 := hid ((HBX.out.below hb1).below (ext_alloc w1 (.cells #[.bool false, .bool false, .bool false, .bool false, .bool false] 146)))
 have hE2 := ext_alloc w1 (.cells #[.bool false, .bool false, .bool false, .bool false, .bool false] 146)
 have HB2 := hid (HB1.out.trans (hE2.mono HB1.out.size))
 have HFC := hid (show (w1.alloc (.cells #[.bool false, .bool false, .bool false, .bool false, .bool false] 146)).cell? ⟨w1.heap.size, 3, none⟩ = some (.bool false) ∧ (w1.alloc (.cells #[.bool false, .bool false, .bool false, .bool false, .bool false] 146)).cell? ⟨w1.heap.size, 4, none⟩ = some (.bool false) from ⟨by rw [World.cell?_alloc_at _ _ _ _ rfl]; rfl, by rw [World.cell?_alloc_at _ _ _ _ rfl]; rfl⟩)
 obtain ⟨c0, c1, c2, c3, c4, c5⟩ := HX1.out
 clear hb1 hE2
 go_wp2_with fail
 refine (rjumps_any op _).mono ?_
 rintro e wj ⟨rfl, rfl⟩
 rw [HJ.out]
 go_wp2_with fail
 refine (may_any op 0 0 { data := #[] } { data := #[] } { data := #[] } _ (by decide)).mono ?_
 rintro e w4 ⟨rfl, hb4⟩
 have HX4 := hid (HX1.out.below hb4)
 have HB4 := hid (HB2.out.trans (hb4.mono HB2.out.size))
 have HFC4 := hid (show w4.cell? ⟨w1.heap.size, 3, none⟩ = some (.bool false) ∧ w4.cell? ⟨w1.heap.size, 4, none⟩ = some (.bool false) from ⟨by rw [hb4.cell (World.block_lt_of_cell? _ _ HFC.out.1)]; exact HFC.out.1, by rw [hb4.cell (World.block_lt_of_cell? _ _ HFC.out.2)]; exact HFC.out.2⟩)
 clear c0 c1 c2 c3 c4 c5 hb4
 cases hT : typedOk ⟨op, 0, 0, { data := #[] }, { data := #[] }, { data := #[] }⟩ with
 | false =>
  have HZ : Hid (insFault ⟨op, 0, 0, { data := #[] }, { data := #[] }, { data := #[] }⟩ = 1) := hid (by rw [HS.out, if_neg (by rw [HR.out]; decide), if_pos (.inl hT)])
  clear hT
  go_wp2
  go_ret
  rw [HZ.out]
  exact ⟨rfl, HB4.out⟩
 | true =>
  have HT := hid hT
  clear hT
  obtain ⟨c0, c1, c2, c3, c4, c5⟩ := HX4.out
  obtain ⟨d3, d4⟩ := HFC4.out
  have HZ : Hid (insFault ⟨op, 0, 0, { data := #[] }, { data := #[] }, { data := #[] }⟩ = 0) := hid (by rw [HS.out, if_neg (by rw [HR.out]; decide)]; exact if_neg (fun h => h.elim (fun h => by rw [HT.out] at h; cases h) (fun h => h.elim (fun h => by have h := h.1; rw [hkC] at h; cases h) (fun h => by have h := h.1; rw [hkN] at h; cases h))))
  go_wp2
  go_ret
  rw [HZ.out]
  exact ⟨rfl, HB4.out⟩
theorem rclassZ (op a b : Int) (t c n : ByteArray) (w : World) (hne : Hid (∀ w, Calls Tryz.prog 112 #[.int .i64 op] w fun e w' => e = .returned (.agg #[.bool false, .bool false, .bool false, .bool false, .bool false]) ∧ Below w.heap.size w w')) (ho : 1 ≤ op ∧ op ≤ 28) (hkA : needA op = false) (hkB : needB op = false) (hkT : needT op = false) (hkC : needC op = false) (hkN : needN op = false) (hJ : jumpsOp op = false) (h2 : op ≠ 2) (h4 : op ≠ 4) (h5 : op ≠ 5) (h9 : op ≠ 9) (ht : t.size ≤ 10000000) (hc : c.size ≤ 9223372036854775807) (hn : n.size ≤ 9223372036854775807) :
  Calls Tryz.prog 90 #[.agg #[.int .i64 op, .int .i64 a, .int .i64 b, .string t, .string c, .string n]] w fun e w' => e = .returned (.int .i64 (insFault ⟨op, a, b, t, c, n⟩)) ∧ Below w.heap.size w w' := by
 by_cases zA : ¬ a = 0
 ·exact rbadZ_A op a b t c n w hne ho hkA zA
 obtain rfl : a = 0 := Classical.not_not.1 zA
 by_cases zB : ¬ b = 0
 ·exact rbadZ_B op b t c n w hne ho hkB zB
 obtain rfl : b = 0 := Classical.not_not.1 zB
 by_cases zT : t.data.toList ≠ []
 ·exact rbadZ_T op t c n w hne ho hkT zT
 obtain rfl : t = { data := #[] } := bs_of (Classical.not_not.1 zT)
 by_cases zC : c.data.toList ≠ []
 ·exact rbadZ_C op c n w hne ho hkC zC
 obtain rfl : c = { data := #[] } := bs_of (Classical.not_not.1 zC)
 by_cases zN : n.data.toList ≠ []
 ·exact rbadZ_N op n w hne ho hkN zN
 obtain rfl : n = { data := #[] } := bs_of (Classical.not_not.1 zN)
 exact rgoodZ op  w hne hkC hkN ho hJ h2 h4 h5 h9 
end Go.Proofs.YtlhobhnbgdicjaaGreatDoor.ins
