/- Instructions: the reference's InsFault (1). Condition: the type's text is shorter than ten million bytes. -/
import Derived.Test.YtlhobhnbgdicjaaGreatDoorZInsJ
import Derived.Test.YtlhobhnbgdicjaaGreatDoorZIns3R
import Derived.Test.YtlhobhnbgdicjaaGreatDoorZIns5
import Derived.Test.YtlhobhnbgdicjaaGreatDoorZName
namespace Go.Proofs.YtlhobhnbgdicjaaGreatDoor.ins
open Go.RowKit lib errs names descs
set_option maxRecDepth 100000 in
set_option maxHeartbeats 2000000 in
theorem rbadAT_B (op : Int) (a b : Int) (t c n : ByteArray) (w : World) (hne : Hid (∀ w, Calls Tryz.prog 112 #[.int .i64 op] w fun e w' => e = .returned (.agg #[.bool true, .bool false, .bool true, .bool false, .bool false]) ∧ Below w.heap.size w w')) (ho : 1 ≤ op ∧ op ≤ 28) (hkB : needB op = false) (hx : ¬ b = 0) :
  Calls Tryz.prog 90 #[.agg #[.int .i64 op, .int .i64 a, .int .i64 b, .string t, .string c, .string n]] w fun e w' => e = .returned (.int .i64 (insFault ⟨op, a, b, t, c, n⟩)) ∧ Below w.heap.size w w' := by
 have hx2 : ¬ b = 0 := hx
 have HS : Hid (insFault ⟨op, a, b, t, c, n⟩ = 1) := hid (by
  unfold insFault
  rw [if_neg (by simp only; omega), if_pos]
  simp [bareOk, hkB, hx2])
 have k1 : ¬ op < 1 := by omega
 have k2 : ¬ (28 : Int) < op := by omega
 have hxb : (b == 0) = false := by simp [hx]
 have hxm : (b != 0) = true := by simp [hx]
 clear hkB ho hx2
 have HBX := hid (Box.new w (⟨op, a, b, t, c, n⟩ : I) 108)
 have HE := hid (ext_alloc w (.cells #[.int .i64 op, .int .i64 a, .int .i64 b, .string t, .string c, .string n] 108))
 go_enter Tryz.func90, Tryz.ntmps90
 go_wp2_with fail
 refine (hne.out _).mono ?_
 rintro e w1 ⟨rfl, hb1⟩
 have HB1 := hid (HE.out.trans (hb1.mono HE.out.size))
 have hlt1 : w.heap.size < w1.heap.size := Nat.lt_of_lt_of_le (by simp) hb1.size
 have HX1 := hid ((HBX.out.below hb1).below (ext_alloc w1 (.cells #[.bool true, .bool false, .bool true, .bool false, .bool false] 146)))
 have hE2 := ext_alloc w1 (.cells #[.bool true, .bool false, .bool true, .bool false, .bool false] 146)
 have HB2 := hid (HB1.out.trans (hE2.mono HB1.out.size))
 have HFC := hid (show (w1.alloc (.cells #[.bool true, .bool false, .bool true, .bool false, .bool false] 146)).cell? ⟨w1.heap.size, 3, none⟩ = some (.bool false) ∧ (w1.alloc (.cells #[.bool true, .bool false, .bool true, .bool false, .bool false] 146)).cell? ⟨w1.heap.size, 4, none⟩ = some (.bool false) from ⟨by rw [World.cell?_alloc_at _ _ _ _ rfl]; rfl, by rw [World.cell?_alloc_at _ _ _ _ rfl]; rfl⟩)
 obtain ⟨c0, c1, c2, c3, c4, c5⟩ := HX1.out
 clear hb1 hE2
 go_wp2
 go_ret
 rw [HS.out]
 exact ⟨rfl, HB2.out⟩
set_option maxRecDepth 100000 in
set_option maxHeartbeats 2000000 in
theorem rbadAT_C (op : Int) (a : Int) (t c n : ByteArray) (w : World) (hne : Hid (∀ w, Calls Tryz.prog 112 #[.int .i64 op] w fun e w' => e = .returned (.agg #[.bool true, .bool false, .bool true, .bool false, .bool false]) ∧ Below w.heap.size w w')) (ho : 1 ≤ op ∧ op ≤ 28) (hkC : needC op = false) (hx : c.data.toList ≠ []) :
  Calls Tryz.prog 90 #[.agg #[.int .i64 op, .int .i64 a, .int .i64 0, .string t, .string c, .string n]] w fun e w' => e = .returned (.int .i64 (insFault ⟨op, a, 0, t, c, n⟩)) ∧ Below w.heap.size w w' := by
 have hx2 : ¬ c.data = #[] := fun h => hx (by rw [h])
 have HS : Hid (insFault ⟨op, a, 0, t, c, n⟩ = 1) := hid (by
  unfold insFault
  rw [if_neg (by simp only; omega), if_pos]
  simp [bareOk, hkC, hx2])
 have k1 : ¬ op < 1 := by omega
 have k2 : ¬ (28 : Int) < op := by omega
 have hxb : c.toList.isEmpty = false := by rw [ByteArray.toList_eq]; cases h : c.data.toList with
  | nil => exact absurd h hx
  | cons _ _ => rfl
 have hxl : ¬ c.toList = [] := fun h => hx (str_list.1 h)
 clear hkC ho hx2 hx
 have HBX := hid (Box.new w (⟨op, a, 0, t, c, n⟩ : I) 108)
 have HE := hid (ext_alloc w (.cells #[.int .i64 op, .int .i64 a, .int .i64 0, .string t, .string c, .string n] 108))
 go_enter Tryz.func90, Tryz.ntmps90
 go_wp2_with fail
 refine (hne.out _).mono ?_
 rintro e w1 ⟨rfl, hb1⟩
 have HB1 := hid (HE.out.trans (hb1.mono HE.out.size))
 have hlt1 : w.heap.size < w1.heap.size := Nat.lt_of_lt_of_le (by simp) hb1.size
 have HX1 := hid ((HBX.out.below hb1).below (ext_alloc w1 (.cells #[.bool true, .bool false, .bool true, .bool false, .bool false] 146)))
 have hE2 := ext_alloc w1 (.cells #[.bool true, .bool false, .bool true, .bool false, .bool false] 146)
 have HB2 := hid (HB1.out.trans (hE2.mono HB1.out.size))
 have HFC := hid (show (w1.alloc (.cells #[.bool true, .bool false, .bool true, .bool false, .bool false] 146)).cell? ⟨w1.heap.size, 3, none⟩ = some (.bool false) ∧ (w1.alloc (.cells #[.bool true, .bool false, .bool true, .bool false, .bool false] 146)).cell? ⟨w1.heap.size, 4, none⟩ = some (.bool false) from ⟨by rw [World.cell?_alloc_at _ _ _ _ rfl]; rfl, by rw [World.cell?_alloc_at _ _ _ _ rfl]; rfl⟩)
 obtain ⟨c0, c1, c2, c3, c4, c5⟩ := HX1.out
 clear hb1 hE2
 go_wp2
 go_ret
 rw [HS.out]
 exact ⟨rfl, HB2.out⟩
set_option maxRecDepth 100000 in
set_option maxHeartbeats 2000000 in
theorem rbadAT_N (op : Int) (a : Int) (t n : ByteArray) (w : World) (hne : Hid (∀ w, Calls Tryz.prog 112 #[.int .i64 op] w fun e w' => e = .returned (.agg #[.bool true, .bool false, .bool true, .bool false, .bool false]) ∧ Below w.heap.size w w')) (ho : 1 ≤ op ∧ op ≤ 28) (hkN : needN op = false) (hx : n.data.toList ≠ []) :
  Calls Tryz.prog 90 #[.agg #[.int .i64 op, .int .i64 a, .int .i64 0, .string t, .string { data := #[] }, .string n]] w fun e w' => e = .returned (.int .i64 (insFault ⟨op, a, 0, t, { data := #[] }, n⟩)) ∧ Below w.heap.size w w' := by
 have hx2 : ¬ n.data = #[] := fun h => hx (by rw [h])
 have HS : Hid (insFault ⟨op, a, 0, t, { data := #[] }, n⟩ = 1) := hid (by
  unfold insFault
  rw [if_neg (by simp only; omega), if_pos]
  simp [bareOk, hkN, hx2])
 have k1 : ¬ op < 1 := by omega
 have k2 : ¬ (28 : Int) < op := by omega
 have hxb : n.toList.isEmpty = false := by rw [ByteArray.toList_eq]; cases h : n.data.toList with
  | nil => exact absurd h hx
  | cons _ _ => rfl
 have hxl : ¬ n.toList = [] := fun h => hx (str_list.1 h)
 clear hkN ho hx2 hx
 have HBX := hid (Box.new w (⟨op, a, 0, t, { data := #[] }, n⟩ : I) 108)
 have HE := hid (ext_alloc w (.cells #[.int .i64 op, .int .i64 a, .int .i64 0, .string t, .string { data := #[] }, .string n] 108))
 go_enter Tryz.func90, Tryz.ntmps90
 go_wp2_with fail
 refine (hne.out _).mono ?_
 rintro e w1 ⟨rfl, hb1⟩
 have HB1 := hid (HE.out.trans (hb1.mono HE.out.size))
 have hlt1 : w.heap.size < w1.heap.size := Nat.lt_of_lt_of_le (by simp) hb1.size
 have HX1 := hid ((HBX.out.below hb1).below (ext_alloc w1 (.cells #[.bool true, .bool false, .bool true, .bool false, .bool false] 146)))
 have hE2 := ext_alloc w1 (.cells #[.bool true, .bool false, .bool true, .bool false, .bool false] 146)
 have HB2 := hid (HB1.out.trans (hE2.mono HB1.out.size))
 have HFC := hid (show (w1.alloc (.cells #[.bool true, .bool false, .bool true, .bool false, .bool false] 146)).cell? ⟨w1.heap.size, 3, none⟩ = some (.bool false) ∧ (w1.alloc (.cells #[.bool true, .bool false, .bool true, .bool false, .bool false] 146)).cell? ⟨w1.heap.size, 4, none⟩ = some (.bool false) from ⟨by rw [World.cell?_alloc_at _ _ _ _ rfl]; rfl, by rw [World.cell?_alloc_at _ _ _ _ rfl]; rfl⟩)
 obtain ⟨c0, c1, c2, c3, c4, c5⟩ := HX1.out
 clear hb1 hE2
 go_wp2
 go_ret
 rw [HS.out]
 exact ⟨rfl, HB2.out⟩
set_option maxRecDepth 100000 in
set_option maxHeartbeats 4000000 in
theorem rgoodAT2 (a : Int) (t : ByteArray) (w : World) (hne : Hid (∀ w, Calls Tryz.prog 112 #[.int .i64 2] w fun e w' => e = .returned (.agg #[.bool true, .bool false, .bool true, .bool false, .bool false]) ∧ Below w.heap.size w w'))  (ht : t.size ≤ 10000000) :
  Calls Tryz.prog 90 #[.agg #[.int .i64 2, .int .i64 a, .int .i64 0, .string t, .string { data := #[] }, .string { data := #[] }]] w fun e w' => e = .returned (.int .i64 (insFault ⟨2, a, 0, t, { data := #[] }, { data := #[] }⟩)) ∧ Below w.heap.size w w' := by
 have hkC : needC 2 = false := rfl
 have hkN : needN 2 = false := rfl
 have HS : Hid (insFault ⟨2, a, 0, t, { data := #[] }, { data := #[] }⟩ = if rangedOk ⟨2, a, 0, t, { data := #[] }, { data := #[] }⟩ = false then 2 else if typedOk ⟨2, a, 0, t, { data := #[] }, { data := #[] }⟩ = false ∨ (needC 2 = true ∧ nameOk ({ data := #[] } : ByteArray).data.toList = false) ∨ (needN 2 = true ∧ nameOk ({ data := #[] } : ByteArray).data.toList = false) then 1 else 0) := hid (by
  unfold insFault
  rw [if_neg (by simp only; omega), if_neg (by simp [bareOk, show needA 2 = true from rfl, show needT 2 = true from rfl])])
 have hR : rangedOk ⟨2, a, 0, t, { data := #[] }, { data := #[] }⟩ = ((t.data.toList != [73]) || decide (-2147483648 ≤ a ∧ a ≤ 2147483647)) := rfl
 by_cases hI : t.data.toList = [73]
 ·have gI : t.toList = [73] := str_list.2 hI
  by_cases hr : -2147483648 ≤ a ∧ a ≤ 2147483647
  ·have HR : Hid (rangedOk ⟨2, a, 0, t, { data := #[] }, { data := #[] }⟩ = true) := hid (by rw [hR]; simp [hr])
   have HW : Hid ((decide (-2147483648 ≤ a) && decide (a ≤ 2147483647)) = true) := hid (by simp [hr])
   clear hR hr hI
   have HBX := hid (Box.new w (⟨2, a, 0, t, { data := #[] }, { data := #[] }⟩ : I) 108)
   have HE := hid (ext_alloc w (.cells #[.int .i64 2, .int .i64 a, .int .i64 0, .string t, .string { data := #[] }, .string { data := #[] }] 108))
   go_enter Tryz.func90, Tryz.ntmps90
   go_wp2_with fail
   refine (hne.out _).mono ?_
   rintro e w1 ⟨rfl, hb1⟩
   have HB1 := hid (HE.out.trans (hb1.mono HE.out.size))
   have hlt1 : w.heap.size < w1.heap.size := Nat.lt_of_lt_of_le (by simp) hb1.size
   have HX1 := hid ((HBX.out.below hb1).below (ext_alloc w1 (.cells #[.bool true, .bool false, .bool true, .bool false, .bool false] 146)))
   have hE2 := ext_alloc w1 (.cells #[.bool true, .bool false, .bool true, .bool false, .bool false] 146)
   have HB2 := hid (HB1.out.trans (hE2.mono HB1.out.size))
   have HFC := hid (show (w1.alloc (.cells #[.bool true, .bool false, .bool true, .bool false, .bool false] 146)).cell? ⟨w1.heap.size, 3, none⟩ = some (.bool false) ∧ (w1.alloc (.cells #[.bool true, .bool false, .bool true, .bool false, .bool false] 146)).cell? ⟨w1.heap.size, 4, none⟩ = some (.bool false) from ⟨by rw [World.cell?_alloc_at _ _ _ _ rfl]; rfl, by rw [World.cell?_alloc_at _ _ _ _ rfl]; rfl⟩)
   obtain ⟨c0, c1, c2, c3, c4, c5⟩ := HX1.out
   clear hb1 hE2
   go_wp2_with fail
   refine (word32_any a _).mono ?_
   rintro e wr ⟨rfl, rfl⟩
   rw [HW.out]
   go_wp2_with fail
   refine (rjumps_any 2 _).mono ?_
   rintro e wj ⟨rfl, rfl⟩
   rw [show jumpsOp 2 = false from rfl]
   go_wp2_with fail
   refine (may_any 2 a 0 t { data := #[] } { data := #[] } _ ht).mono ?_
   rintro e w4 ⟨rfl, hb4⟩
   have HX4 := hid (HX1.out.below hb4)
   have HB4 := hid (HB2.out.trans (hb4.mono HB2.out.size))
   have HFC4 := hid (show w4.cell? ⟨w1.heap.size, 3, none⟩ = some (.bool false) ∧ w4.cell? ⟨w1.heap.size, 4, none⟩ = some (.bool false) from ⟨by rw [hb4.cell (World.block_lt_of_cell? _ _ HFC.out.1)]; exact HFC.out.1, by rw [hb4.cell (World.block_lt_of_cell? _ _ HFC.out.2)]; exact HFC.out.2⟩)
   clear c0 c1 c2 c3 c4 c5 hb4
   cases hT : typedOk ⟨2, a, 0, t, { data := #[] }, { data := #[] }⟩ with
   | false =>
    have HZ : Hid (insFault ⟨2, a, 0, t, { data := #[] }, { data := #[] }⟩ = 1) := hid (by rw [HS.out, if_neg (by rw [HR.out]; decide), if_pos (.inl hT)])
    clear hT
    go_wp2
    go_ret
    rw [HZ.out]
    exact ⟨rfl, HB4.out⟩
   | true =>
    have HT := hid hT
    clear hT
    obtain ⟨c0, c1, c2, c3, c4, c5⟩ := HX4.out
    obtain ⟨d3, d4⟩ := HFC4.out
    have HZ : Hid (insFault ⟨2, a, 0, t, { data := #[] }, { data := #[] }⟩ = 0) := hid (by rw [HS.out, if_neg (by rw [HR.out]; decide)]; exact if_neg (fun h => h.elim (fun h => by rw [HT.out] at h; cases h) (fun h => h.elim (fun h => by have h := h.1; rw [hkC] at h; cases h) (fun h => by have h := h.1; rw [hkN] at h; cases h))))
    go_wp2
    go_ret
    rw [HZ.out]
    exact ⟨rfl, HB4.out⟩
  ·have HZ : Hid (insFault ⟨2, a, 0, t, { data := #[] }, { data := #[] }⟩ = 2) := hid (by rw [HS.out, if_pos (by rw [hR, hI]; simp; omega)])
   have HW : Hid ((decide (-2147483648 ≤ a) && decide (a ≤ 2147483647)) = false) := hid (by simp; omega)
   clear hR hr hI
   have HBX := hid (Box.new w (⟨2, a, 0, t, { data := #[] }, { data := #[] }⟩ : I) 108)
   have HE := hid (ext_alloc w (.cells #[.int .i64 2, .int .i64 a, .int .i64 0, .string t, .string { data := #[] }, .string { data := #[] }] 108))
   go_enter Tryz.func90, Tryz.ntmps90
   go_wp2_with fail
   refine (hne.out _).mono ?_
   rintro e w1 ⟨rfl, hb1⟩
   have HB1 := hid (HE.out.trans (hb1.mono HE.out.size))
   have hlt1 : w.heap.size < w1.heap.size := Nat.lt_of_lt_of_le (by simp) hb1.size
   have HX1 := hid ((HBX.out.below hb1).below (ext_alloc w1 (.cells #[.bool true, .bool false, .bool true, .bool false, .bool false] 146)))
   have hE2 := ext_alloc w1 (.cells #[.bool true, .bool false, .bool true, .bool false, .bool false] 146)
   have HB2 := hid (HB1.out.trans (hE2.mono HB1.out.size))
   have HFC := hid (show (w1.alloc (.cells #[.bool true, .bool false, .bool true, .bool false, .bool false] 146)).cell? ⟨w1.heap.size, 3, none⟩ = some (.bool false) ∧ (w1.alloc (.cells #[.bool true, .bool false, .bool true, .bool false, .bool false] 146)).cell? ⟨w1.heap.size, 4, none⟩ = some (.bool false) from ⟨by rw [World.cell?_alloc_at _ _ _ _ rfl]; rfl, by rw [World.cell?_alloc_at _ _ _ _ rfl]; rfl⟩)
   obtain ⟨c0, c1, c2, c3, c4, c5⟩ := HX1.out
   clear hb1 hE2
   go_wp2_with fail
   refine (word32_any a _).mono ?_
   rintro e wr ⟨rfl, rfl⟩
   rw [HW.out]
   go_wp2
   go_ret
   rw [HZ.out]
   exact ⟨rfl, HB2.out⟩
 ·have gI : ¬ t.toList = [73] := fun h => hI (str_list.1 h)
  have HR : Hid (rangedOk ⟨2, a, 0, t, { data := #[] }, { data := #[] }⟩ = true) := hid (by rw [hR]; simp [hI])
  clear hR hI
  have HBX := hid (Box.new w (⟨2, a, 0, t, { data := #[] }, { data := #[] }⟩ : I) 108)
  have HE := hid (ext_alloc w (.cells #[.int .i64 2, .int .i64 a, .int .i64 0, .string t, .string { data := #[] }, .string { data := #[] }] 108))
  go_enter Tryz.func90, Tryz.ntmps90
  go_wp2_with fail
  refine (hne.out _).mono ?_
  rintro e w1 ⟨rfl, hb1⟩
  have HB1 := hid (HE.out.trans (hb1.mono HE.out.size))
  have hlt1 : w.heap.size < w1.heap.size := Nat.lt_of_lt_of_le (by simp) hb1.size
  have HX1 := hid ((HBX.out.below hb1).below (ext_alloc w1 (.cells #[.bool true, .bool false, .bool true, .bool false, .bool false] 146)))
  have hE2 := ext_alloc w1 (.cells #[.bool true, .bool false, .bool true, .bool false, .bool false] 146)
  have HB2 := hid (HB1.out.trans (hE2.mono HB1.out.size))
  have HFC := hid (show (w1.alloc (.cells #[.bool true, .bool false, .bool true, .bool false, .bool false] 146)).cell? ⟨w1.heap.size, 3, none⟩ = some (.bool false) ∧ (w1.alloc (.cells #[.bool true, .bool false, .bool true, .bool false, .bool false] 146)).cell? ⟨w1.heap.size, 4, none⟩ = some (.bool false) from ⟨by rw [World.cell?_alloc_at _ _ _ _ rfl]; rfl, by rw [World.cell?_alloc_at _ _ _ _ rfl]; rfl⟩)
  obtain ⟨c0, c1, c2, c3, c4, c5⟩ := HX1.out
  clear hb1 hE2
  go_wp2_with fail
  refine (rjumps_any 2 _).mono ?_
  rintro e wj ⟨rfl, rfl⟩
  rw [show jumpsOp 2 = false from rfl]
  go_wp2_with fail
  refine (may_any 2 a 0 t { data := #[] } { data := #[] } _ ht).mono ?_
  rintro e w4 ⟨rfl, hb4⟩
  have HX4 := hid (HX1.out.below hb4)
  have HB4 := hid (HB2.out.trans (hb4.mono HB2.out.size))
  have HFC4 := hid (show w4.cell? ⟨w1.heap.size, 3, none⟩ = some (.bool false) ∧ w4.cell? ⟨w1.heap.size, 4, none⟩ = some (.bool false) from ⟨by rw [hb4.cell (World.block_lt_of_cell? _ _ HFC.out.1)]; exact HFC.out.1, by rw [hb4.cell (World.block_lt_of_cell? _ _ HFC.out.2)]; exact HFC.out.2⟩)
  clear c0 c1 c2 c3 c4 c5 hb4
  cases hT : typedOk ⟨2, a, 0, t, { data := #[] }, { data := #[] }⟩ with
  | false =>
   have HZ : Hid (insFault ⟨2, a, 0, t, { data := #[] }, { data := #[] }⟩ = 1) := hid (by rw [HS.out, if_neg (by rw [HR.out]; decide), if_pos (.inl hT)])
   clear hT
   go_wp2
   go_ret
   rw [HZ.out]
   exact ⟨rfl, HB4.out⟩
  | true =>
   have HT := hid hT
   clear hT
   obtain ⟨c0, c1, c2, c3, c4, c5⟩ := HX4.out
   obtain ⟨d3, d4⟩ := HFC4.out
   have HZ : Hid (insFault ⟨2, a, 0, t, { data := #[] }, { data := #[] }⟩ = 0) := hid (by rw [HS.out, if_neg (by rw [HR.out]; decide)]; exact if_neg (fun h => h.elim (fun h => by rw [HT.out] at h; cases h) (fun h => h.elim (fun h => by have h := h.1; rw [hkC] at h; cases h) (fun h => by have h := h.1; rw [hkN] at h; cases h))))
   go_wp2
   go_ret
   rw [HZ.out]
   exact ⟨rfl, HB4.out⟩
set_option maxRecDepth 100000 in
set_option maxHeartbeats 4000000 in
theorem rgoodAT9 (a : Int) (t : ByteArray) (w : World) (hne : Hid (∀ w, Calls Tryz.prog 112 #[.int .i64 9] w fun e w' => e = .returned (.agg #[.bool true, .bool false, .bool true, .bool false, .bool false]) ∧ Below w.heap.size w w'))  (ht : t.size ≤ 10000000) :
  Calls Tryz.prog 90 #[.agg #[.int .i64 9, .int .i64 a, .int .i64 0, .string t, .string { data := #[] }, .string { data := #[] }]] w fun e w' => e = .returned (.int .i64 (insFault ⟨9, a, 0, t, { data := #[] }, { data := #[] }⟩)) ∧ Below w.heap.size w w' := by
 have hkC : needC 9 = false := rfl
 have hkN : needN 9 = false := rfl
 have HS : Hid (insFault ⟨9, a, 0, t, { data := #[] }, { data := #[] }⟩ = if rangedOk ⟨9, a, 0, t, { data := #[] }, { data := #[] }⟩ = false then 2 else if typedOk ⟨9, a, 0, t, { data := #[] }, { data := #[] }⟩ = false ∨ (needC 9 = true ∧ nameOk ({ data := #[] } : ByteArray).data.toList = false) ∨ (needN 9 = true ∧ nameOk ({ data := #[] } : ByteArray).data.toList = false) then 1 else 0) := hid (by
  unfold insFault
  rw [if_neg (by simp only; omega), if_neg (by simp [bareOk, show needA 9 = true from rfl, show needT 9 = true from rfl])])
 have hR : rangedOk ⟨9, a, 0, t, { data := #[] }, { data := #[] }⟩ = decide (1 ≤ a ∧ a ≤ 12) := rfl
 by_cases ha1 : a < 1
 ·have HZ : Hid (insFault ⟨9, a, 0, t, { data := #[] }, { data := #[] }⟩ = 2) := hid (by rw [HS.out, if_pos (by rw [hR]; simp; omega)])
  clear hR
  have HBX := hid (Box.new w (⟨9, a, 0, t, { data := #[] }, { data := #[] }⟩ : I) 108)
  have HE := hid (ext_alloc w (.cells #[.int .i64 9, .int .i64 a, .int .i64 0, .string t, .string { data := #[] }, .string { data := #[] }] 108))
  go_enter Tryz.func90, Tryz.ntmps90
  go_wp2_with fail
  refine (hne.out _).mono ?_
  rintro e w1 ⟨rfl, hb1⟩
  have HB1 := hid (HE.out.trans (hb1.mono HE.out.size))
  have hlt1 : w.heap.size < w1.heap.size := Nat.lt_of_lt_of_le (by simp) hb1.size
  have HX1 := hid ((HBX.out.below hb1).below (ext_alloc w1 (.cells #[.bool true, .bool false, .bool true, .bool false, .bool false] 146)))
  have hE2 := ext_alloc w1 (.cells #[.bool true, .bool false, .bool true, .bool false, .bool false] 146)
  have HB2 := hid (HB1.out.trans (hE2.mono HB1.out.size))
  have HFC := hid (show (w1.alloc (.cells #[.bool true, .bool false, .bool true, .bool false, .bool false] 146)).cell? ⟨w1.heap.size, 3, none⟩ = some (.bool false) ∧ (w1.alloc (.cells #[.bool true, .bool false, .bool true, .bool false, .bool false] 146)).cell? ⟨w1.heap.size, 4, none⟩ = some (.bool false) from ⟨by rw [World.cell?_alloc_at _ _ _ _ rfl]; rfl, by rw [World.cell?_alloc_at _ _ _ _ rfl]; rfl⟩)
  obtain ⟨c0, c1, c2, c3, c4, c5⟩ := HX1.out
  clear hb1 hE2
  go_wp2_with fail
  refine (rjumps_any 9 _).mono ?_
  rintro e wj ⟨rfl, rfl⟩
  rw [show jumpsOp 9 = false from rfl]
  go_wp2
  go_ret
  rw [HZ.out]
  exact ⟨rfl, HB2.out⟩
 ·by_cases ha2 : 12 < a
  ·have HZ : Hid (insFault ⟨9, a, 0, t, { data := #[] }, { data := #[] }⟩ = 2) := hid (by rw [HS.out, if_pos (by rw [hR]; simp; omega)])
   clear hR
   have HBX := hid (Box.new w (⟨9, a, 0, t, { data := #[] }, { data := #[] }⟩ : I) 108)
   have HE := hid (ext_alloc w (.cells #[.int .i64 9, .int .i64 a, .int .i64 0, .string t, .string { data := #[] }, .string { data := #[] }] 108))
   go_enter Tryz.func90, Tryz.ntmps90
   go_wp2_with fail
   refine (hne.out _).mono ?_
   rintro e w1 ⟨rfl, hb1⟩
   have HB1 := hid (HE.out.trans (hb1.mono HE.out.size))
   have hlt1 : w.heap.size < w1.heap.size := Nat.lt_of_lt_of_le (by simp) hb1.size
   have HX1 := hid ((HBX.out.below hb1).below (ext_alloc w1 (.cells #[.bool true, .bool false, .bool true, .bool false, .bool false] 146)))
   have hE2 := ext_alloc w1 (.cells #[.bool true, .bool false, .bool true, .bool false, .bool false] 146)
   have HB2 := hid (HB1.out.trans (hE2.mono HB1.out.size))
   have HFC := hid (show (w1.alloc (.cells #[.bool true, .bool false, .bool true, .bool false, .bool false] 146)).cell? ⟨w1.heap.size, 3, none⟩ = some (.bool false) ∧ (w1.alloc (.cells #[.bool true, .bool false, .bool true, .bool false, .bool false] 146)).cell? ⟨w1.heap.size, 4, none⟩ = some (.bool false) from ⟨by rw [World.cell?_alloc_at _ _ _ _ rfl]; rfl, by rw [World.cell?_alloc_at _ _ _ _ rfl]; rfl⟩)
   obtain ⟨c0, c1, c2, c3, c4, c5⟩ := HX1.out
   clear hb1 hE2
   go_wp2_with fail
   refine (rjumps_any 9 _).mono ?_
   rintro e wj ⟨rfl, rfl⟩
   rw [show jumpsOp 9 = false from rfl]
   go_wp2
   go_ret
   rw [HZ.out]
   exact ⟨rfl, HB2.out⟩
  ·have HR : Hid (rangedOk ⟨9, a, 0, t, { data := #[] }, { data := #[] }⟩ = true) := hid (by rw [hR]; simp; omega)
   clear hR
   have HBX := hid (Box.new w (⟨9, a, 0, t, { data := #[] }, { data := #[] }⟩ : I) 108)
   have HE := hid (ext_alloc w (.cells #[.int .i64 9, .int .i64 a, .int .i64 0, .string t, .string { data := #[] }, .string { data := #[] }] 108))
   go_enter Tryz.func90, Tryz.ntmps90
   go_wp2_with fail
   refine (hne.out _).mono ?_
   rintro e w1 ⟨rfl, hb1⟩
   have HB1 := hid (HE.out.trans (hb1.mono HE.out.size))
   have hlt1 : w.heap.size < w1.heap.size := Nat.lt_of_lt_of_le (by simp) hb1.size
   have HX1 := hid ((HBX.out.below hb1).below (ext_alloc w1 (.cells #[.bool true, .bool false, .bool true, .bool false, .bool false] 146)))
   have hE2 := ext_alloc w1 (.cells #[.bool true, .bool false, .bool true, .bool false, .bool false] 146)
   have HB2 := hid (HB1.out.trans (hE2.mono HB1.out.size))
   have HFC := hid (show (w1.alloc (.cells #[.bool true, .bool false, .bool true, .bool false, .bool false] 146)).cell? ⟨w1.heap.size, 3, none⟩ = some (.bool false) ∧ (w1.alloc (.cells #[.bool true, .bool false, .bool true, .bool false, .bool false] 146)).cell? ⟨w1.heap.size, 4, none⟩ = some (.bool false) from ⟨by rw [World.cell?_alloc_at _ _ _ _ rfl]; rfl, by rw [World.cell?_alloc_at _ _ _ _ rfl]; rfl⟩)
   obtain ⟨c0, c1, c2, c3, c4, c5⟩ := HX1.out
   clear hb1 hE2
   go_wp2_with fail
   refine (rjumps_any 9 _).mono ?_
   rintro e wj ⟨rfl, rfl⟩
   rw [show jumpsOp 9 = false from rfl]
   go_wp2_with fail
   refine (may_any 9 a 0 t { data := #[] } { data := #[] } _ ht).mono ?_
   rintro e w4 ⟨rfl, hb4⟩
   have HX4 := hid (HX1.out.below hb4)
   have HB4 := hid (HB2.out.trans (hb4.mono HB2.out.size))
   have HFC4 := hid (show w4.cell? ⟨w1.heap.size, 3, none⟩ = some (.bool false) ∧ w4.cell? ⟨w1.heap.size, 4, none⟩ = some (.bool false) from ⟨by rw [hb4.cell (World.block_lt_of_cell? _ _ HFC.out.1)]; exact HFC.out.1, by rw [hb4.cell (World.block_lt_of_cell? _ _ HFC.out.2)]; exact HFC.out.2⟩)
   clear c0 c1 c2 c3 c4 c5 hb4
   cases hT : typedOk ⟨9, a, 0, t, { data := #[] }, { data := #[] }⟩ with
   | false =>
    have HZ : Hid (insFault ⟨9, a, 0, t, { data := #[] }, { data := #[] }⟩ = 1) := hid (by rw [HS.out, if_neg (by rw [HR.out]; decide), if_pos (.inl hT)])
    clear hT
    go_wp2
    go_ret
    rw [HZ.out]
    exact ⟨rfl, HB4.out⟩
   | true =>
    have HT := hid hT
    clear hT
    obtain ⟨c0, c1, c2, c3, c4, c5⟩ := HX4.out
    obtain ⟨d3, d4⟩ := HFC4.out
    have HZ : Hid (insFault ⟨9, a, 0, t, { data := #[] }, { data := #[] }⟩ = 0) := hid (by rw [HS.out, if_neg (by rw [HR.out]; decide)]; exact if_neg (fun h => h.elim (fun h => by rw [HT.out] at h; cases h) (fun h => h.elim (fun h => by have h := h.1; rw [hkC] at h; cases h) (fun h => by have h := h.1; rw [hkN] at h; cases h))))
    go_wp2
    go_ret
    rw [HZ.out]
    exact ⟨rfl, HB4.out⟩
theorem rclassAT (op a b : Int) (t c n : ByteArray) (w : World) (hne : Hid (∀ w, Calls Tryz.prog 112 #[.int .i64 op] w fun e w' => e = .returned (.agg #[.bool true, .bool false, .bool true, .bool false, .bool false]) ∧ Below w.heap.size w w')) (ho : 1 ≤ op ∧ op ≤ 28) (hkB : needB op = false) (hkC : needC op = false) (hkN : needN op = false) (hop : op = 2 ∨ op = 9) (ht : t.size ≤ 10000000) (hc : c.size ≤ 9223372036854775807) (hn : n.size ≤ 9223372036854775807) :
  Calls Tryz.prog 90 #[.agg #[.int .i64 op, .int .i64 a, .int .i64 b, .string t, .string c, .string n]] w fun e w' => e = .returned (.int .i64 (insFault ⟨op, a, b, t, c, n⟩)) ∧ Below w.heap.size w w' := by
 by_cases zB : ¬ b = 0
 ·exact rbadAT_B op a b t c n w hne ho hkB zB
 obtain rfl : b = 0 := Classical.not_not.1 zB
 by_cases zC : c.data.toList ≠ []
 ·exact rbadAT_C op a t c n w hne ho hkC zC
 obtain rfl : c = { data := #[] } := bs_of (Classical.not_not.1 zC)
 by_cases zN : n.data.toList ≠ []
 ·exact rbadAT_N op a t n w hne ho hkN zN
 obtain rfl : n = { data := #[] } := bs_of (Classical.not_not.1 zN)
 rcases hop with rfl | rfl
 ·exact rgoodAT2 a t w hne ht
 ·exact rgoodAT9 a t w hne ht
set_option maxRecDepth 100000 in
set_option maxHeartbeats 2000000 in
theorem rbadC_A (op : Int) (a b : Int) (t c n : ByteArray) (w : World) (hne : Hid (∀ w, Calls Tryz.prog 112 #[.int .i64 op] w fun e w' => e = .returned (.agg #[.bool false, .bool false, .bool false, .bool true, .bool false]) ∧ Below w.heap.size w w')) (ho : 1 ≤ op ∧ op ≤ 28) (hkA : needA op = false) (hx : ¬ a = 0) :
  Calls Tryz.prog 90 #[.agg #[.int .i64 op, .int .i64 a, .int .i64 b, .string t, .string c, .string n]] w fun e w' => e = .returned (.int .i64 (insFault ⟨op, a, b, t, c, n⟩)) ∧ Below w.heap.size w w' := by
 have hx2 : ¬ a = 0 := hx
 have HS : Hid (insFault ⟨op, a, b, t, c, n⟩ = 1) := hid (by
  unfold insFault
  rw [if_neg (by simp only; omega), if_pos]
  simp [bareOk, hkA, hx2])
 have k1 : ¬ op < 1 := by omega
 have k2 : ¬ (28 : Int) < op := by omega
 have hxb : (a == 0) = false := by simp [hx]
 have hxm : (a != 0) = true := by simp [hx]
 clear hkA ho hx2
 have HBX := hid (Box.new w (⟨op, a, b, t, c, n⟩ : I) 108)
 have HE := hid (ext_alloc w (.cells #[.int .i64 op, .int .i64 a, .int .i64 b, .string t, .string c, .string n] 108))
 go_enter Tryz.func90, Tryz.ntmps90
 go_wp2_with fail
 refine (hne.out _).mono ?_
 rintro e w1 ⟨rfl, hb1⟩
 have HB1 := hid (HE.out.trans (hb1.mono HE.out.size))
 have hlt1 : w.heap.size < w1.heap.size := Nat.lt_of_lt_of_le (by simp) hb1.size
 have HX1 := hid ((HBX.out.below hb1).below (ext_alloc w1 (.cells #[.bool false, .bool false, .bool false, .bool true, .bool false] 146)))
 have hE2 := ext_alloc w1 (.cells #[.bool false, .bool false, .bool false, .bool true, .bool false] 146)
 have HB2 := hid (HB1.out.trans (hE2.mono HB1.out.size))
 have HFC := hid (show (w1.alloc (.cells #[.bool false, .bool false, .bool false, .bool true, .bool false] 146)).cell? ⟨w1.heap.size, 3, none⟩ = some (.bool true) ∧ (w1.alloc (.cells #[.bool false, .bool false, .bool false, .bool true, .bool false] 146)).cell? ⟨w1.heap.size, 4, none⟩ = some (.bool false) from ⟨by rw [World.cell?_alloc_at _ _ _ _ rfl]; rfl, by rw [World.cell?_alloc_at _ _ _ _ rfl]; rfl⟩)
 obtain ⟨c0, c1, c2, c3, c4, c5⟩ := HX1.out
 clear hb1 hE2
 go_wp2
 go_ret
 rw [HS.out]
 exact ⟨rfl, HB2.out⟩
set_option maxRecDepth 100000 in
set_option maxHeartbeats 2000000 in
theorem rbadC_B (op : Int) (b : Int) (t c n : ByteArray) (w : World) (hne : Hid (∀ w, Calls Tryz.prog 112 #[.int .i64 op] w fun e w' => e = .returned (.agg #[.bool false, .bool false, .bool false, .bool true, .bool false]) ∧ Below w.heap.size w w')) (ho : 1 ≤ op ∧ op ≤ 28) (hkB : needB op = false) (hx : ¬ b = 0) :
  Calls Tryz.prog 90 #[.agg #[.int .i64 op, .int .i64 0, .int .i64 b, .string t, .string c, .string n]] w fun e w' => e = .returned (.int .i64 (insFault ⟨op, 0, b, t, c, n⟩)) ∧ Below w.heap.size w w' := by
 have hx2 : ¬ b = 0 := hx
 have HS : Hid (insFault ⟨op, 0, b, t, c, n⟩ = 1) := hid (by
  unfold insFault
  rw [if_neg (by simp only; omega), if_pos]
  simp [bareOk, hkB, hx2])
 have k1 : ¬ op < 1 := by omega
 have k2 : ¬ (28 : Int) < op := by omega
 have hxb : (b == 0) = false := by simp [hx]
 have hxm : (b != 0) = true := by simp [hx]
 clear hkB ho hx2
 have HBX := hid (Box.new w (⟨op, 0, b, t, c, n⟩ : I) 108)
 have HE := hid (ext_alloc w (.cells #[.int .i64 op, .int .i64 0, .int .i64 b, .string t, .string c, .string n] 108))
 go_enter Tryz.func90, Tryz.ntmps90
 go_wp2_with fail
 refine (hne.out _).mono ?_
 rintro e w1 ⟨rfl, hb1⟩
 have HB1 := hid (HE.out.trans (hb1.mono HE.out.size))
 have hlt1 : w.heap.size < w1.heap.size := Nat.lt_of_lt_of_le (by simp) hb1.size
 have HX1 := hid ((HBX.out.below hb1).below (ext_alloc w1 (.cells #[.bool false, .bool false, .bool false, .bool true, .bool false] 146)))
 have hE2 := ext_alloc w1 (.cells #[.bool false, .bool false, .bool false, .bool true, .bool false] 146)
 have HB2 := hid (HB1.out.trans (hE2.mono HB1.out.size))
 have HFC := hid (show (w1.alloc (.cells #[.bool false, .bool false, .bool false, .bool true, .bool false] 146)).cell? ⟨w1.heap.size, 3, none⟩ = some (.bool true) ∧ (w1.alloc (.cells #[.bool false, .bool false, .bool false, .bool true, .bool false] 146)).cell? ⟨w1.heap.size, 4, none⟩ = some (.bool false) from ⟨by rw [World.cell?_alloc_at _ _ _ _ rfl]; rfl, by rw [World.cell?_alloc_at _ _ _ _ rfl]; rfl⟩)
 obtain ⟨c0, c1, c2, c3, c4, c5⟩ := HX1.out
 clear hb1 hE2
 go_wp2
 go_ret
 rw [HS.out]
 exact ⟨rfl, HB2.out⟩
set_option maxRecDepth 100000 in
set_option maxHeartbeats 2000000 in
theorem rbadC_T (op : Int) (t c n : ByteArray) (w : World) (hne : Hid (∀ w, Calls Tryz.prog 112 #[.int .i64 op] w fun e w' => e = .returned (.agg #[.bool false, .bool false, .bool false, .bool true, .bool false]) ∧ Below w.heap.size w w')) (ho : 1 ≤ op ∧ op ≤ 28) (hkT : needT op = false) (hx : t.data.toList ≠ []) :
  Calls Tryz.prog 90 #[.agg #[.int .i64 op, .int .i64 0, .int .i64 0, .string t, .string c, .string n]] w fun e w' => e = .returned (.int .i64 (insFault ⟨op, 0, 0, t, c, n⟩)) ∧ Below w.heap.size w w' := by
 have hx2 : ¬ t.data = #[] := fun h => hx (by rw [h])
 have HS : Hid (insFault ⟨op, 0, 0, t, c, n⟩ = 1) := hid (by
  unfold insFault
  rw [if_neg (by simp only; omega), if_pos]
  simp [bareOk, hkT, hx2])
 have k1 : ¬ op < 1 := by omega
 have k2 : ¬ (28 : Int) < op := by omega
 have hxb : t.toList.isEmpty = false := by rw [ByteArray.toList_eq]; cases h : t.data.toList with
  | nil => exact absurd h hx
  | cons _ _ => rfl
 have hxl : ¬ t.toList = [] := fun h => hx (str_list.1 h)
 clear hkT ho hx2 hx
 have HBX := hid (Box.new w (⟨op, 0, 0, t, c, n⟩ : I) 108)
 have HE := hid (ext_alloc w (.cells #[.int .i64 op, .int .i64 0, .int .i64 0, .string t, .string c, .string n] 108))
 go_enter Tryz.func90, Tryz.ntmps90
 go_wp2_with fail
 refine (hne.out _).mono ?_
 rintro e w1 ⟨rfl, hb1⟩
 have HB1 := hid (HE.out.trans (hb1.mono HE.out.size))
 have hlt1 : w.heap.size < w1.heap.size := Nat.lt_of_lt_of_le (by simp) hb1.size
 have HX1 := hid ((HBX.out.below hb1).below (ext_alloc w1 (.cells #[.bool false, .bool false, .bool false, .bool true, .bool false] 146)))
 have hE2 := ext_alloc w1 (.cells #[.bool false, .bool false, .bool false, .bool true, .bool false] 146)
 have HB2 := hid (HB1.out.trans (hE2.mono HB1.out.size))
 have HFC := hid (show (w1.alloc (.cells #[.bool false, .bool false, .bool false, .bool true, .bool false] 146)).cell? ⟨w1.heap.size, 3, none⟩ = some (.bool true) ∧ (w1.alloc (.cells #[.bool false, .bool false, .bool false, .bool true, .bool false] 146)).cell? ⟨w1.heap.size, 4, none⟩ = some (.bool false) from ⟨by rw [World.cell?_alloc_at _ _ _ _ rfl]; rfl, by rw [World.cell?_alloc_at _ _ _ _ rfl]; rfl⟩)
 obtain ⟨c0, c1, c2, c3, c4, c5⟩ := HX1.out
 clear hb1 hE2
 go_wp2
 go_ret
 rw [HS.out]
 exact ⟨rfl, HB2.out⟩
set_option maxRecDepth 100000 in
set_option maxHeartbeats 2000000 in
theorem rbadC_N (op : Int) (c n : ByteArray) (w : World) (hne : Hid (∀ w, Calls Tryz.prog 112 #[.int .i64 op] w fun e w' => e = .returned (.agg #[.bool false, .bool false, .bool false, .bool true, .bool false]) ∧ Below w.heap.size w w')) (ho : 1 ≤ op ∧ op ≤ 28) (hkN : needN op = false) (hx : n.data.toList ≠ []) :
  Calls Tryz.prog 90 #[.agg #[.int .i64 op, .int .i64 0, .int .i64 0, .string { data := #[] }, .string c, .string n]] w fun e w' => e = .returned (.int .i64 (insFault ⟨op, 0, 0, { data := #[] }, c, n⟩)) ∧ Below w.heap.size w w' := by
 have hx2 : ¬ n.data = #[] := fun h => hx (by rw [h])
 have HS : Hid (insFault ⟨op, 0, 0, { data := #[] }, c, n⟩ = 1) := hid (by
  unfold insFault
  rw [if_neg (by simp only; omega), if_pos]
  simp [bareOk, hkN, hx2])
 have k1 : ¬ op < 1 := by omega
 have k2 : ¬ (28 : Int) < op := by omega
 have hxb : n.toList.isEmpty = false := by rw [ByteArray.toList_eq]; cases h : n.data.toList with
  | nil => exact absurd h hx
  | cons _ _ => rfl
 have hxl : ¬ n.toList = [] := fun h => hx (str_list.1 h)
 clear hkN ho hx2 hx
 have HBX := hid (Box.new w (⟨op, 0, 0, { data := #[] }, c, n⟩ : I) 108)
 have HE := hid (ext_alloc w (.cells #[.int .i64 op, .int .i64 0, .int .i64 0, .string { data := #[] }, .string c, .string n] 108))
 go_enter Tryz.func90, Tryz.ntmps90
 go_wp2_with fail
 refine (hne.out _).mono ?_
 rintro e w1 ⟨rfl, hb1⟩
 have HB1 := hid (HE.out.trans (hb1.mono HE.out.size))
 have hlt1 : w.heap.size < w1.heap.size := Nat.lt_of_lt_of_le (by simp) hb1.size
 have HX1 := hid ((HBX.out.below hb1).below (ext_alloc w1 (.cells #[.bool false, .bool false, .bool false, .bool true, .bool false] 146)))
 have hE2 := ext_alloc w1 (.cells #[.bool false, .bool false, .bool false, .bool true, .bool false] 146)
 have HB2 := hid (HB1.out.trans (hE2.mono HB1.out.size))
 have HFC := hid (show (w1.alloc (.cells #[.bool false, .bool false, .bool false, .bool true, .bool false] 146)).cell? ⟨w1.heap.size, 3, none⟩ = some (.bool true) ∧ (w1.alloc (.cells #[.bool false, .bool false, .bool false, .bool true, .bool false] 146)).cell? ⟨w1.heap.size, 4, none⟩ = some (.bool false) from ⟨by rw [World.cell?_alloc_at _ _ _ _ rfl]; rfl, by rw [World.cell?_alloc_at _ _ _ _ rfl]; rfl⟩)
 obtain ⟨c0, c1, c2, c3, c4, c5⟩ := HX1.out
 clear hb1 hE2
 go_wp2
 go_ret
 rw [HS.out]
 exact ⟨rfl, HB2.out⟩
set_option maxRecDepth 100000 in
set_option maxHeartbeats 4000000 in
theorem rgoodC (op : Int) (c : ByteArray) (w : World) (hne : Hid (∀ w, Calls Tryz.prog 112 #[.int .i64 op] w fun e w' => e = .returned (.agg #[.bool false, .bool false, .bool false, .bool true, .bool false]) ∧ Below w.heap.size w w')) (hkC : needC op = true) (hkN : needN op = false) (ho : 1 ≤ op ∧ op ≤ 28) (hJ : jumpsOp op = false) (h2 : op ≠ 2) (h4 : op ≠ 4) (h5 : op ≠ 5) (h9 : op ≠ 9) (hc : c.size ≤ 9223372036854775807) :
  Calls Tryz.prog 90 #[.agg #[.int .i64 op, .int .i64 0, .int .i64 0, .string { data := #[] }, .string c, .string { data := #[] }]] w fun e w' => e = .returned (.int .i64 (insFault ⟨op, 0, 0, { data := #[] }, c, { data := #[] }⟩)) ∧ Below w.heap.size w w' := by
 have HS : Hid (insFault ⟨op, 0, 0, { data := #[] }, c, { data := #[] }⟩ = if rangedOk ⟨op, 0, 0, { data := #[] }, c, { data := #[] }⟩ = false then 2 else if typedOk ⟨op, 0, 0, { data := #[] }, c, { data := #[] }⟩ = false ∨ (needC op = true ∧ nameOk (c : ByteArray).data.toList = false) ∨ (needN op = true ∧ nameOk ({ data := #[] } : ByteArray).data.toList = false) then 1 else 0) := hid (by
  unfold insFault
  rw [if_neg (by simp only; omega), if_neg (by simp [bareOk, hkC])])
 have HR : Hid (rangedOk ⟨op, 0, 0, { data := #[] }, c, { data := #[] }⟩ = true) := hid (by
  unfold rangedOk
  simp only
  rw [if_neg h2, if_neg (by omega), if_neg h9, if_neg (by rw [hJ]; decide)])
 have g1 : ¬ op < 1 := by omega
 have g2 : ¬ (28 : Int) < op := by omega
 have k2 : (op == 2) = false := by simp [h2]
 have k4 : (op == 4) = false := by simp [h4]
 have k5 : (op == 5) = false := by simp [h5]
 have k9 : (op == 9) = false := by simp [h9]
 have k12 : (op == 12) = false := by
  cases h : op == 12 with
  | false => rfl
  | true => unfold jumpsOp at hJ; rw [h] at hJ; cases hJ
 have HJ := hid hJ
 clear ho hJ h2 h4 h5 h9
 have HBX := hid (Box.new w (⟨op, 0, 0, { data := #[] }, c, { data := #[] }⟩ : I) 108)
 have HE := hid (ext_alloc w (.cells #[.int .i64 op, .int .i64 0, .int .i64 0, .string { data := #[] }, .string c, .string { data := #[] }] 108))
 go_enter Tryz.func90, Tryz.ntmps90
 go_wp2_with fail
 refine (hne.out _).mono ?_
 rintro e w1 ⟨rfl, hb1⟩
 have HB1 := hid (HE.out.trans (hb1.mono HE.out.size))
 have hlt1 : w.heap.size < w1.heap.size := Nat.lt_of_lt_of_le (by simp) hb1.size
 have HX1 := hid ((HBX.out.below hb1).below (ext_alloc w1 (.cells #[.bool false, .bool false, .bool false, .bool true, .bool false] 146)))
 have hE2 := ext_alloc w1 (.cells #[.bool false, .bool false, .bool false, .bool true, .bool false] 146)
 have HB2 := hid (HB1.out.trans (hE2.mono HB1.out.size))
 have HFC := hid (show (w1.alloc (.cells #[.bool false, .bool false, .bool false, .bool true, .bool false] 146)).cell? ⟨w1.heap.size, 3, none⟩ = some (.bool true) ∧ (w1.alloc (.cells #[.bool false, .bool false, .bool false, .bool true, .bool false] 146)).cell? ⟨w1.heap.size, 4, none⟩ = some (.bool false) from ⟨by rw [World.cell?_alloc_at _ _ _ _ rfl]; rfl, by rw [World.cell?_alloc_at _ _ _ _ rfl]; rfl⟩)
 obtain ⟨c0, c1, c2, c3, c4, c5⟩ := HX1.out
 clear hb1 hE2
 go_wp2_with fail
 refine (rjumps_any op _).mono ?_
 rintro e wj ⟨rfl, rfl⟩
 rw [HJ.out]
 go_wp2_with fail
 refine (may_any op 0 0 { data := #[] } c { data := #[] } _ (by decide)).mono ?_
 rintro e w4 ⟨rfl, hb4⟩
 have HX4 := hid (HX1.out.below hb4)
 have HB4 := hid (HB2.out.trans (hb4.mono HB2.out.size))
 have HFC4 := hid (show w4.cell? ⟨w1.heap.size, 3, none⟩ = some (.bool true) ∧ w4.cell? ⟨w1.heap.size, 4, none⟩ = some (.bool false) from ⟨by rw [hb4.cell (World.block_lt_of_cell? _ _ HFC.out.1)]; exact HFC.out.1, by rw [hb4.cell (World.block_lt_of_cell? _ _ HFC.out.2)]; exact HFC.out.2⟩)
 clear c0 c1 c2 c3 c4 c5 hb4
 cases hT : typedOk ⟨op, 0, 0, { data := #[] }, c, { data := #[] }⟩ with
 | false =>
  have HZ : Hid (insFault ⟨op, 0, 0, { data := #[] }, c, { data := #[] }⟩ = 1) := hid (by rw [HS.out, if_neg (by rw [HR.out]; decide), if_pos (.inl hT)])
  clear hT
  go_wp2
  go_ret
  rw [HZ.out]
  exact ⟨rfl, HB4.out⟩
 | true =>
  have HT := hid hT
  clear hT
  obtain ⟨c0, c1, c2, c3, c4, c5⟩ := HX4.out
  obtain ⟨d3, d4⟩ := HFC4.out
  cases hC : nameOk c.data.toList with
  | false =>
   have HZ : Hid (insFault ⟨op, 0, 0, { data := #[] }, c, { data := #[] }⟩ = 1) := hid (by rw [HS.out, if_neg (by rw [HR.out]; decide), if_pos (.inr (.inl ⟨hkC, hC⟩))])
   have HC := hid hC
   clear hC
   go_wp2_with fail
   refine (isName_any c _ hc).mono ?_
   rintro e w5 ⟨rfl, rfl⟩
   rw [HC.out]
   go_wp2
   go_ret
   rw [HZ.out]
   exact ⟨rfl, HB4.out⟩
  | true =>
   have HC := hid hC
   clear hC
   go_wp2_with fail
   refine (isName_any c _ hc).mono ?_
   rintro e w5 ⟨rfl, rfl⟩
   rw [HC.out]
   have HZ : Hid (insFault ⟨op, 0, 0, { data := #[] }, c, { data := #[] }⟩ = 0) := hid (by rw [HS.out, if_neg (by rw [HR.out]; decide)]; exact if_neg (fun h => h.elim (fun h => by rw [HT.out] at h; cases h) (fun h => h.elim (fun h => by have h := h.2; rw [HC.out] at h; cases h) (fun h => by have h := h.1; rw [hkN] at h; cases h))))
   go_wp2
   go_ret
   rw [HZ.out]
   exact ⟨rfl, HB4.out⟩
theorem rclassC (op a b : Int) (t c n : ByteArray) (w : World) (hne : Hid (∀ w, Calls Tryz.prog 112 #[.int .i64 op] w fun e w' => e = .returned (.agg #[.bool false, .bool false, .bool false, .bool true, .bool false]) ∧ Below w.heap.size w w')) (ho : 1 ≤ op ∧ op ≤ 28) (hkA : needA op = false) (hkB : needB op = false) (hkT : needT op = false) (hkC : needC op = true) (hkN : needN op = false) (hJ : jumpsOp op = false) (h2 : op ≠ 2) (h4 : op ≠ 4) (h5 : op ≠ 5) (h9 : op ≠ 9) (ht : t.size ≤ 10000000) (hc : c.size ≤ 9223372036854775807) (hn : n.size ≤ 9223372036854775807) :
  Calls Tryz.prog 90 #[.agg #[.int .i64 op, .int .i64 a, .int .i64 b, .string t, .string c, .string n]] w fun e w' => e = .returned (.int .i64 (insFault ⟨op, a, b, t, c, n⟩)) ∧ Below w.heap.size w w' := by
 by_cases zA : ¬ a = 0
 ·exact rbadC_A op a b t c n w hne ho hkA zA
 obtain rfl : a = 0 := Classical.not_not.1 zA
 by_cases zB : ¬ b = 0
 ·exact rbadC_B op b t c n w hne ho hkB zB
 obtain rfl : b = 0 := Classical.not_not.1 zB
 by_cases zT : t.data.toList ≠ []
 ·exact rbadC_T op t c n w hne ho hkT zT
 obtain rfl : t = { data := #[] } := bs_of (Classical.not_not.1 zT)
 by_cases zN : n.data.toList ≠ []
 ·exact rbadC_N op c n w hne ho hkN zN
 obtain rfl : n = { data := #[] } := bs_of (Classical.not_not.1 zN)
 exact rgoodC op c w hne hkC hkN ho hJ h2 h4 h5 h9 hc
end Go.Proofs.YtlhobhnbgdicjaaGreatDoor.ins
