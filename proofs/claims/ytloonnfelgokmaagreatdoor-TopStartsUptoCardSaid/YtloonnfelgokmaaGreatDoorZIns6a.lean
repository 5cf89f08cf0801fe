/- Instructions: ins.Check, by what a kind needs (1). Condition: the type's text is shorter than ten million bytes. -/
import Derived.Test.YtloonnfelgokmaaGreatDoorZInsZ
import Derived.Test.YtloonnfelgokmaaGreatDoorZIns5
set_option maxRecDepth 100000
set_option maxHeartbeats 16000000
set_option linter.unusedSimpArgs false
set_option linter.unusedVariables false
namespace Go.Proofs.YtloonnfelgokmaaGreatDoor.ins
open Go.RowKit lib errs names descs
theorem badZ_A (op : Int) (a b : Int) (t c n : ByteArray) (W : ByteArray) (w : World) (hof : Hid (∀ w, FormsAt w → Calls Tryz.prog 111 #[.int .i64 op] w fun e w' => e = .returned (.tuple #[.agg #[.string W, .string { data := #[] }], .bool true]) ∧ Below w.heap.size w w')) (hf : Hid (FormsAt w)) (ho : 1 ≤ op ∧ op ≤ 28) (hkA : needA op = false) (hx : ¬ a = 0) :
  Calls Tryz.prog 60 #[.agg #[.int .i64 op, .int .i64 a, .int .i64 b, .string t, .string c, .string n]] w fun e w' => e = .returned (errVal (insFault ⟨op, a, b, t, c, n⟩)) ∧ Below w.heap.size w w' := by
 have hx2 : ¬ a = 0 := hx
 have HS : Hid (insFault ⟨op, a, b, t, c, n⟩ = 1) := hid (by
  unfold insFault
  rw [if_neg (by simp only; omega), if_pos]
  simp [bareOk, hkA, hx2])
 have hxb : (a == 0) = false := by simp [hx]
 have hxm : (a != 0) = true := by simp [hx]
 clear hkA ho hx2
 have hbx := Box.new w (⟨op, a, b, t, c, n⟩ : I) 56
 have HBX := hid hbx
 clear hbx
 have HE := hid (ext_alloc w (.cells #[.int .i64 op, .int .i64 a, .int .i64 b, .string t, .string c, .string n] 56))
 go_enter Tryz.func60, Tryz.ntmps60
 go_wp2_with fail
 refine (hof.out _ (hf.out.below HE.out)).mono ?_
 rintro e w1 ⟨rfl, hb1⟩
 have HB1 := hid (HE.out.trans (hb1.mono HE.out.size))
 have hlt1 : w.heap.size < w1.heap.size := Nat.lt_of_lt_of_le (by simp) hb1.size
 have HX1 := hid ((HBX.out.below hb1).below (ext_alloc w1 (.cells #[.string W, .string { data := #[] }] 180)))
 have hE2 := ext_alloc w1 (.cells #[.string W, .string { data := #[] }] 180)
 have HB2 := hid (HB1.out.trans (hE2.mono HB1.out.size))
 have hfc : (w1.alloc (.cells #[.string W, .string { data := #[] }] 180)).cell? ⟨w1.heap.size, 1, none⟩ = some (.string { data := #[] }) := by rw [World.cell?_alloc_at _ _ _ _ rfl]; rfl
 have HFC := hid hfc
 obtain ⟨c0, c1, c2, c3, c4, c5⟩ := HX1.out
 clear hb1 hE2
 go_wp2_with fail
 refine (letter_any 65 _ { data := #[] } _ HFC.out).mono ?_
 rintro e wl ⟨rfl, rfl⟩
 rw [show decide (0 ≤ Lib.indexByte ({ data := #[] } : ByteArray).data.toList 65) = false from rfl]
 go_wp2
 go_ret
 rw [HS.out]
 exact ⟨rfl, HB2.out⟩
theorem badZ_B (op : Int) (b : Int) (t c n : ByteArray) (W : ByteArray) (w : World) (hof : Hid (∀ w, FormsAt w → Calls Tryz.prog 111 #[.int .i64 op] w fun e w' => e = .returned (.tuple #[.agg #[.string W, .string { data := #[] }], .bool true]) ∧ Below w.heap.size w w')) (hf : Hid (FormsAt w)) (ho : 1 ≤ op ∧ op ≤ 28) (hkB : needB op = false) (hx : ¬ b = 0) :
  Calls Tryz.prog 60 #[.agg #[.int .i64 op, .int .i64 0, .int .i64 b, .string t, .string c, .string n]] w fun e w' => e = .returned (errVal (insFault ⟨op, 0, b, t, c, n⟩)) ∧ Below w.heap.size w w' := by
 have hx2 : ¬ b = 0 := hx
 have HS : Hid (insFault ⟨op, 0, b, t, c, n⟩ = 1) := hid (by
  unfold insFault
  rw [if_neg (by simp only; omega), if_pos]
  simp [bareOk, hkB, hx2])
 have hxb : (b == 0) = false := by simp [hx]
 have hxm : (b != 0) = true := by simp [hx]
 clear hkB ho hx2
 have hbx := Box.new w (⟨op, 0, b, t, c, n⟩ : I) 56
 have HBX := hid hbx
 clear hbx
 have HE := hid (ext_alloc w (.cells #[.int .i64 op, .int .i64 0, .int .i64 b, .string t, .string c, .string n] 56))
 go_enter Tryz.func60, Tryz.ntmps60
 go_wp2_with fail
 refine (hof.out _ (hf.out.below HE.out)).mono ?_
 rintro e w1 ⟨rfl, hb1⟩
 have HB1 := hid (HE.out.trans (hb1.mono HE.out.size))
 have hlt1 : w.heap.size < w1.heap.size := Nat.lt_of_lt_of_le (by simp) hb1.size
 have HX1 := hid ((HBX.out.below hb1).below (ext_alloc w1 (.cells #[.string W, .string { data := #[] }] 180)))
 have hE2 := ext_alloc w1 (.cells #[.string W, .string { data := #[] }] 180)
 have HB2 := hid (HB1.out.trans (hE2.mono HB1.out.size))
 have hfc : (w1.alloc (.cells #[.string W, .string { data := #[] }] 180)).cell? ⟨w1.heap.size, 1, none⟩ = some (.string { data := #[] }) := by rw [World.cell?_alloc_at _ _ _ _ rfl]; rfl
 have HFC := hid hfc
 obtain ⟨c0, c1, c2, c3, c4, c5⟩ := HX1.out
 clear hb1 hE2
 go_wp2_with fail
 refine (letter_any 65 _ { data := #[] } _ HFC.out).mono ?_
 rintro e wl ⟨rfl, rfl⟩
 rw [show decide (0 ≤ Lib.indexByte ({ data := #[] } : ByteArray).data.toList 65) = false from rfl]
 go_wp2_with fail
 refine (letter_any 66 _ { data := #[] } _ HFC.out).mono ?_
 rintro e wl ⟨rfl, rfl⟩
 rw [show decide (0 ≤ Lib.indexByte ({ data := #[] } : ByteArray).data.toList 66) = false from rfl]
 go_wp2
 go_ret
 rw [HS.out]
 exact ⟨rfl, HB2.out⟩
theorem badZ_T (op : Int) (t c n : ByteArray) (W : ByteArray) (w : World) (hof : Hid (∀ w, FormsAt w → Calls Tryz.prog 111 #[.int .i64 op] w fun e w' => e = .returned (.tuple #[.agg #[.string W, .string { data := #[] }], .bool true]) ∧ Below w.heap.size w w')) (hf : Hid (FormsAt w)) (ho : 1 ≤ op ∧ op ≤ 28) (hkT : needT op = false) (hx : t.data.toList ≠ []) :
  Calls Tryz.prog 60 #[.agg #[.int .i64 op, .int .i64 0, .int .i64 0, .string t, .string c, .string n]] w fun e w' => e = .returned (errVal (insFault ⟨op, 0, 0, t, c, n⟩)) ∧ Below w.heap.size w w' := by
 have hx2 : ¬ t.data = #[] := fun h => hx (by rw [h])
 have HS : Hid (insFault ⟨op, 0, 0, t, c, n⟩ = 1) := hid (by
  unfold insFault
  rw [if_neg (by simp only; omega), if_pos]
  simp [bareOk, hkT, hx2])
 have hxb : t.toList.isEmpty = false := by rw [ByteArray.toList_eq]; cases h : t.data.toList with
  | nil => exact absurd h hx
  | cons _ _ => rfl
 have hxl : ¬ t.toList = [] := fun h => hx (str_list.1 h)
 clear hkT ho hx2 hx
 have hbx := Box.new w (⟨op, 0, 0, t, c, n⟩ : I) 56
 have HBX := hid hbx
 clear hbx
 have HE := hid (ext_alloc w (.cells #[.int .i64 op, .int .i64 0, .int .i64 0, .string t, .string c, .string n] 56))
 go_enter Tryz.func60, Tryz.ntmps60
 go_wp2_with fail
 refine (hof.out _ (hf.out.below HE.out)).mono ?_
 rintro e w1 ⟨rfl, hb1⟩
 have HB1 := hid (HE.out.trans (hb1.mono HE.out.size))
 have hlt1 : w.heap.size < w1.heap.size := Nat.lt_of_lt_of_le (by simp) hb1.size
 have HX1 := hid ((HBX.out.below hb1).below (ext_alloc w1 (.cells #[.string W, .string { data := #[] }] 180)))
 have hE2 := ext_alloc w1 (.cells #[.string W, .string { data := #[] }] 180)
 have HB2 := hid (HB1.out.trans (hE2.mono HB1.out.size))
 have hfc : (w1.alloc (.cells #[.string W, .string { data := #[] }] 180)).cell? ⟨w1.heap.size, 1, none⟩ = some (.string { data := #[] }) := by rw [World.cell?_alloc_at _ _ _ _ rfl]; rfl
 have HFC := hid hfc
 obtain ⟨c0, c1, c2, c3, c4, c5⟩ := HX1.out
 clear hb1 hE2
 go_wp2_with fail
 refine (letter_any 65 _ { data := #[] } _ HFC.out).mono ?_
 rintro e wl ⟨rfl, rfl⟩
 rw [show decide (0 ≤ Lib.indexByte ({ data := #[] } : ByteArray).data.toList 65) = false from rfl]
 go_wp2_with fail
 refine (letter_any 66 _ { data := #[] } _ HFC.out).mono ?_
 rintro e wl ⟨rfl, rfl⟩
 rw [show decide (0 ≤ Lib.indexByte ({ data := #[] } : ByteArray).data.toList 66) = false from rfl]
 go_wp2_with fail
 refine (letter_any 84 _ { data := #[] } _ HFC.out).mono ?_
 rintro e wl ⟨rfl, rfl⟩
 rw [show decide (0 ≤ Lib.indexByte ({ data := #[] } : ByteArray).data.toList 84) = false from rfl]
 go_wp2
 go_ret
 rw [HS.out]
 exact ⟨rfl, HB2.out⟩
theorem badZ_C (op : Int) (c n : ByteArray) (W : ByteArray) (w : World) (hof : Hid (∀ w, FormsAt w → Calls Tryz.prog 111 #[.int .i64 op] w fun e w' => e = .returned (.tuple #[.agg #[.string W, .string { data := #[] }], .bool true]) ∧ Below w.heap.size w w')) (hf : Hid (FormsAt w)) (ho : 1 ≤ op ∧ op ≤ 28) (hkC : needC op = false) (hx : c.data.toList ≠ []) :
  Calls Tryz.prog 60 #[.agg #[.int .i64 op, .int .i64 0, .int .i64 0, .string { data := #[] }, .string c, .string n]] w fun e w' => e = .returned (errVal (insFault ⟨op, 0, 0, { data := #[] }, c, n⟩)) ∧ Below w.heap.size w w' := by
 have hx2 : ¬ c.data = #[] := fun h => hx (by rw [h])
 have HS : Hid (insFault ⟨op, 0, 0, { data := #[] }, c, n⟩ = 1) := hid (by
  unfold insFault
  rw [if_neg (by simp only; omega), if_pos]
  simp [bareOk, hkC, hx2])
 have hxb : c.toList.isEmpty = false := by rw [ByteArray.toList_eq]; cases h : c.data.toList with
  | nil => exact absurd h hx
  | cons _ _ => rfl
 have hxl : ¬ c.toList = [] := fun h => hx (str_list.1 h)
 clear hkC ho hx2 hx
 have hbx := Box.new w (⟨op, 0, 0, { data := #[] }, c, n⟩ : I) 56
 have HBX := hid hbx
 clear hbx
 have HE := hid (ext_alloc w (.cells #[.int .i64 op, .int .i64 0, .int .i64 0, .string { data := #[] }, .string c, .string n] 56))
 go_enter Tryz.func60, Tryz.ntmps60
 go_wp2_with fail
 refine (hof.out _ (hf.out.below HE.out)).mono ?_
 rintro e w1 ⟨rfl, hb1⟩
 have HB1 := hid (HE.out.trans (hb1.mono HE.out.size))
 have hlt1 : w.heap.size < w1.heap.size := Nat.lt_of_lt_of_le (by simp) hb1.size
 have HX1 := hid ((HBX.out.below hb1).below (ext_alloc w1 (.cells #[.string W, .string { data := #[] }] 180)))
 have hE2 := ext_alloc w1 (.cells #[.string W, .string { data := #[] }] 180)
 have HB2 := hid (HB1.out.trans (hE2.mono HB1.out.size))
 have hfc : (w1.alloc (.cells #[.string W, .string { data := #[] }] 180)).cell? ⟨w1.heap.size, 1, none⟩ = some (.string { data := #[] }) := by rw [World.cell?_alloc_at _ _ _ _ rfl]; rfl
 have HFC := hid hfc
 obtain ⟨c0, c1, c2, c3, c4, c5⟩ := HX1.out
 clear hb1 hE2
 go_wp2_with fail
 refine (letter_any 65 _ { data := #[] } _ HFC.out).mono ?_
 rintro e wl ⟨rfl, rfl⟩
 rw [show decide (0 ≤ Lib.indexByte ({ data := #[] } : ByteArray).data.toList 65) = false from rfl]
 go_wp2_with fail
 refine (letter_any 66 _ { data := #[] } _ HFC.out).mono ?_
 rintro e wl ⟨rfl, rfl⟩
 rw [show decide (0 ≤ Lib.indexByte ({ data := #[] } : ByteArray).data.toList 66) = false from rfl]
 go_wp2_with fail
 refine (letter_any 84 _ { data := #[] } _ HFC.out).mono ?_
 rintro e wl ⟨rfl, rfl⟩
 rw [show decide (0 ≤ Lib.indexByte ({ data := #[] } : ByteArray).data.toList 84) = false from rfl]
 go_wp2_with fail
 refine (letter_any 67 _ { data := #[] } _ HFC.out).mono ?_
 rintro e wl ⟨rfl, rfl⟩
 rw [show decide (0 ≤ Lib.indexByte ({ data := #[] } : ByteArray).data.toList 67) = false from rfl]
 go_wp2
 go_ret
 rw [HS.out]
 exact ⟨rfl, HB2.out⟩
theorem badZ_N (op : Int) (n : ByteArray) (W : ByteArray) (w : World) (hof : Hid (∀ w, FormsAt w → Calls Tryz.prog 111 #[.int .i64 op] w fun e w' => e = .returned (.tuple #[.agg #[.string W, .string { data := #[] }], .bool true]) ∧ Below w.heap.size w w')) (hf : Hid (FormsAt w)) (ho : 1 ≤ op ∧ op ≤ 28) (hkN : needN op = false) (hx : n.data.toList ≠ []) :
  Calls Tryz.prog 60 #[.agg #[.int .i64 op, .int .i64 0, .int .i64 0, .string { data := #[] }, .string { data := #[] }, .string n]] w fun e w' => e = .returned (errVal (insFault ⟨op, 0, 0, { data := #[] }, { data := #[] }, n⟩)) ∧ Below w.heap.size w w' := by
 have hx2 : ¬ n.data = #[] := fun h => hx (by rw [h])
 have HS : Hid (insFault ⟨op, 0, 0, { data := #[] }, { data := #[] }, n⟩ = 1) := hid (by
  unfold insFault
  rw [if_neg (by simp only; omega), if_pos]
  simp [bareOk, hkN, hx2])
 have hxb : n.toList.isEmpty = false := by rw [ByteArray.toList_eq]; cases h : n.data.toList with
  | nil => exact absurd h hx
  | cons _ _ => rfl
 have hxl : ¬ n.toList = [] := fun h => hx (str_list.1 h)
 clear hkN ho hx2 hx
 have hbx := Box.new w (⟨op, 0, 0, { data := #[] }, { data := #[] }, n⟩ : I) 56
 have HBX := hid hbx
 clear hbx
 have HE := hid (ext_alloc w (.cells #[.int .i64 op, .int .i64 0, .int .i64 0, .string { data := #[] }, .string { data := #[] }, .string n] 56))
 go_enter Tryz.func60, Tryz.ntmps60
 go_wp2_with fail
 refine (hof.out _ (hf.out.below HE.out)).mono ?_
 rintro e w1 ⟨rfl, hb1⟩
 have HB1 := hid (HE.out.trans (hb1.mono HE.out.size))
 have hlt1 : w.heap.size < w1.heap.size := Nat.lt_of_lt_of_le (by simp) hb1.size
 have HX1 := hid ((HBX.out.below hb1).below (ext_alloc w1 (.cells #[.string W, .string { data := #[] }] 180)))
 have hE2 := ext_alloc w1 (.cells #[.string W, .string { data := #[] }] 180)
 have HB2 := hid (HB1.out.trans (hE2.mono HB1.out.size))
 have hfc : (w1.alloc (.cells #[.string W, .string { data := #[] }] 180)).cell? ⟨w1.heap.size, 1, none⟩ = some (.string { data := #[] }) := by rw [World.cell?_alloc_at _ _ _ _ rfl]; rfl
 have HFC := hid hfc
 obtain ⟨c0, c1, c2, c3, c4, c5⟩ := HX1.out
 clear hb1 hE2
 go_wp2_with fail
 refine (letter_any 65 _ { data := #[] } _ HFC.out).mono ?_
 rintro e wl ⟨rfl, rfl⟩
 rw [show decide (0 ≤ Lib.indexByte ({ data := #[] } : ByteArray).data.toList 65) = false from rfl]
 go_wp2_with fail
 refine (letter_any 66 _ { data := #[] } _ HFC.out).mono ?_
 rintro e wl ⟨rfl, rfl⟩
 rw [show decide (0 ≤ Lib.indexByte ({ data := #[] } : ByteArray).data.toList 66) = false from rfl]
 go_wp2_with fail
 refine (letter_any 84 _ { data := #[] } _ HFC.out).mono ?_
 rintro e wl ⟨rfl, rfl⟩
 rw [show decide (0 ≤ Lib.indexByte ({ data := #[] } : ByteArray).data.toList 84) = false from rfl]
 go_wp2_with fail
 refine (letter_any 67 _ { data := #[] } _ HFC.out).mono ?_
 rintro e wl ⟨rfl, rfl⟩
 rw [show decide (0 ≤ Lib.indexByte ({ data := #[] } : ByteArray).data.toList 67) = false from rfl]
 go_wp2_with fail
 refine (letter_any 78 _ { data := #[] } _ HFC.out).mono ?_
 rintro e wl ⟨rfl, rfl⟩
 rw [show decide (0 ≤ Lib.indexByte ({ data := #[] } : ByteArray).data.toList 78) = false from rfl]
 go_wp2
 go_ret
 rw [HS.out]
 exact ⟨rfl, HB2.out⟩
theorem goodZ (op : Int) (W : ByteArray) (w : World) (hof : Hid (∀ w, FormsAt w → Calls Tryz.prog 111 #[.int .i64 op] w fun e w' => e = .returned (.tuple #[.agg #[.string W, .string { data := #[] }], .bool true]) ∧ Below w.heap.size w w')) (hf : Hid (FormsAt w)) (ho : 1 ≤ op ∧ op ≤ 28) (hkC : needC op = false) (hkN : needN op = false) :
  Calls Tryz.prog 60 #[.agg #[.int .i64 op, .int .i64 0, .int .i64 0, .string { data := #[] }, .string { data := #[] }, .string { data := #[] }]] w fun e w' => e = .returned (errVal (insFault ⟨op, 0, 0, { data := #[] }, { data := #[] }, { data := #[] }⟩)) ∧ Below w.heap.size w w' := by
 have hS : insFault ⟨op, 0, 0, { data := #[] }, { data := #[] }, { data := #[] }⟩ = if rangedOk ⟨op, 0, 0, { data := #[] }, { data := #[] }, { data := #[] }⟩ = false then 2 else if typedOk ⟨op, 0, 0, { data := #[] }, { data := #[] }, { data := #[] }⟩ = false ∨ (needC op = true ∧ nameOk ({ data := #[] } : ByteArray).data.toList = false) ∨ (needN op = true ∧ nameOk ({ data := #[] } : ByteArray).data.toList = false) then 1 else 0 := by
  unfold insFault
  rw [if_neg (by simp only; omega), if_neg (by simp [bareOk])]
 have HS := hid hS
 clear hS ho
 have hbx := Box.new w (⟨op, 0, 0, { data := #[] }, { data := #[] }, { data := #[] }⟩ : I) 56
 have HBX := hid hbx
 clear hbx
 have HE := hid (ext_alloc w (.cells #[.int .i64 op, .int .i64 0, .int .i64 0, .string { data := #[] }, .string { data := #[] }, .string { data := #[] }] 56))
 go_enter Tryz.func60, Tryz.ntmps60
 go_wp2_with fail
 refine (hof.out _ (hf.out.below HE.out)).mono ?_
 rintro e w1 ⟨rfl, hb1⟩
 have HB1 := hid (HE.out.trans (hb1.mono HE.out.size))
 have hlt1 : w.heap.size < w1.heap.size := Nat.lt_of_lt_of_le (by simp) hb1.size
 have HX1 := hid ((HBX.out.below hb1).below (ext_alloc w1 (.cells #[.string W, .string { data := #[] }] 180)))
 have hE2 := ext_alloc w1 (.cells #[.string W, .string { data := #[] }] 180)
 have HB2 := hid (HB1.out.trans (hE2.mono HB1.out.size))
 have hfc : (w1.alloc (.cells #[.string W, .string { data := #[] }] 180)).cell? ⟨w1.heap.size, 1, none⟩ = some (.string { data := #[] }) := by rw [World.cell?_alloc_at _ _ _ _ rfl]; rfl
 have HFC := hid hfc
 obtain ⟨c0, c1, c2, c3, c4, c5⟩ := HX1.out
 clear hb1 hE2
 go_wp2_with fail
 refine (letter_any 65 _ { data := #[] } _ HFC.out).mono ?_
 rintro e wl ⟨rfl, rfl⟩
 rw [show decide (0 ≤ Lib.indexByte ({ data := #[] } : ByteArray).data.toList 65) = false from rfl]
 go_wp2_with fail
 refine (letter_any 66 _ { data := #[] } _ HFC.out).mono ?_
 rintro e wl ⟨rfl, rfl⟩
 rw [show decide (0 ≤ Lib.indexByte ({ data := #[] } : ByteArray).data.toList 66) = false from rfl]
 go_wp2_with fail
 refine (letter_any 84 _ { data := #[] } _ HFC.out).mono ?_
 rintro e wl ⟨rfl, rfl⟩
 rw [show decide (0 ≤ Lib.indexByte ({ data := #[] } : ByteArray).data.toList 84) = false from rfl]
 go_wp2_with fail
 refine (letter_any 67 _ { data := #[] } _ HFC.out).mono ?_
 rintro e wl ⟨rfl, rfl⟩
 rw [show decide (0 ≤ Lib.indexByte ({ data := #[] } : ByteArray).data.toList 67) = false from rfl]
 go_wp2_with fail
 refine (letter_any 78 _ { data := #[] } _ HFC.out).mono ?_
 rintro e wl ⟨rfl, rfl⟩
 rw [show decide (0 ≤ Lib.indexByte ({ data := #[] } : ByteArray).data.toList 78) = false from rfl]
 go_wp2_with fail
 refine (ranged_any op 0 0 { data := #[] } { data := #[] } { data := #[] } _).mono ?_
 rintro e w3 ⟨rfl, hb3⟩
 have HX3 := hid (HX1.out.below hb3)
 have HB3 := hid (HB2.out.trans (hb3.mono HB2.out.size))
 have HFC3 : Hid (w3.cell? ⟨w1.heap.size, 1, none⟩ = some (.string { data := #[] })) := hid (by rw [hb3.cell (World.block_lt_of_cell? _ _ HFC.out)]; exact HFC.out)
 clear c0 c1 c2 c3 c4 c5 hb3 hfc
 cases hR : rangedOk ⟨op, 0, 0, { data := #[] }, { data := #[] }, { data := #[] }⟩ with
 | false =>
  have HZ : Hid (insFault ⟨op, 0, 0, { data := #[] }, { data := #[] }, { data := #[] }⟩ = 2) := hid (by rw [HS.out, if_pos hR])
  clear hR
  go_wp2
  go_ret
  rw [HZ.out]
  exact ⟨rfl, HB3.out⟩
 | true =>
  have HR := hid hR
  clear hR
  obtain ⟨c0, c1, c2, c3, c4, c5⟩ := HX3.out
  go_wp2_with fail
  refine (typed_any op 0 0 { data := #[] } { data := #[] } { data := #[] } _ (by decide)).mono ?_
  rintro e w4 ⟨rfl, hb4⟩
  have HX4 := hid (HX3.out.below hb4)
  have HB4 := hid (HB3.out.trans (hb4.mono HB3.out.size))
  have HFC4 : Hid (w4.cell? ⟨w1.heap.size, 1, none⟩ = some (.string { data := #[] })) := hid (by rw [hb4.cell (World.block_lt_of_cell? _ _ HFC3.out)]; exact HFC3.out)
  clear c0 c1 c2 c3 c4 c5 hb4
  cases hT : typedOk ⟨op, 0, 0, { data := #[] }, { data := #[] }, { data := #[] }⟩ with
  | false =>
   have HZ : Hid (insFault ⟨op, 0, 0, { data := #[] }, { data := #[] }, { data := #[] }⟩ = 1) := hid (by rw [HS.out, if_neg (by rw [HR.out]; decide), if_pos (.inl hT)])
   clear hT
   go_wp2
   go_ret
   rw [HZ.out]
   exact ⟨rfl, HB4.out⟩
  | true =>
   have HT := hid hT
   clear hT
   obtain ⟨c0, c1, c2, c3, c4, c5⟩ := HX4.out
   go_wp2_with fail
   refine (letter_any 67 _ { data := #[] } _ HFC4.out).mono ?_
   rintro e wl ⟨rfl, rfl⟩
   rw [show decide (0 ≤ Lib.indexByte ({ data := #[] } : ByteArray).data.toList 67) = false from rfl]
   go_wp2_with fail
   refine (letter_any 78 _ { data := #[] } _ HFC4.out).mono ?_
   rintro e wl ⟨rfl, rfl⟩
   rw [show decide (0 ≤ Lib.indexByte ({ data := #[] } : ByteArray).data.toList 78) = false from rfl]
   have HZ : Hid (insFault ⟨op, 0, 0, { data := #[] }, { data := #[] }, { data := #[] }⟩ = 0) := hid (by rw [HS.out, if_neg (by rw [HR.out]; decide)]; exact if_neg (fun h => h.elim (fun h => by rw [HT.out] at h; cases h) (fun h => h.elim (fun h => by have h := h.1; rw [hkC] at h; cases h) (fun h => by have h := h.1; rw [hkN] at h; cases h))))
   go_wp2
   go_ret
   rw [HZ.out]
   exact ⟨rfl, HB4.out⟩
theorem classZ (op a b : Int) (t c n : ByteArray) (W : ByteArray) (w : World) (hof : Hid (∀ w, FormsAt w → Calls Tryz.prog 111 #[.int .i64 op] w fun e w' => e = .returned (.tuple #[.agg #[.string W, .string { data := #[] }], .bool true]) ∧ Below w.heap.size w w')) (hf : Hid (FormsAt w)) (ho : 1 ≤ op ∧ op ≤ 28) (hkA : needA op = false) (hkB : needB op = false) (hkT : needT op = false) (hkC : needC op = false) (hkN : needN op = false) (ht : t.size ≤ 10000000) (hc : c.size ≤ 9223372036854775807) (hn : n.size ≤ 9223372036854775807) :
  Calls Tryz.prog 60 #[.agg #[.int .i64 op, .int .i64 a, .int .i64 b, .string t, .string c, .string n]] w fun e w' => e = .returned (errVal (insFault ⟨op, a, b, t, c, n⟩)) ∧ Below w.heap.size w w' := by
 by_cases zA : ¬ a = 0
 ·exact badZ_A op a b t c n W w hof hf ho hkA zA
 obtain rfl : a = 0 := Classical.not_not.1 zA
 by_cases zB : ¬ b = 0
 ·exact badZ_B op b t c n W w hof hf ho hkB zB
 obtain rfl : b = 0 := Classical.not_not.1 zB
 by_cases zT : t.data.toList ≠ []
 ·exact badZ_T op t c n W w hof hf ho hkT zT
 obtain rfl : t = { data := #[] } := bs_of (Classical.not_not.1 zT)
 by_cases zC : c.data.toList ≠ []
 ·exact badZ_C op c n W w hof hf ho hkC zC
 obtain rfl : c = { data := #[] } := bs_of (Classical.not_not.1 zC)
 by_cases zN : n.data.toList ≠ []
 ·exact badZ_N op n W w hof hf ho hkN zN
 obtain rfl : n = { data := #[] } := bs_of (Classical.not_not.1 zN)
 exact goodZ op  W w hof hf ho hkC hkN 
theorem badAT_B (op : Int) (a b : Int) (t c n : ByteArray) (W : ByteArray) (w : World) (hof : Hid (∀ w, FormsAt w → Calls Tryz.prog 111 #[.int .i64 op] w fun e w' => e = .returned (.tuple #[.agg #[.string W, .string { data := #[65, 84] }], .bool true]) ∧ Below w.heap.size w w')) (hf : Hid (FormsAt w)) (ho : 1 ≤ op ∧ op ≤ 28) (hkB : needB op = false) (hx : ¬ b = 0) :
  Calls Tryz.prog 60 #[.agg #[.int .i64 op, .int .i64 a, .int .i64 b, .string t, .string c, .string n]] w fun e w' => e = .returned (errVal (insFault ⟨op, a, b, t, c, n⟩)) ∧ Below w.heap.size w w' := by
 have hx2 : ¬ b = 0 := hx
 have HS : Hid (insFault ⟨op, a, b, t, c, n⟩ = 1) := hid (by
  unfold insFault
  rw [if_neg (by simp only; omega), if_pos]
  simp [bareOk, hkB, hx2])
 have hxb : (b == 0) = false := by simp [hx]
 have hxm : (b != 0) = true := by simp [hx]
 clear hkB ho hx2
 have hbx := Box.new w (⟨op, a, b, t, c, n⟩ : I) 56
 have HBX := hid hbx
 clear hbx
 have HE := hid (ext_alloc w (.cells #[.int .i64 op, .int .i64 a, .int .i64 b, .string t, .string c, .string n] 56))
 go_enter Tryz.func60, Tryz.ntmps60
 go_wp2_with fail
 refine (hof.out _ (hf.out.below HE.out)).mono ?_
 rintro e w1 ⟨rfl, hb1⟩
 have HB1 := hid (HE.out.trans (hb1.mono HE.out.size))
 have hlt1 : w.heap.size < w1.heap.size := Nat.lt_of_lt_of_le (by simp) hb1.size
 have HX1 := hid ((HBX.out.below hb1).below (ext_alloc w1 (.cells #[.string W, .string { data := #[65, 84] }] 180)))
 have hE2 := ext_alloc w1 (.cells #[.string W, .string { data := #[65, 84] }] 180)
 have HB2 := hid (HB1.out.trans (hE2.mono HB1.out.size))
 have hfc : (w1.alloc (.cells #[.string W, .string { data := #[65, 84] }] 180)).cell? ⟨w1.heap.size, 1, none⟩ = some (.string { data := #[65, 84] }) := by rw [World.cell?_alloc_at _ _ _ _ rfl]; rfl
 have HFC := hid hfc
 obtain ⟨c0, c1, c2, c3, c4, c5⟩ := HX1.out
 clear hb1 hE2
 go_wp2_with fail
 refine (letter_any 65 _ { data := #[65, 84] } _ HFC.out).mono ?_
 rintro e wl ⟨rfl, rfl⟩
 rw [show decide (0 ≤ Lib.indexByte ({ data := #[65, 84] } : ByteArray).data.toList 65) = true from rfl]
 go_wp2_with fail
 refine (letter_any 66 _ { data := #[65, 84] } _ HFC.out).mono ?_
 rintro e wl ⟨rfl, rfl⟩
 rw [show decide (0 ≤ Lib.indexByte ({ data := #[65, 84] } : ByteArray).data.toList 66) = false from rfl]
 go_wp2
 go_ret
 rw [HS.out]
 exact ⟨rfl, HB2.out⟩
theorem badAT_C (op : Int) (a : Int) (t c n : ByteArray) (W : ByteArray) (w : World) (hof : Hid (∀ w, FormsAt w → Calls Tryz.prog 111 #[.int .i64 op] w fun e w' => e = .returned (.tuple #[.agg #[.string W, .string { data := #[65, 84] }], .bool true]) ∧ Below w.heap.size w w')) (hf : Hid (FormsAt w)) (ho : 1 ≤ op ∧ op ≤ 28) (hkC : needC op = false) (hx : c.data.toList ≠ []) :
  Calls Tryz.prog 60 #[.agg #[.int .i64 op, .int .i64 a, .int .i64 0, .string t, .string c, .string n]] w fun e w' => e = .returned (errVal (insFault ⟨op, a, 0, t, c, n⟩)) ∧ Below w.heap.size w w' := by
 have hx2 : ¬ c.data = #[] := fun h => hx (by rw [h])
 have HS : Hid (insFault ⟨op, a, 0, t, c, n⟩ = 1) := hid (by
  unfold insFault
  rw [if_neg (by simp only; omega), if_pos]
  simp [bareOk, hkC, hx2])
 have hxb : c.toList.isEmpty = false := by rw [ByteArray.toList_eq]; cases h : c.data.toList with
  | nil => exact absurd h hx
  | cons _ _ => rfl
 have hxl : ¬ c.toList = [] := fun h => hx (str_list.1 h)
 clear hkC ho hx2 hx
 have hbx := Box.new w (⟨op, a, 0, t, c, n⟩ : I) 56
 have HBX := hid hbx
 clear hbx
 have HE := hid (ext_alloc w (.cells #[.int .i64 op, .int .i64 a, .int .i64 0, .string t, .string c, .string n] 56))
 go_enter Tryz.func60, Tryz.ntmps60
 go_wp2_with fail
 refine (hof.out _ (hf.out.below HE.out)).mono ?_
 rintro e w1 ⟨rfl, hb1⟩
 have HB1 := hid (HE.out.trans (hb1.mono HE.out.size))
 have hlt1 : w.heap.size < w1.heap.size := Nat.lt_of_lt_of_le (by simp) hb1.size
 have HX1 := hid ((HBX.out.below hb1).below (ext_alloc w1 (.cells #[.string W, .string { data := #[65, 84] }] 180)))
 have hE2 := ext_alloc w1 (.cells #[.string W, .string { data := #[65, 84] }] 180)
 have HB2 := hid (HB1.out.trans (hE2.mono HB1.out.size))
 have hfc : (w1.alloc (.cells #[.string W, .string { data := #[65, 84] }] 180)).cell? ⟨w1.heap.size, 1, none⟩ = some (.string { data := #[65, 84] }) := by rw [World.cell?_alloc_at _ _ _ _ rfl]; rfl
 have HFC := hid hfc
 obtain ⟨c0, c1, c2, c3, c4, c5⟩ := HX1.out
 clear hb1 hE2
 go_wp2_with fail
 refine (letter_any 65 _ { data := #[65, 84] } _ HFC.out).mono ?_
 rintro e wl ⟨rfl, rfl⟩
 rw [show decide (0 ≤ Lib.indexByte ({ data := #[65, 84] } : ByteArray).data.toList 65) = true from rfl]
 go_wp2_with fail
 refine (letter_any 66 _ { data := #[65, 84] } _ HFC.out).mono ?_
 rintro e wl ⟨rfl, rfl⟩
 rw [show decide (0 ≤ Lib.indexByte ({ data := #[65, 84] } : ByteArray).data.toList 66) = false from rfl]
 go_wp2_with fail
 refine (letter_any 84 _ { data := #[65, 84] } _ HFC.out).mono ?_
 rintro e wl ⟨rfl, rfl⟩
 rw [show decide (0 ≤ Lib.indexByte ({ data := #[65, 84] } : ByteArray).data.toList 84) = true from rfl]
 go_wp2_with fail
 refine (letter_any 67 _ { data := #[65, 84] } _ HFC.out).mono ?_
 rintro e wl ⟨rfl, rfl⟩
 rw [show decide (0 ≤ Lib.indexByte ({ data := #[65, 84] } : ByteArray).data.toList 67) = false from rfl]
 go_wp2
 go_ret
 rw [HS.out]
 exact ⟨rfl, HB2.out⟩
theorem badAT_N (op : Int) (a : Int) (t n : ByteArray) (W : ByteArray) (w : World) (hof : Hid (∀ w, FormsAt w → Calls Tryz.prog 111 #[.int .i64 op] w fun e w' => e = .returned (.tuple #[.agg #[.string W, .string { data := #[65, 84] }], .bool true]) ∧ Below w.heap.size w w')) (hf : Hid (FormsAt w)) (ho : 1 ≤ op ∧ op ≤ 28) (hkN : needN op = false) (hx : n.data.toList ≠ []) :
  Calls Tryz.prog 60 #[.agg #[.int .i64 op, .int .i64 a, .int .i64 0, .string t, .string { data := #[] }, .string n]] w fun e w' => e = .returned (errVal (insFault ⟨op, a, 0, t, { data := #[] }, n⟩)) ∧ Below w.heap.size w w' := by
 have hx2 : ¬ n.data = #[] := fun h => hx (by rw [h])
 have HS : Hid (insFault ⟨op, a, 0, t, { data := #[] }, n⟩ = 1) := hid (by
  unfold insFault
  rw [if_neg (by simp only; omega), if_pos]
  simp [bareOk, hkN, hx2])
 have hxb : n.toList.isEmpty = false := by rw [ByteArray.toList_eq]; cases h : n.data.toList with
  | nil => exact absurd h hx
  | cons _ _ => rfl
 have hxl : ¬ n.toList = [] := fun h => hx (str_list.1 h)
 clear hkN ho hx2 hx
 have hbx := Box.new w (⟨op, a, 0, t, { data := #[] }, n⟩ : I) 56
 have HBX := hid hbx
 clear hbx
 have HE := hid (ext_alloc w (.cells #[.int .i64 op, .int .i64 a, .int .i64 0, .string t, .string { data := #[] }, .string n] 56))
 go_enter Tryz.func60, Tryz.ntmps60
 go_wp2_with fail
 refine (hof.out _ (hf.out.below HE.out)).mono ?_
 rintro e w1 ⟨rfl, hb1⟩
 have HB1 := hid (HE.out.trans (hb1.mono HE.out.size))
 have hlt1 : w.heap.size < w1.heap.size := Nat.lt_of_lt_of_le (by simp) hb1.size
 have HX1 := hid ((HBX.out.below hb1).below (ext_alloc w1 (.cells #[.string W, .string { data := #[65, 84] }] 180)))
 have hE2 := ext_alloc w1 (.cells #[.string W, .string { data := #[65, 84] }] 180)
 have HB2 := hid (HB1.out.trans (hE2.mono HB1.out.size))
 have hfc : (w1.alloc (.cells #[.string W, .string { data := #[65, 84] }] 180)).cell? ⟨w1.heap.size, 1, none⟩ = some (.string { data := #[65, 84] }) := by rw [World.cell?_alloc_at _ _ _ _ rfl]; rfl
 have HFC := hid hfc
 obtain ⟨c0, c1, c2, c3, c4, c5⟩ := HX1.out
 clear hb1 hE2
 go_wp2_with fail
 refine (letter_any 65 _ { data := #[65, 84] } _ HFC.out).mono ?_
 rintro e wl ⟨rfl, rfl⟩
 rw [show decide (0 ≤ Lib.indexByte ({ data := #[65, 84] } : ByteArray).data.toList 65) = true from rfl]
 go_wp2_with fail
 refine (letter_any 66 _ { data := #[65, 84] } _ HFC.out).mono ?_
 rintro e wl ⟨rfl, rfl⟩
 rw [show decide (0 ≤ Lib.indexByte ({ data := #[65, 84] } : ByteArray).data.toList 66) = false from rfl]
 go_wp2_with fail
 refine (letter_any 84 _ { data := #[65, 84] } _ HFC.out).mono ?_
 rintro e wl ⟨rfl, rfl⟩
 rw [show decide (0 ≤ Lib.indexByte ({ data := #[65, 84] } : ByteArray).data.toList 84) = true from rfl]
 go_wp2_with fail
 refine (letter_any 67 _ { data := #[65, 84] } _ HFC.out).mono ?_
 rintro e wl ⟨rfl, rfl⟩
 rw [show decide (0 ≤ Lib.indexByte ({ data := #[65, 84] } : ByteArray).data.toList 67) = false from rfl]
 go_wp2_with fail
 refine (letter_any 78 _ { data := #[65, 84] } _ HFC.out).mono ?_
 rintro e wl ⟨rfl, rfl⟩
 rw [show decide (0 ≤ Lib.indexByte ({ data := #[65, 84] } : ByteArray).data.toList 78) = false from rfl]
 go_wp2
 go_ret
 rw [HS.out]
 exact ⟨rfl, HB2.out⟩
theorem goodAT (op : Int) (a : Int) (t : ByteArray) (W : ByteArray) (w : World) (hof : Hid (∀ w, FormsAt w → Calls Tryz.prog 111 #[.int .i64 op] w fun e w' => e = .returned (.tuple #[.agg #[.string W, .string { data := #[65, 84] }], .bool true]) ∧ Below w.heap.size w w')) (hf : Hid (FormsAt w)) (ho : 1 ≤ op ∧ op ≤ 28) (hkA : needA op = true) (hkT : needT op = true) (hkC : needC op = false) (hkN : needN op = false) (ht : t.size ≤ 10000000) :
  Calls Tryz.prog 60 #[.agg #[.int .i64 op, .int .i64 a, .int .i64 0, .string t, .string { data := #[] }, .string { data := #[] }]] w fun e w' => e = .returned (errVal (insFault ⟨op, a, 0, t, { data := #[] }, { data := #[] }⟩)) ∧ Below w.heap.size w w' := by
 have hS : insFault ⟨op, a, 0, t, { data := #[] }, { data := #[] }⟩ = if rangedOk ⟨op, a, 0, t, { data := #[] }, { data := #[] }⟩ = false then 2 else if typedOk ⟨op, a, 0, t, { data := #[] }, { data := #[] }⟩ = false ∨ (needC op = true ∧ nameOk ({ data := #[] } : ByteArray).data.toList = false) ∨ (needN op = true ∧ nameOk ({ data := #[] } : ByteArray).data.toList = false) then 1 else 0 := by
  unfold insFault
  rw [if_neg (by simp only; omega), if_neg (by simp [bareOk, hkA, hkT])]
 have HS := hid hS
 clear hS ho
 clear hkA
 clear hkT
 have hbx := Box.new w (⟨op, a, 0, t, { data := #[] }, { data := #[] }⟩ : I) 56
 have HBX := hid hbx
 clear hbx
 have HE := hid (ext_alloc w (.cells #[.int .i64 op, .int .i64 a, .int .i64 0, .string t, .string { data := #[] }, .string { data := #[] }] 56))
 go_enter Tryz.func60, Tryz.ntmps60
 go_wp2_with fail
 refine (hof.out _ (hf.out.below HE.out)).mono ?_
 rintro e w1 ⟨rfl, hb1⟩
 have HB1 := hid (HE.out.trans (hb1.mono HE.out.size))
 have hlt1 : w.heap.size < w1.heap.size := Nat.lt_of_lt_of_le (by simp) hb1.size
 have HX1 := hid ((HBX.out.below hb1).below (ext_alloc w1 (.cells #[.string W, .string { data := #[65, 84] }] 180)))
 have hE2 := ext_alloc w1 (.cells #[.string W, .string { data := #[65, 84] }] 180)
 have HB2 := hid (HB1.out.trans (hE2.mono HB1.out.size))
 have hfc : (w1.alloc (.cells #[.string W, .string { data := #[65, 84] }] 180)).cell? ⟨w1.heap.size, 1, none⟩ = some (.string { data := #[65, 84] }) := by rw [World.cell?_alloc_at _ _ _ _ rfl]; rfl
 have HFC := hid hfc
 obtain ⟨c0, c1, c2, c3, c4, c5⟩ := HX1.out
 clear hb1 hE2
 go_wp2_with fail
 refine (letter_any 65 _ { data := #[65, 84] } _ HFC.out).mono ?_
 rintro e wl ⟨rfl, rfl⟩
 rw [show decide (0 ≤ Lib.indexByte ({ data := #[65, 84] } : ByteArray).data.toList 65) = true from rfl]
 go_wp2_with fail
 refine (letter_any 66 _ { data := #[65, 84] } _ HFC.out).mono ?_
 rintro e wl ⟨rfl, rfl⟩
 rw [show decide (0 ≤ Lib.indexByte ({ data := #[65, 84] } : ByteArray).data.toList 66) = false from rfl]
 go_wp2_with fail
 refine (letter_any 84 _ { data := #[65, 84] } _ HFC.out).mono ?_
 rintro e wl ⟨rfl, rfl⟩
 rw [show decide (0 ≤ Lib.indexByte ({ data := #[65, 84] } : ByteArray).data.toList 84) = true from rfl]
 go_wp2_with fail
 refine (letter_any 67 _ { data := #[65, 84] } _ HFC.out).mono ?_
 rintro e wl ⟨rfl, rfl⟩
 rw [show decide (0 ≤ Lib.indexByte ({ data := #[65, 84] } : ByteArray).data.toList 67) = false from rfl]
 go_wp2_with fail
 refine (letter_any 78 _ { data := #[65, 84] } _ HFC.out).mono ?_
 rintro e wl ⟨rfl, rfl⟩
 rw [show decide (0 ≤ Lib.indexByte ({ data := #[65, 84] } : ByteArray).data.toList 78) = false from rfl]
 go_wp2_with fail
 refine (ranged_any op a 0 t { data := #[] } { data := #[] } _).mono ?_
 rintro e w3 ⟨rfl, hb3⟩
 have HX3 := hid (HX1.out.below hb3)
 have HB3 := hid (HB2.out.trans (hb3.mono HB2.out.size))
 have HFC3 : Hid (w3.cell? ⟨w1.heap.size, 1, none⟩ = some (.string { data := #[65, 84] })) := hid (by rw [hb3.cell (World.block_lt_of_cell? _ _ HFC.out)]; exact HFC.out)
 clear c0 c1 c2 c3 c4 c5 hb3 hfc
 cases hR : rangedOk ⟨op, a, 0, t, { data := #[] }, { data := #[] }⟩ with
 | false =>
  have HZ : Hid (insFault ⟨op, a, 0, t, { data := #[] }, { data := #[] }⟩ = 2) := hid (by rw [HS.out, if_pos hR])
  clear hR
  go_wp2
  go_ret
  rw [HZ.out]
  exact ⟨rfl, HB3.out⟩
 | true =>
  have HR := hid hR
  clear hR
  obtain ⟨c0, c1, c2, c3, c4, c5⟩ := HX3.out
  go_wp2_with fail
  refine (typed_any op a 0 t { data := #[] } { data := #[] } _ ht).mono ?_
  rintro e w4 ⟨rfl, hb4⟩
  have HX4 := hid (HX3.out.below hb4)
  have HB4 := hid (HB3.out.trans (hb4.mono HB3.out.size))
  have HFC4 : Hid (w4.cell? ⟨w1.heap.size, 1, none⟩ = some (.string { data := #[65, 84] })) := hid (by rw [hb4.cell (World.block_lt_of_cell? _ _ HFC3.out)]; exact HFC3.out)
  clear c0 c1 c2 c3 c4 c5 hb4
  cases hT : typedOk ⟨op, a, 0, t, { data := #[] }, { data := #[] }⟩ with
  | false =>
   have HZ : Hid (insFault ⟨op, a, 0, t, { data := #[] }, { data := #[] }⟩ = 1) := hid (by rw [HS.out, if_neg (by rw [HR.out]; decide), if_pos (.inl hT)])
   clear hT
   go_wp2
   go_ret
   rw [HZ.out]
   exact ⟨rfl, HB4.out⟩
  | true =>
   have HT := hid hT
   clear hT
   obtain ⟨c0, c1, c2, c3, c4, c5⟩ := HX4.out
   go_wp2_with fail
   refine (letter_any 67 _ { data := #[65, 84] } _ HFC4.out).mono ?_
   rintro e wl ⟨rfl, rfl⟩
   rw [show decide (0 ≤ Lib.indexByte ({ data := #[65, 84] } : ByteArray).data.toList 67) = false from rfl]
   go_wp2_with fail
   refine (letter_any 78 _ { data := #[65, 84] } _ HFC4.out).mono ?_
   rintro e wl ⟨rfl, rfl⟩
   rw [show decide (0 ≤ Lib.indexByte ({ data := #[65, 84] } : ByteArray).data.toList 78) = false from rfl]
   have HZ : Hid (insFault ⟨op, a, 0, t, { data := #[] }, { data := #[] }⟩ = 0) := hid (by rw [HS.out, if_neg (by rw [HR.out]; decide)]; exact if_neg (fun h => h.elim (fun h => by rw [HT.out] at h; cases h) (fun h => h.elim (fun h => by have h := h.1; rw [hkC] at h; cases h) (fun h => by have h := h.1; rw [hkN] at h; cases h))))
   go_wp2
   go_ret
   rw [HZ.out]
   exact ⟨rfl, HB4.out⟩
theorem classAT (op a b : Int) (t c n : ByteArray) (W : ByteArray) (w : World) (hof : Hid (∀ w, FormsAt w → Calls Tryz.prog 111 #[.int .i64 op] w fun e w' => e = .returned (.tuple #[.agg #[.string W, .string { data := #[65, 84] }], .bool true]) ∧ Below w.heap.size w w')) (hf : Hid (FormsAt w)) (ho : 1 ≤ op ∧ op ≤ 28) (hkA : needA op = true) (hkB : needB op = false) (hkT : needT op = true) (hkC : needC op = false) (hkN : needN op = false) (ht : t.size ≤ 10000000) (hc : c.size ≤ 9223372036854775807) (hn : n.size ≤ 9223372036854775807) :
  Calls Tryz.prog 60 #[.agg #[.int .i64 op, .int .i64 a, .int .i64 b, .string t, .string c, .string n]] w fun e w' => e = .returned (errVal (insFault ⟨op, a, b, t, c, n⟩)) ∧ Below w.heap.size w w' := by
 by_cases zB : ¬ b = 0
 ·exact badAT_B op a b t c n W w hof hf ho hkB zB
 obtain rfl : b = 0 := Classical.not_not.1 zB
 by_cases zC : c.data.toList ≠ []
 ·exact badAT_C op a t c n W w hof hf ho hkC zC
 obtain rfl : c = { data := #[] } := bs_of (Classical.not_not.1 zC)
 by_cases zN : n.data.toList ≠ []
 ·exact badAT_N op a t n W w hof hf ho hkN zN
 obtain rfl : n = { data := #[] } := bs_of (Classical.not_not.1 zN)
 exact goodAT op a t W w hof hf ho hkA hkT hkC hkN ht
end Go.Proofs.YtloonnfelgokmaaGreatDoor.ins
