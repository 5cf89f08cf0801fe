/- Worlds: has, joined. Condition: the class is not great. -/
import Derived.Test.YtloonnfelgokmaaGreatDoorZWld4
import Derived.Test.YtloonnfelgokmaaGreatDoorZCls6
import Derived.Sort.Grow
import Derived.Sort.EncStr
set_option maxRecDepth 100000
set_option maxHeartbeats 16000000
set_option linter.unusedSimpArgs false
set_option linter.unusedVariables false
namespace Go.Proofs.YtloonnfelgokmaaGreatDoor.worlds
open Go.RowKit lib maps classes errs
theorem look_ok {w : World} {b : Nat} {W : WL} (h : WAt w b W) (n : ByteArray) :
  ∃ nm sup a1 n1 c1 face a2 n2 c2 a3 n3 c3, (cAt W n).cells.toArray = #[.string nm, .string sup, .slice a1 n1 c1, .bool face, .slice a2 n2 c2, .slice a3 n3 c3] ∧ (cAt W n).face = face ∧
   (Instr.lookup 64 (.map (some b)) (.string n) true).run Tryz.prog w = .ok (.tuple #[.agg #[.string nm, .string sup, .slice a1 n1 c1, .bool face, .slice a2 n2 c2, .slice a3 n3 c3], .bool (getK W n).isSome]) w := by
 have hlk := world_look_ok h n
 have hat := h.at_ n
 obtain ⟨⟨nm, sup, vf, face, vd, vm, faces, fields, mets⟩, hc⟩ : ∃ c, cAt W n = c := ⟨_, rfl⟩
 rw [hc] at hlk hat ⊢
 obtain ⟨a1, c1, a2, c2, a3, c3, e1, e2, e3⟩ := cls_vals hat
 simp only at e1 e2 e3
 subst e1 e2 e3
 exact ⟨_, _, _, _, _, _, _, _, _, _, _, _, rfl, rfl, hlk⟩
theorem has_any (W : WL) (b : Nat) (n : ByteArray) (face : Bool) (w : World) (hW : WAt w b W) :
  Calls Tryz.prog 85 #[.map (some b), .string n, .bool face] w fun e w' => e = .returned (errVal (hasFault W n face)) ∧ Below w.heap.size w w' := by
 obtain ⟨nm, sup, a1, n1, c1, fc, a2, n2, c2, a3, n3, c3, _, hfc, hlk⟩ := look_ok hW n
 cases hg : getK W n with
 | none =>
  have hz : errVal (hasFault W n face) = .iface 53 (.int .i64 3) := by unfold hasFault; rw [hg]; rfl
  rw [hz]
  rw [hg] at hlk
  simp only [Option.isSome_none] at hlk
  clear hW hg hz hfc
  go_enter Tryz.func85, Tryz.ntmps85
  go_wp2
  go_ret
  exact ⟨rfl, ext_alloc _ _⟩
 | some c =>
  have hcc : cAt W n = c := by unfold cAt; rw [hg]; rfl
  rw [hcc] at hfc
  rw [hg] at hlk
  simp only [Option.isSome_some] at hlk
  have hz : hasFault W n face = if c.face ≠ face then 7 else 0 := by unfold hasFault; rw [hg]
  rw [hz, hfc]
  clear hW hg hz hcc hfc
  cases fc <;> cases face
  ·go_enter Tryz.func85, Tryz.ntmps85
   go_wp2
   go_ret
   exact ⟨rfl, ext_alloc _ _⟩
  ·go_enter Tryz.func85, Tryz.ntmps85
   go_wp2
   go_ret
   exact ⟨rfl, ext_alloc _ _⟩
  ·go_enter Tryz.func85, Tryz.ntmps85
   go_wp2
   go_ret
   exact ⟨rfl, ext_alloc _ _⟩
  ·go_enter Tryz.func85, Tryz.ntmps85
   go_wp2
   go_ret
   exact ⟨rfl, ext_alloc _ _⟩
theorem isIn_some {W : WL} {n : ByteArray} (h : (getK W n).isSome = true) : isIn W n = 0 := if_pos h
theorem isIn_none {W : WL} {n : ByteArray} (h : ¬ (getK W n).isSome = true) : isIn W n = 3 := if_neg h
theorem joined_any (W : WL) (b : Nat) (c : CV) (w : World) (hW : WAt w b W) (hc : c.At w) (hs : c.faces.length ≤ 1048576) :
  Calls Tryz.prog 46 #[.map (some b), .agg c.cells.toArray] w fun e w' => e = .returned (errVal (joinFault W c)) ∧ Below w.heap.size w w' := by
 have HW := hid hW
 obtain ⟨nm, sup, vf, face, vd, vm, faces, fields, mets⟩ := c
 obtain ⟨a1, c1, a2, c2, a3, c3, e1, e2, e3⟩ := cls_vals hc
 simp only at e1 e2 e3 hs
 subst e1 e2 e3
 have HF := hid (show Sl w (.slice a1 faces.length c1) faces.length 1 (faces.map .string) from hc.faces)
 show Calls Tryz.prog 46 #[.map (some b), .agg #[.string nm, .string sup, .slice a1 faces.length c1, .bool face, .slice a2 fields.length c2, .slice a3 mets.length c3]] w _
 obtain ⟨Z, hZ⟩ : ∃ Z, joinFault W ⟨nm, sup, .slice a1 faces.length c1, face, .slice a2 fields.length c2, .slice a3 mets.length c3, faces, fields, mets⟩ = Z := ⟨_, rfl⟩
 rw [hZ]
 have HZ : Hid ((if sup = noB then 1 else if isIn W sup ≠ 0 then 3 else if firstF (isIn W) faces ≠ 0 then 3 else if hasFault W sup false ≠ 0 then hasFault W sup false else if firstF (fun f => hasFault W f true) faces ≠ 0 then firstF (fun f => hasFault W f true) faces else if face = true ∧ sup ≠ objB then 7 else 0) = Z) := hid hZ
 clear hZ hc hW
 obtain ⟨W1, hW1⟩ : ∃ W1, w.alloc (.cells #[.string nm, .string sup, .slice a1 faces.length c1, .bool face, .slice a2 fields.length c2, .slice a3 mets.length c3] 28) = W1 := ⟨_, rfl⟩
 have HB1 : Hid (Below w.heap.size w W1) := hid (hW1 ▸ ext_alloc _ _)
 have hlt : w.heap.size < W1.heap.size := by rw [← hW1]; simp
 have HR1 : Hid (W1.heap[w.heap.size]? = some (.cells #[.string nm, .string sup, .slice a1 faces.length c1, .bool face, .slice a2 fields.length c2, .slice a3 mets.length c3] 28 (0, 0))) := hid (hW1 ▸ heap_alloc_new _ _)
 have HX : Hid (∀ u, Below W1.heap.size W1 u → u.cell? ⟨w.heap.size, 1, none⟩ = some (.string sup) ∧ u.cell? ⟨w.heap.size, 2, none⟩ = some (.slice a1 faces.length c1) ∧ u.cell? ⟨w.heap.size, 3, none⟩ = some (.bool face)) := hid (fun u hu => by
  have h := (hu.block _ hlt).trans HR1.out
  refine ⟨?_, ?_, ?_⟩ <;> (rw [cell_of_row _ _ _ _ _ _ h]; rfl))
 obtain ⟨x1, x2, x3⟩ := HX.out _ (Below.refl _ _)
 have HLT := hid hlt
 clear hlt
 by_cases h0 : sup = noB
 ·have h1 := (noB_iff sup).1 h0
  have h2 : (sup.toList == []) = true := by rw [h1]; rfl
  have hz := HZ.out
  rw [if_pos h0] at hz
  subst hz
  clear h0
  go_enter Tryz.func46, Tryz.ntmps46
  go_wp2
  go_ret
  exact ⟨rfl, HB1.out⟩
 have h1 : ¬ sup.toList = [] := fun h => h0 ((noB_iff sup).2 h)
 have h2 : (sup.toList == []) = false := beq_eq_false_iff_ne.2 h1
 have HZ1 := hid HZ.out
 rw [if_neg h0] at HZ1
 clear h0 HZ
 obtain ⟨nm4, sup4, b1, m1, d1, fc4, b2, m2, d2, b3, m3, d3, _, _, hlk⟩ := look_ok (HW.out.below HB1.out) sup
 by_cases h3 : (getK W sup).isSome = true
 ·rw [h3] at hlk
  obtain ⟨W2, hW2⟩ : ∃ W2, W1.alloc (.cells #[.string nm4, .string sup4, .slice b1 m1 d1, .bool fc4, .slice b2 m2 d2, .slice b3 m3 d3] 28) = W2 := ⟨_, rfl⟩
  have HB12 : Hid (Below W1.heap.size W1 W2) := hid (hW2 ▸ ext_alloc _ _)
  have HB2 := hid (HB1.out.trans (HB12.out.mono HB1.out.size))
  obtain ⟨y1, y2, y3⟩ := HX.out _ HB12.out
  have HZ2 := hid HZ1.out
  rw [isIn_some h3, if_neg (by simp)] at HZ2
  clear h3 HZ1
  go_enter Tryz.func46, Tryz.ntmps46
  go_wp2
  clear hlk hW1 hW2 x1 x2 x3 y1 y2 y3
  go_loopw [32] (fun v wr => ∃ k : Nat, k ≤ faces.length ∧ v = .int .i64 (k : Int) ∧ Hid (Below W2.heap.size W2 wr) ∧ Hid (firstF (isIn W) (faces.drop k) = firstF (isIn W) faces)) (fun v _ => faces.length - (intOf v).toNat)
  case atStart => exact ⟨0, Nat.zero_le _, rfl, hid (Below.refl _ _), hid rfl⟩
  case round =>
   obtain ⟨k, hk, rfl, HBw, HFF⟩ := hrel
   obtain ⟨wa, hwa⟩ : ∃ wa, wa = wr := ⟨_, rfl⟩
   subst hwa
   have HB1w := hid (HB12.out.trans (HBw.out.mono HB12.out.size))
   have HB0w := hid (HB1.out.trans (HB1w.out.mono HB1.out.size))
   by_cases hlt : k < faces.length
   ·obtain ⟨bx, ox, hax, hcx⟩ := text_at (HF.out.below HB0w.out) hlt
    subst hax
    obtain ⟨s, hs1⟩ : ∃ s, faces[k] = s := ⟨_, rfl⟩
    rw [hs1] at hcx
    have hk0 : (0 : Int) ≤ (k : Int) := by omega
    have hk1 : (k : Int) < (faces.length : Int) := by omega
    obtain ⟨nm5, sup5, p1, m5, e1, fc5, p2, m6, e2, p3, m7, e3, _, _, hlk⟩ := look_ok (HW.out.below HB0w.out) s
    by_cases h5 : (getK W s).isSome = true
    ·rw [h5] at hlk
     have HN := hid ((ff_ok hlt (by rw [hs1]; exact isIn_some h5)).symm.trans HFF.out)
     clear h5 hs1
     go_wp2_with fail
     go_roundw
     case rel => exact ⟨k + 1, by omega, by simp, hid (HBw.out.alloc HBw.out.size _), HN⟩
     case measure => simp [intOf]; omega
    ·have hn : (getK W s).isSome = false := by simpa using h5
     rw [hn] at hlk
     have hz := HZ2.out
     have h6 : firstF (isIn W) faces = 3 := by rw [← HFF.out, ff_no hlt (by rw [hs1, isIn_none h5]; decide), hs1, isIn_none h5]
     rw [h6, if_pos (by decide)] at hz
     subst hz
     clear h5 hn hs1 h6
     go_wp2
     go_ret
     exact ⟨rfl, HB0w.out.alloc HB0w.out.size _⟩
   ·obtain rfl : k = faces.length := by omega
    have h6 : firstF (isIn W) faces = 0 := by rw [← HFF.out, ff_end (by omega)]
    have HZ3 := hid HZ2.out
    rw [h6, if_neg (by simp)] at HZ3
    obtain ⟨x1, x2, x3⟩ := HX.out _ HB1w.out
    clear h6 hlt HFF
    go_wp2_with fail
    refine (has_any W b sup false _ (HW.out.below HB0w.out)).mono ?_
    rintro e w4 ⟨rfl, hb4⟩
    have HB14 := hid (HB1w.out.trans (hb4.mono HB1w.out.size))
    have HB4 := hid (HB0w.out.trans (hb4.mono HB0w.out.size))
    obtain ⟨x1, x2, x3⟩ := HX.out _ HB14.out
    clear hb4
    by_cases h7 : hasFault W sup false = 0
    ·rw [show errVal (hasFault W sup false) = .nilIface from by unfold errVal; rw [if_pos h7]]
     have HZ4 := hid HZ3.out
     rw [h7, if_neg (by simp)] at HZ4
     clear h7 HZ3
     go_wp2
     clear x1 x2 x3
     go_loopw [56] (fun v wx => ∃ k2 : Nat, k2 ≤ faces.length ∧ v = .int .i64 (k2 : Int) ∧ Hid (Below w4.heap.size w4 wx) ∧ Hid (firstF (fun f => hasFault W f true) (faces.drop k2) = firstF (fun f => hasFault W f true) faces)) (fun v _ => faces.length - (intOf v).toNat)
     case atStart => exact ⟨0, Nat.zero_le _, rfl, hid (Below.refl _ _), hid rfl⟩
     case round =>
      obtain ⟨k2, hk2, rfl, HBw2, HFF2⟩ := hrel
      have HB14w := hid (HB14.out.trans (HBw2.out.mono HB14.out.size))
      have HB4w := hid (HB4.out.trans (HBw2.out.mono HB4.out.size))
      by_cases hlt2 : k2 < faces.length
      ·obtain ⟨bx, ox, hax, hcx⟩ := text_at (HF.out.below HB4w.out) hlt2
       subst hax
       obtain ⟨s, hs1⟩ : ∃ s, faces[k2] = s := ⟨_, rfl⟩
       rw [hs1] at hcx
       have hk0 : (0 : Int) ≤ (k2 : Int) := by omega
       have hk1 : (k2 : Int) < (faces.length : Int) := by omega
       go_wp2_with fail
       refine (has_any W b s true _ (HW.out.below HB4w.out)).mono ?_
       rintro e w5 ⟨rfl, hb5⟩
       have HB5w := hid (HBw2.out.trans (hb5.mono HBw2.out.size))
       have HB5 := hid (HB4w.out.trans (hb5.mono HB4w.out.size))
       clear hb5 hcx
       by_cases h8 : hasFault W s true = 0
       ·rw [show errVal (hasFault W s true) = .nilIface from by unfold errVal; rw [if_pos h8]]
        have HN := hid ((ff_ok (f := fun f => hasFault W f true) hlt2 (by rw [hs1]; exact h8)).symm.trans HFF2.out)
        clear h8 hs1
        go_wp2_with fail
        go_roundw
        case rel => exact ⟨k2 + 1, by omega, by simp, HB5w, HN⟩
        case measure => simp [intOf]; omega
       ·rw [show errVal (hasFault W s true) = .iface 53 (.int .i64 (hasFault W s true)) from by unfold errVal; rw [if_neg h8]]
        have h9 : firstF (fun f => hasFault W f true) faces = hasFault W s true := by rw [← HFF2.out, ff_no (f := fun f => hasFault W f true) hlt2 (by rw [hs1]; exact h8), hs1]
        have hz := HZ4.out
        rw [h9, if_pos h8] at hz
        have hzv : errVal Z = .iface 53 (.int .i64 (hasFault W s true)) := by rw [← hz]; unfold errVal; rw [if_neg h8]
        have HZV := hid hzv
        clear h8 hz hzv h9 hs1
        go_wp2
        go_ret
        exact ⟨by rw [HZV.out]; rfl, HB5.out⟩
      ·obtain rfl : k2 = faces.length := by omega
       have h9 : firstF (fun f => hasFault W f true) faces = 0 := by rw [← HFF2.out, ff_end (by omega)]
       have hz := HZ4.out
       rw [h9, if_neg (by simp)] at hz
       obtain ⟨x1, x2, x3⟩ := HX.out _ HB14w.out
       clear h9 hlt2 HFF2
       cases face with
       | false =>
        rw [if_neg (by simp)] at hz
        subst hz
        go_wp2
        go_ret
        exact ⟨rfl, HB4w.out⟩
       | true =>
        by_cases hso : sup = objB
        ·rw [if_neg (by simp [hso])] at hz
         subst hz
         have ho1 : (sup.toList == [79, 98, 106, 101, 99, 116]) = true := by rw [hso, ByteArray.toList_eq]; rfl
         have ho2 : sup.toList = [79, 98, 106, 101, 99, 116] := by simpa using ho1
         clear hso
         go_wp2
         go_ret
         exact ⟨rfl, HB4w.out⟩
        ·rw [if_pos ⟨rfl, hso⟩] at hz
         subst hz
         have ho2 : ¬ sup.toList = [79, 98, 106, 101, 99, 116] := fun h => hso (by
          rw [ByteArray.toList_eq] at h
          cases sup with
          | mk d =>
           have : d = #[79, 98, 106, 101, 99, 116] := by
            apply Array.toList_inj.1; exact h
           subst this; rfl)
         have ho1 : (sup.toList == [79, 98, 106, 101, 99, 116]) = false := beq_eq_false_iff_ne.2 ho2
         clear hso
         go_wp2
         go_ret
         exact ⟨rfl, HB4w.out⟩
    ·rw [show errVal (hasFault W sup false) = .iface 53 (.int .i64 (hasFault W sup false)) from by unfold errVal; rw [if_neg h7]]
     have hz := HZ3.out
     rw [if_pos h7] at hz
     have hzv : errVal Z = .iface 53 (.int .i64 (hasFault W sup false)) := by rw [← hz]; unfold errVal; rw [if_neg h7]
     have HZV := hid hzv
     clear h7 hz hzv
     go_wp2
     go_ret
     exact ⟨by rw [HZV.out]; rfl, HB4.out⟩
 ·have hn : (getK W sup).isSome = false := by simpa using h3
  rw [hn] at hlk
  have hz := HZ1.out
  rw [isIn_none h3, if_pos (by decide)] at hz
  subst hz
  clear h3 hn
  go_enter Tryz.func46, Tryz.ntmps46
  go_wp2
  go_ret
  exact ⟨rfl, HB1.out.alloc HB1.out.size _⟩
def sortB (l : List ByteArray) : List ByteArray := ((l.map fun x => x.data.toList).mergeSort fun x y => decide (x ≤ y)).map fun x => ⟨x.toArray⟩
theorem sortB_len (l : List ByteArray) : (sortB l).length = l.length := by unfold sortB; rw [List.length_map, List.length_mergeSort, List.length_map]
theorem mem_sortB {l : List ByteArray} {x : ByteArray} : x ∈ sortB l ↔ x ∈ l := by
 unfold sortB
 simp only [List.mem_map, List.mem_mergeSort]
 constructor
 ·rintro ⟨_, ⟨y, hy, rfl⟩, rfl⟩
  exact hy
 ·intro h
  exact ⟨_, ⟨x, h, rfl⟩, rfl⟩
theorem inT_sort (l : List ByteArray) (x : ByteArray) : inTexts x (sortB l) = inTexts x l := by
 rw [Bool.eq_iff_iff, inT_mem, inT_mem, mem_sortB]
theorem below_sorted {w0 w : World} (h : Below w0.heap.size w0 w) {g : Nat} (hg : w0.heap.size ≤ g) (n : Nat) (d : Array (List UInt8)) (os : Array Obj) : Below w0.heap.size w0 (Go.Sort.grow (Go.Sort.putRow Go.Proofs.encStr (Go.Sort.ahead w n) g 0 d) os) := by
 refine h.trans ⟨rfl, rfl, rfl, ?_, fun k hk => ?_⟩
 ·rw [Go.Sort.size_grow, Go.Sort.size_putRow, Go.Sort.heap_ahead]; omega
 ·have hkw : k < w.heap.size := Nat.lt_of_lt_of_le hk h.size
  rw [Go.Sort.heap_grow_old _ _ (by rw [Go.Sort.size_putRow, Go.Sort.heap_ahead]; exact hkw)]
  have hne : ¬ g = k := by omega
  simp [Go.Sort.putRow, Go.Sort.mapBlock, Go.Sort.ahead, Array.getElem?_modify, hne]
theorem sort_any {w0 w : World} {v : Value} {l : List ByteArray} (ho : Out w0 w 9 1 v l.length (l.map .string)) (h1 : 1 ≤ l.length) (hsz : l.length ≤ 1000000000) :
  Calls Tryz.prog 153 #[v] w fun e w' => e = .returned (.tuple #[]) ∧ Sl w' v l.length 1 ((sortB l).map .string) ∧ Below w0.heap.size w0 w' := by
 rcases ho.own.2 with ⟨_, h0⟩ | ⟨g, cap, cur, rfl, hg, hrow, hc, _, hcs, hxs⟩
 ·omega
 rw [Nat.mul_one] at hxs
 obtain ⟨ss, hss⟩ : ∃ ss, l.map (fun x => x.data.toList) = ss := ⟨_, rfl⟩
 have hsl : ss.length = l.length := by rw [← hss, List.length_map]
 have hgl : g < w.heap.size := (zh hrow).1
 have hH : Go.Sort.Holds Go.Proofs.encStr w g 0 ss.toArray := by
  intro j hj
  have hjl : j < l.length := by rw [← hsl]; simpa using hj
  refine ⟨?_, ?_⟩
  ·rw [Nat.zero_add, cell_of_row _ _ _ _ _ _ hrow]
   have e1 : (cur.toList.take l.length)[j]? = cur[j]? := by rw [List.getElem?_take, if_pos hjl, Array.getElem?_toList]
   rw [← e1, hxs, List.getElem?_map, List.getElem?_eq_getElem hjl]
   have e2 : ss.toArray[j]! = l[j].data.toList := by
    subst hss
    simp [hjl]
   rw [e2]
   simp [Go.Proofs.encStr]
  ·exact frozen_of_row _ _ _ _ _ hrow
 have hrun := Tryz.slices_Sort_string g 0 cap ss w hH hgl (by omega)
 rw [hsl] at hrun
 refine hrun.mono ?_
 rintro e w' ⟨rfl, n, os, rfl⟩
 refine ⟨rfl, ?_, below_sorted ho.below hg n _ os⟩
 obtain ⟨d, hd⟩ : ∃ d, (ss.mergeSort fun x y => decide (x ≤ y)) = d := ⟨_, rfl⟩
 rw [hd]
 have hdl : d.length = ss.length := by rw [← hd, List.length_mergeSort]
 have hP := Go.Sort.holds_putRow Go.Proofs.encStr (Go.Sort.ahead w n) g 0 ss.toArray d.toArray hH (by simpa using hdl)
 have hG := Go.Sort.holds_grow Go.Proofs.encStr _ os g 0 d.toArray (by rw [Go.Sort.size_putRow, Go.Sort.heap_ahead]; exact hgl) hP
 have hsb : sortB l = d.map fun x => ⟨x.toArray⟩ := by unfold sortB; rw [hss, hd]
 refine ⟨by rw [List.length_map, sortB_len, Nat.mul_one], _, _, rfl, hc, .inr ⟨g, 0, rfl, fun j u hj => ?_⟩⟩
 rw [hsb, List.map_map, List.getElem?_map] at hj
 have hjd : j < d.length := by
  rcases Nat.lt_or_ge j d.length with h | h
  ·exact h
  ·rw [List.getElem?_eq_none h] at hj; cases hj
 rw [List.getElem?_eq_getElem hjd] at hj
 have := (hG j (by simpa using hjd)).1
 rw [this]
 have e3 : d.toArray[j]! = d[j] := by simp [hjd]
 rw [e3]
 simpa [Go.Proofs.encStr] using hj
theorem add_snoc (l : List ByteArray) (x : ByteArray) : ∀ R, addAll R (l ++ [x]) = if inTexts x (addAll R l) = true then addAll R l else addAll R l ++ [x] := by
 induction l with
 | nil => intro R; rfl
 | cons a l ih => intro R; simp only [List.cons_append, addAll]; exact ih _
theorem sl_keep {w w' : World} {v : Value} {n s : Nat} {xs : List Value} {r : Option Nat} (h : Sl w v n s xs) (hg : w.grownBy w' r) (ha : ∀ g, v.ownBlock = some g → r ≠ some g) : Sl w' v n s xs := by
 obtain ⟨hx, a, c, rfl, hc, h⟩ := h
 refine ⟨hx, a, c, rfl, hc, ?_⟩
 rcases h with h | ⟨b, off, rfl, h⟩
 ·exact .inl h
 ·refine .inr ⟨b, off, rfl, fun j u hj => ?_⟩
  have h1 := h j u hj
  have hb := World.block_lt_of_cell? _ _ h1
  have := hg.block b hb (fun e => ha b rfl e.symm)
  unfold World.cell? at h1 ⊢
  simp only at h1 ⊢
  rw [this]; exact h1
structure ERel (w0 wx : World) (R A : List ByteArray) (k : Nat) (v vA : Value) : Prop where
 out : Out w0 wx 9 1 v (addAll R (A.take k)).length ((addAll R (A.take k)).map .string)
 sla : Sl wx vA A.length 1 (A.map .string)
 ap : A ≠ [] → ∀ g, vA.ownBlock = some g → v.ownBlock ≠ some g ∧ g < wx.heap.size
theorem sl_blk {w : World} {v : Value} {n : Nat} {l : List ByteArray} (h : Sl w v n 1 (l.map .string)) (hl : l ≠ []) {g : Nat} (hg : v.ownBlock = some g) : g < w.heap.size := by
 obtain ⟨hx, a, c, rfl, hc, h⟩ := h
 rcases h with h | ⟨b, off, rfl, h⟩
 ·exact absurd (List.map_eq_nil_iff.1 h) hl
 ·have : b = g := Option.some.inj hg
  subst this
  obtain ⟨x, r, rfl⟩ := List.exists_cons_of_ne_nil hl
  exact World.block_lt_of_cell? _ _ (h 0 _ rfl)
theorem add_append (l m : List ByteArray) : ∀ R, addAll R (l ++ m) = addAll (addAll R l) m := by
 induction l with
 | nil => intro R; rfl
 | cons a l ih => intro R; simp only [List.cons_append, addAll]; exact ih _
theorem add_len (R l : List ByteArray) : R.length ≤ (addAll R l).length := by
 obtain ⟨r, h⟩ := add_pre l R
 rw [h, List.length_append]; omega
theorem every_any (W : WL) (b : Nat) (n : ByteArray) (w : World) (hW : WAt w b W) (hs : ∀ x, (cAt W x).faces.length ≤ 1048576) (hm : most W ≤ 13000001) :
  Calls Tryz.prog 89 #[.map (some b), .string n] w fun e w' => ∃ v, e = .returned v ∧ Sl w' v (everyU W n).length 1 ((sortB (everyU W n)).map .string) ∧ Below w.heap.size w w' := by
 have HW := hid hW
 have HS := hid hs
 have HM := hid hm
 obtain ⟨W1, hW1⟩ : ∃ W1, w.alloc (.cells #[.string n] 9) = W1 := ⟨_, rfl⟩
 have HO1 : Hid (Out w W1 9 1 (.slice (some ⟨w.heap.size, 0, none⟩) 1 1) 1 [.string n]) := hid (hW1 ▸ out_one (Below.refl _ _) 9 (.string n))
 clear hW hs hm
 go_enter Tryz.func89, Tryz.ntmps89
 go_wp2
 clear hW1
 go_loopw [5, 6] (fun v5 v6 wr => ∃ i : Nat, i ≤ (rounds W n i).length ∧ v6 = .int .i64 (i : Int) ∧ Hid (Out w wr 9 1 v5 (rounds W n i).length ((rounds W n i).map .string))) (fun _ v6 _ => most W - (intOf v6).toNat)
 case atStart => exact ⟨0, Nat.zero_le _, rfl, HO1⟩
 case round =>
  obtain ⟨i, hi, rfl, HR⟩ := hrel
  clear HO1
  obtain ⟨wa, hwa⟩ : ∃ wa, wa = wr := ⟨_, rfl⟩
  subst hwa
  obtain ⟨R, hR⟩ : ∃ R, rounds W n i = R := ⟨_, rfl⟩
  have HRR := hid hR
  have hml := Nat.le_trans (rounds_most W n i) HM.out
  rw [hR] at HR hi hml
  obtain ⟨av, cv, rfl⟩ := HR.out.sl.val
  have hi0 : (0 : Int) ≤ (i : Int) := by omega
  by_cases hlt : i < R.length
  ·have hi1 : (i : Int) < (R.length : Int) := by omega
   obtain ⟨bx, ox, hax, hcx⟩ := text_at HR.out.sl hlt
   subst hax
   obtain ⟨a, ha⟩ : ∃ a, R[i] = a := ⟨_, rfl⟩
   rw [ha] at hcx
   have HA := hid ha
   have HWR := hid (HW.out.below HR.out.below)
   have hWS := HS.out a
   clear hR ha
   go_wp2_with fail
   refine (above_any W b a _ HWR.out hWS).mono ?_
   rintro e w2 ⟨vA, rfl, hsa, hb2, hor⟩
   obtain ⟨A, hA⟩ : ∃ A, above W a = A := ⟨_, rfl⟩
   rw [hA] at hsa
   have HAA := hid hA
   have HE0 : Hid (ERel w w2 R A 0 (.slice (some ⟨bx, ox, none⟩) R.length cv) vA) := hid (by
    have ho := HR.out.own
    refine ⟨⟨?_, HR.out.below.trans (hb2.mono HR.out.below.size)⟩, hsa, fun hne g hg => ⟨fun e => ?_, sl_blk hsa hne hg⟩⟩
    ·rw [List.take_zero]
     show World.ownsRow w2 _ _ _ _ R.length (R.map .string)
     refine ⟨ho.1, ?_⟩
     rcases ho.2 with h | ⟨g', cap, cur, h1, h2, h3, h4⟩
     ·exact .inl h
     ·exact .inr ⟨g', cap, cur, h1, h2, (hb2.block g' (zh h3).1).trans h3, h4⟩
    ·have hge := HR.out.own.lt g e
     rcases hor with h | h
     ·rw [h] at hg
      have hf := (HW.out.at_ a).faces
      rw [h] at hsa
      have hfa : (cAt W a).faces ≠ [] := by
       intro h0
       rw [h0] at hf
       have : A.length = 0 := by
        have h5 := hsa.1
        obtain ⟨_, _, _, h6, _⟩ := hsa
        obtain ⟨_, _, _, h7, _⟩ := hf
        rw [h6] at h7
        simp only [Value.slice.injEq] at h7
        simpa using h7.2.1
       exact hne (List.eq_nil_of_length_eq_zero this)
      have := sl_blk hf hfa hg
      omega
     ·have := h g hg
      omega)
   obtain ⟨aA, cA, rfl⟩ := hsa.val
   clear hsa hb2 hor hA hcx
   have HST : Hid (rounds W n (i + 1) = addAll R A) := hid (by
    show (match (rounds W n i)[i]? with | some a => addAll (rounds W n i) (above W a) | none => rounds W n i) = _
    rw [HRR.out, List.getElem?_eq_getElem hlt, HA.out]
    simp only [HAA.out])
   have hAl : A.length ≤ 1048577 := by
    rw [← HAA.out]
    unfold above aboveC
    split
    ·omega
    ·simp only [List.length_cons]; omega
   have hml2 : (addAll R A).length ≤ 13000001 := by rw [← HST.out]; exact Nat.le_trans (rounds_most W n (i + 1)) HM.out
   go_wp2
   go_loopw [5, 24] (fun v5 v24 wx => ∃ k : Nat, k ≤ A.length ∧ v24 = .int .i64 (k : Int) ∧ Hid (ERel w wx R A k v5 (.slice aA A.length cA))) (fun _ v24 _ => A.length - (intOf v24).toNat)
   case atStart => exact ⟨0, Nat.zero_le _, rfl, HE0⟩
   case round =>
    obtain ⟨k, hk, rfl, HE⟩ := hrel
    clear HE0
    by_cases hlt2 : k < A.length
    ·obtain ⟨by_, oy, hay, hcy⟩ := text_at HE.out.sla hlt2
     subst hay
     obtain ⟨x, hx⟩ : ∃ x, A[k] = x := ⟨_, rfl⟩
     rw [hx] at hcy
     obtain ⟨S, hS⟩ : ∃ S, addAll R (A.take k) = S := ⟨_, rfl⟩
     have HS1 : Hid (addAll R (A.take (k + 1)) = if inTexts x S = true then S else S ++ [x]) := hid (by rw [List.take_add_one, List.getElem?_eq_getElem hlt2, hx, ← hS]; exact add_snoc _ _ _)
     have hSl : S.length ≤ 13000001 := by
      have h1 := add_append (A.take k) (A.drop k) R
      rw [List.take_append_drop, hS] at h1
      have h2 := add_len S (A.drop k)
      rw [← h1] at h2
      omega
     have HOUT : Hid (Out w wr 9 1 u5 S.length (S.map .string)) := hid (by rw [← hS]; exact HE.out.out)
     obtain ⟨a5, c5, rfl⟩ := HOUT.out.sl.val
     have hk0 : (0 : Int) ≤ (k : Int) := by omega
     have hk1 : (k : Int) < (A.length : Int) := by omega
     clear hx hS
     go_wp2_with fail
     refine (hasText_any _ _ _ S x _ HOUT.out.sl (by omega)).mono ?_
     rintro e w3 ⟨rfl, rfl⟩
     by_cases hin : inTexts x S = true
     ·rw [hin]
      have HIN := hid hin
      clear hin
      go_wp2_with fail
      go_roundw
      case rel => exact ⟨k + 1, by omega, by simp, hid ⟨by rw [HS1.out, if_pos HIN.out]; exact HOUT.out, HE.out.sla, HE.out.ap⟩⟩
      case measure => simp [intOf]; omega
     ·have hinf : inTexts x S = false := by simpa using hin
      rw [hinf]
      have HIN := hid hinf
      clear hin hinf hcy
      go_wp2_with (at_builtin; refine wpList_append_lit_at w wr _ rfl _ _ 24 rfl 9 (.string { data := #[] }) 1 16 1 Tryz.underlying24 infoS rfl (by decide) _ _ _ HOUT.out rfl rfl rfl ?_ ?_ ?_ ?_)
      all_goals first | (intro v2 w2' ho2 hg2 hat2) | omega | (simp [Value.oneCell']; done) | skip
      have HE2 : Hid (ERel w w2' R A (k + 1) v2 (.slice (some ⟨by_, oy, none⟩) A.length cA)) := hid (by
       have hne : A ≠ [] := fun h => by rw [h] at hlt2; exact Nat.not_lt_zero _ hlt2
       refine ⟨?_, sl_keep HE.out.sla hg2 (fun g hg => (HE.out.ap hne g hg).1), fun _ g hg => ?_⟩
       ·have e1 : (addAll R (A.take (k + 1))) = S ++ [x] := by rw [HS1.out, if_neg (by rw [HIN.out]; simp)]
        rw [e1, List.length_append, List.map_append]
        exact ho2
       ·obtain ⟨h1, h2⟩ := HE.out.ap hne g hg
        have h3 := hg2.size
        refine ⟨fun e => ?_, by omega⟩
        rcases hat2 with h4 | ⟨q, h4, h5⟩
        ·rw [h4] at e; exact h1 e
        ·rw [h4] at e
         have := Option.some.inj e
         omega)
      clear ho2 hg2 hat2
      go_wp2_with fail
      go_roundw
      case rel => exact ⟨k + 1, by omega, by simp, HE2⟩
      case measure => simp [intOf]; omega
    ·obtain rfl : k = A.length := by omega
     have HN : Hid (Out w wr 9 1 u5 (rounds W n (i + 1)).length ((rounds W n (i + 1)).map .string)) := hid (by
      have := HE.out.out
      rw [List.take_length, ← HST.out] at this; exact this)
     have HNL : Hid (i + 1 ≤ (rounds W n (i + 1)).length) := hid (by
      have h := add_len R A
      rw [← HST.out] at h; omega)
     have HML : Hid (i < most W) := hid (by
      have := rounds_most W n i
      rw [HRR.out] at this; omega)
     go_wp2_with fail
     go_roundw
     case rel => exact ⟨i + 1, HNL.out, by simp, HN⟩
     case measure => have := HML.out; simp [intOf]; omega
  ·have HI : Hid (i = R.length) := hid (by omega)
   have HU : Hid (R = everyU W n) := hid (by
    have h := rounds_all (W := W) (n := n) (i := i) (by rw [hR]; omega) (by
     have := rounds_most W n i
     rw [hR] at this; omega)
    rw [hR] at h; exact h)
   have hi1 : ¬ (i : Int) < (R.length : Int) := by omega
   have hlen : 1 ≤ R.length := by have := rounds_len W n i; rw [hR] at this; exact this
   have hsz : R.length ≤ 1000000000 := by omega
   clear hR
   go_wp2_with fail
   refine (sort_any HR.out hlen hsz).mono ?_
   rintro e w4 ⟨rfl, hs4, hb4⟩
   rw [HU.out] at hs4
   have HS4 := hid hs4
   have HB4 := hid hb4
   clear hs4 hb4
   go_wp2
   go_ret
   exact ⟨_, rfl, by have := HS4.out; rw [← HU.out] at this ⊢; exact this, HB4.out⟩
end Go.Proofs.YtloonnfelgokmaaGreatDoor.worlds
